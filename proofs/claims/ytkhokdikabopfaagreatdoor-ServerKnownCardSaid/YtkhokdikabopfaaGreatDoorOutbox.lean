/-
  An empty outbox: contracts.
-/
import Derived.Test.YtkhokdikabopfaaGreatDoorQueue
namespace Go.Proofs.YtkhokdikabopfaaGreatDoor
open Go.RowKit Go.Shelf Go.Maps

theorem cells3' {w : World} {b : Nat} {T : TypeId} {z : Nat × Nat} {a0 a1 a2 : Value} (h : w.heap[b]? = some (.cells #[a0, a1, a2] T z)) :
    w.cell? ⟨b, 0, none⟩ = some a0 ∧ w.cell? ⟨b, 1, none⟩ = some a1 ∧ w.cell? ⟨b, 2, none⟩ = some a2 := ⟨cellOf h 0 rfl, cellOf h 1 rfl, cellOf h 2 rfl⟩

theorem cells4 {w : World} {b : Nat} {T : TypeId} {z : Nat × Nat} {a0 a1 a2 a3 : Value} (h : w.heap[b]? = some (.cells #[a0, a1, a2, a3] T z)) :
    w.cell? ⟨b, 0, none⟩ = some a0 ∧ w.cell? ⟨b, 1, none⟩ = some a1 ∧ w.cell? ⟨b, 2, none⟩ = some a2 ∧ w.cell? ⟨b, 3, none⟩ = some a3 := ⟨cellOf h 0 rfl, cellOf h 1 rfl, cellOf h 2 rfl, cellOf h 3 rfl⟩

/-- An outbox without pictures. -/
def OAt (w : World) (o : Nat) (n : Nat) (ra : Option Addr) (rc : Nat) : Prop :=
  w.heap[o]? = some (.cells #[.slice ra n rc, .int .i64 0, .int .i64 0] 142 (0, 0))

theorem OAt.keep {l : List Nat} {w w' : World} {o n : Nat} {ra : Option Addr} {rc : Nat} (h : OAt w o n ra rc) (k : Keeps l w w') (hn : o ∉ l) : OAt w' o n ra rc := k.blk h hn

set_option maxHeartbeats 400000 in
theorem onone {w : World} {o n : Nat} {ra : Option Addr} {rc : Nat} (h : OAt w o n ra rc) (h1 : 1 ≤ n) :
    Calls Tryz.prog 81 #[.pointer (some ⟨o, 0, none⟩)] w fun en w' => en = .returned (.bool false) ∧ w = w' := by
  obtain ⟨c0, c1, c2⟩ := cells3' h
  have h0 : ((n : Int) == 0) = false := by simp; omega
  clear h
  go_enter Tryz.func81, Tryz.ntmps81
  go_wp2
  go_ret
  simp

set_option maxHeartbeats 400000 in
theorem olen {w : World} {o n : Nat} {ra : Option Addr} {rc : Nat} (h : OAt w o n ra rc) (h1 : 1 ≤ n) :
    Calls Tryz.prog 57 #[.pointer (some ⟨o, 0, none⟩)] w fun en w' => en = .returned (.int .i64 0) ∧ Keeps [] w w' := by
  obtain ⟨c0, c1, c2⟩ := cells3' h
  have hN := Lib.hid (onone h h1)
  clear h
  go_enter Tryz.func57, Tryz.ntmps57
  go_wp2_with (go_at_call 81; refine (hN.out).mono ?_; rintro e w' ⟨rfl, rfl⟩)
  go_quiet (fail)
  go_wp2
  go_ret
  exact ⟨rfl, (by repeat (first | exact Keeps.refl _ _ | assumption | refine Keeps.drew ?_ | refine Keeps.drewN ?_ _ | refine Keeps.alloc ?_ _ | refine Keeps.setCell ?_ (by simp <;> omega) _ | refine Keeps.trans ?_ (by assumption)))⟩

theorem agg_item : Agg Tryz.prog 127 4 := ⟨fun _ => by kernel_rfl, fun _ => by kernel_rfl⟩

set_option maxHeartbeats 400000 in
theorem opop {w : World} {o n : Nat} {ra : Option Addr} {rc : Nat} (h : OAt w o n ra rc) (h1 : 1 ≤ n) :
    Calls Tryz.prog 73 #[.pointer (some ⟨o, 0, none⟩)] w fun en w' => en = .returned (.tuple #[.agg #[.int .i64 0, .int .i64 0, .int .i64 0, .int .i64 0], .int .i64 16]) ∧ Keeps [] w w' := by
  have ho := ltOf h
  have HO : Hid (∀ w', Keeps [] w w' → OAt w' o n ra rc) := Lib.hid fun w' k => h.keep k (by simp)
  clear h
  go_enter Tryz.func73, Tryz.ntmps73
  go_wp2_with (first
    | (go_at_call 81; refine (onone (HO.out _ (by repeat (first | exact Keeps.refl _ _ | assumption | refine Keeps.drew ?_ | refine Keeps.drewN ?_ _ | refine Keeps.alloc ?_ _ | refine Keeps.setCell ?_ (by simp <;> omega) _ | refine Keeps.trans ?_ (by assumption)))) h1).mono ?_; rintro e w' ⟨rfl, rfl⟩)
    | (go_at_call 57; refine (olen (HO.out _ (by repeat (first | exact Keeps.refl _ _ | assumption | refine Keeps.drew ?_ | refine Keeps.drewN ?_ _ | refine Keeps.alloc ?_ _ | refine Keeps.setCell ?_ (by simp <;> omega) _ | refine Keeps.trans ?_ (by assumption)))) h1).mono ?_; rintro e w' ⟨rfl, hk⟩; obtain ⟨b0, hk⟩ := hk.new1 (by simp); have hb0 := Lib.hid b0; obtain ⟨d0, d1, d2, d3⟩ := cells4 b0; have fr := frees b0; clear b0))
  have hb := blk_setCell (blk_setCell (blk_setCell (blk_setCell hb0.out 0 (.int .i64 0)) 1 (.int .i64 0)) 2 (.int .i64 0)) 3 (.int .i64 0)
  have hx : w.heap.size < w.heap.size → w.heap.size ∈ ([] : List Nat) := fun h => absurd h (by omega)
  exact bodyPost_ret (res_ct rfl agg_item rfl rfl rfl hb) rfl ⟨by simp, (((hk.setCell hx _).setCell hx _).setCell hx _).setCell hx _⟩

end Go.Proofs.YtkhokdikabopfaaGreatDoor
