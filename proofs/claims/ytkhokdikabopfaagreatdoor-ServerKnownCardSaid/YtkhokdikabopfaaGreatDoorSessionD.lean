/-
  A session that is over: Drain.
-/
import Derived.Test.YtkhokdikabopfaaGreatDoorSession
import Derived.RegionTactic
namespace Go.Proofs.YtkhokdikabopfaaGreatDoor
open Go.RowKit Go.Shelf Go.Maps

theorem nil_nil (w : World) : (binOp BinOp.eql 61 Value.nilFunc Value.nilFunc).run Tryz.prog w = .ok (.bool true) w := by kernel_rfl

set_option maxRecDepth 100000 in
set_option maxHeartbeats 1000000 in
theorem sdrain_over {w : World} {p : Nat} {room : Int} {slots : Nat} {z : Sess} (h : SessAt w p room slots z) (h1 : 1 ≤ slots) (hx : z.nx = .nilFunc) :
    Calls Tryz.prog 48 #[.pointer (some ⟨z.x, 0, none⟩)] w fun en w' => en = .returned (.tuple #[noPic, .int .i64 z.cause]) ∧ Keeps [] w w' := by
  have H : Hid (∀ w', Keeps [] w w' → SessAt w' p room slots z) := Lib.hid fun w' k => h.keep k (by simp)
  have HC : Hid (∀ w', Keeps [] w w' → _) := Lib.hid fun w' (k : Keeps [] w w') => (H.out w' k).c
  obtain ⟨c0, c1, c2, c3, c4, c5, c6⟩ := h.c
  have hlt := ltOf h.blk
  rw [hx] at c4
  clear h
  have hq := nil_nil
  go_enter Tryz.func48, Tryz.ntmps48
  go_wp2_with (first
    | (go_at_call 54; refine (snone (p := p) (HC.out _ (by repeat (first | exact Keeps.refl _ _ | assumption | refine Keeps.drew ?_ | refine Keeps.drewN ?_ _ | refine Keeps.alloc ?_ _ | refine Keeps.setCell ?_ (by simp <;> omega) _ | refine Keeps.trans ?_ (by assumption)))).1).mono ?_; rintro e w' ⟨rfl, rfl⟩)
    | (go_at_call 73; refine (opop (H.out _ (by repeat (first | exact Keeps.refl _ _ | assumption | refine Keeps.drew ?_ | refine Keeps.drewN ?_ _ | refine Keeps.alloc ?_ _ | refine Keeps.setCell ?_ (by simp <;> omega) _ | refine Keeps.trans ?_ (by assumption)))).o h1).mono ?_; rintro e w' ⟨rfl, hk⟩; obtain ⟨b0, hk⟩ := hk.new1 (by simp); obtain ⟨d0, d1, d2, d3, d4, d5, d6⟩ := HC.out w' hk; rw [hx] at d4; have hl2 := Nat.lt_of_lt_of_le hlt hk.size; have hl3 := ltOf b0; obtain ⟨e0, e1, e2, e3⟩ := cells4 b0; have fr := frees b0; have hb0 := Lib.hid b0; clear b0))
  go_region
  go_wp2
  have hx : w.heap.size < w.heap.size → w.heap.size ∈ ([] : List Nat) := fun h => absurd h (by omega)
  have hb1 := blk_setCell (blk_setCell (blk_setCell (blk_setCell hb0.out 0 (.int .i64 0)) 1 (.int .i64 0)) 2 (.int .i64 0)) 3 (.slice none 0 0)
  have hb := ((Keeps.refl [] _).alloc (.cells #[.int .i64 0, .int .i64 0, .int .i64 0, .int .i64 0] 127)).drew.blk hb1 (by simp)
  have hkk := (((((hk.setCell (p := ⟨w.heap.size, 0, none⟩) hx (.int .i64 0)).setCell (p := ⟨w.heap.size, 1, none⟩) hx (.int .i64 0)).setCell (p := ⟨w.heap.size, 2, none⟩) hx (.int .i64 0)).setCell (p := ⟨w.heap.size, 3, none⟩) hx (.slice none 0 0)).alloc (.cells #[.int .i64 0, .int .i64 0, .int .i64 0, .int .i64 0] 127)).drew
  exact bodyPost_ret (res_ct rfl agg_picture rfl rfl rfl hb) rfl ⟨by simp, hkk⟩

end Go.Proofs.YtkhokdikabopfaaGreatDoor
