/-
  A pool of which no frame is held: contracts.
-/
import Derived.Test.YtkhokdikabopfaaGreatDoorOutbox
import Derived.Deep.LoopGhost
namespace Go.Proofs.YtkhokdikabopfaaGreatDoor
open Go.RowKit Go.Shelf Go.Maps

/-- A pool of n frames, none of which is held; all that it is lies from A on, below B. -/
structure PoolAt (w : World) (A B p fb hb n : Nat) (iv : Value) (quota : Int) : Prop where
  blk : w.heap[p]? = some (.cells #[.slice (some ⟨fb, 0, none⟩) n n, iv, .map (some hb), .int .i64 quota] 118 (0, 0))
  frs : ∀ i, i < n → ∃ f, (A ≤ f ∧ f < B) ∧ w.cell? ⟨fb, i, none⟩ = some (.pointer (some ⟨f, 0, none⟩)) ∧ w.cell? ⟨f, 0, none⟩ = some (.int .i64 0)
  idle : ∃ a c, iv = .slice a n c
  held : IMap w hb []
  lt : p < B ∧ fb < B ∧ hb < B
  ge : A ≤ p ∧ A ≤ fb ∧ A ≤ hb

theorem PoolAt.keep {l : List Nat} {w w' : World} {A B p fb hb n : Nat} {iv : Value} {quota : Int} (h : PoolAt w A B p fb hb n iv quota) (k : Keeps l w w') (hn : ∀ b ∈ l, b < A ∨ B ≤ b) : PoolAt w' A B p fb hb n iv quota := by
  have key : ∀ b, A ≤ b → b < B → b ∉ l := fun b h0 h1 h3 => by have := hn b h3; omega
  refine ⟨k.blk h.blk (key _ h.ge.1 h.lt.1), fun i hi => ?_, h.idle, h.held.keep k (key _ h.ge.2.2 h.lt.2.2), h.lt, h.ge⟩
  obtain ⟨f, h1, h2, h3⟩ := h.frs i hi
  exact ⟨f, h1, k.cell h2 (key _ h.ge.2.1 h.lt.2.1), k.cell h3 (key _ h1.1 h1.2)⟩

set_option maxHeartbeats 400000 in
theorem pnone {w : World} {p : Nat} {quota : Int} (h : w.cell? ⟨p, 3, none⟩ = some (.int .i64 quota)) (h1 : 1 ≤ quota) :
    Calls Tryz.prog 65 #[.pointer (some ⟨p, 0, none⟩)] w fun en w' => en = .returned (.bool false) ∧ w = w' := by
  have h0 : (quota == 0) = false := by simp; omega
  go_enter Tryz.func65, Tryz.ntmps65
  go_wp2
  go_ret
  simp

set_option maxHeartbeats 400000 in
theorem pfree {w : World} {A B p fb hb n : Nat} {iv : Value} {quota : Int} (h : PoolAt w A B p fb hb n iv quota) (h1 : 1 ≤ quota) :
    Calls Tryz.prog 39 #[.pointer (some ⟨p, 0, none⟩)] w fun en w' => en = .returned (.int .i64 n) ∧ w = w' := by
  obtain ⟨c0, c1, c2, c3⟩ := cells4 h.blk
  obtain ⟨a, c, rfl⟩ := h.idle
  have hN := Lib.hid (pnone c3 h1)
  clear h
  go_enter Tryz.func39, Tryz.ntmps39
  go_wp2_with (go_at_call 65; refine (hN.out).mono ?_; rintro e w' ⟨rfl, rfl⟩)
  go_ret
  simp

theorem zero_holding (w : World) : (zeroValue 144).run Tryz.prog w = .ok (.agg #[.int .i64 0]) w := by kernel_rfl

theorem field_holding (c : Int) (w : World) : (Instr.field 144 (.agg #[.int .i64 c]) 0).run Tryz.prog w = .ok (.int .i64 c) w := by kernel_rfl

set_option maxRecDepth 100000 in
set_option maxHeartbeats 400000 in
theorem pheld {w : World} {A B p fb hb n : Nat} {iv : Value} {quota : Int} (h : PoolAt w A B p fb hb n iv quota) (h1 : 1 ≤ quota) (id : Int) :
    Calls Tryz.prog 60 #[.pointer (some ⟨p, 0, none⟩), .int .i64 id] w fun en w' => en = .returned (.int .i64 0) ∧ Keeps [] w w' := by
  obtain ⟨c0, c1, c2, c3⟩ := cells4 h.blk
  have hN := Lib.hid (pnone c3 h1)
  have hr := (run_lookup_no (P := Tryz.prog) Tryz.underlying116 Tryz.underlying3 (zero_holding w) h.held (k := id) rfl).1
  have hfl := field_holding 0 w
  clear h
  go_enter Tryz.func60, Tryz.ntmps60
  go_wp2_with (go_at_call 65; refine (hN.out).mono ?_; rintro e w' ⟨rfl, rfl⟩)
  go_ret
  exact ⟨rfl, (by repeat (first | exact Keeps.refl _ _ | assumption | refine Keeps.drew ?_ | refine Keeps.drewN ?_ _ | refine Keeps.alloc ?_ _ | refine Keeps.setCell ?_ (by simp <;> omega) _ | refine Keeps.trans ?_ (by assumption)))⟩

set_option maxHeartbeats 800000 in
theorem preclaim {w : World} {A B p fb hb n : Nat} {iv : Value} {quota : Int} (h : PoolAt w A B p fb hb n iv quota) (h1 : 1 ≤ quota) (hn : n ≤ 64) (id : Int) :
    Calls Tryz.prog 69 #[.pointer (some ⟨p, 0, none⟩), .int .i64 id] w fun en w' => en = .returned (.tuple #[.int .i64 0, .int .i64 0]) ∧ w' = w := by
  obtain ⟨c0, c1, c2, c3⟩ := cells4 h.blk
  have hN := Lib.hid (pnone c3 h1)
  have hF := Lib.hid h.frs
  clear h
  go_enter Tryz.func69, Tryz.ntmps69
  go_wp2_with (go_at_call 65; refine (hN.out).mono ?_; rintro e w' ⟨rfl, rfl⟩)
  go_loopg [4, 15] n (fun k m z wr => ∃ i : Nat, m = .int .i64 0 ∧ z = .int .i64 i ∧ k + i = n ∧ wr = w)
  case atStart => exact ⟨0, rfl, rfl, by omega, rfl⟩
  case round =>
    obtain ⟨i, rfl, rfl, hki, rfl⟩ := hrel
    by_cases hi : i < n
    · obtain ⟨f, hfB, f1, f2⟩ := hF.out i hi
      by_cases hid : id = 0
      · subst hid
        go_wp2
        go_roundg (gk - 1)
        case measure => omega
        case rel => exact ⟨i + 1, rfl, by simp, by omega, rfl⟩
      · have hid1 : ((0 : Int) == id) = false := by simp; omega
        go_wp2
        go_roundg (gk - 1)
        case measure => omega
        case rel => exact ⟨i + 1, rfl, by simp, by omega, rfl⟩
    · go_wp2
      go_ret2
      exact ⟨rfl, rfl⟩

end Go.Proofs.YtkhokdikabopfaaGreatDoor
