/-
  A session that nothing came to: contracts.
-/
import Derived.Test.YtkhokdikabopfaaGreatDoorOutboxB
import Derived.Test.YtkhokdikabopfaaGreatDoorPool
namespace Go.Proofs.YtkhokdikabopfaaGreatDoor
open Go.RowKit Go.Shelf Go.Maps

/-- A session: where it lies, and how far its input is. -/
structure Sess where
  id : Int
  (lo hi k x q o : Nat)
  rq : Value
  (ra : Option Addr)
  rc : Nat
  ended : Bool
  nx : Value
  cause : Int

/-- The session's cells. -/
def Sess.cells (z : Sess) (p : Nat) : Array Value :=
  #[.pointer (some ⟨p, 0, none⟩), .int .i64 z.id, .pointer (some ⟨z.q, 0, none⟩), .pointer (some ⟨z.o, 0, none⟩), z.nx, .int .i64 z.cause, .int .i64 0, .int .i64 0, .slice none 0 0,
    .int .i64 (-1), .int .i64 0, .int .i64 (-1), .int .i64 0, .int .i64 0, .int .i64 0, .int .i64 0, .int .i64 0, .bool false, .int .i64 0, .int .i64 0, .bool false, .int .i64 0]

/-- A session in memory. -/
structure SessAt (w : World) (p : Nat) (room : Int) (slots : Nat) (z : Sess) : Prop where
  blk : w.heap[z.x]? = some (.cells (z.cells p) 104 (0, 0))
  q : QAt w z.q room z.rq z.ended
  o : OAt w z.o slots z.ra z.rc
  k : w.heap[z.k]? = some (.cells #[.pointer (some ⟨z.x, 0, none⟩)] 70 (0, 0))
  ne : z.lo ≤ z.q ∧ z.q < z.o ∧ z.o < z.x ∧ z.x < z.k ∧ z.k < z.hi

theorem SessAt.keep {l : List Nat} {w w' : World} {p : Nat} {room : Int} {slots : Nat} {z : Sess} (h : SessAt w p room slots z) (k : Keeps l w w') (hn : ∀ b ∈ l, b < z.lo ∨ z.hi ≤ b) : SessAt w' p room slots z := by
  have := h.ne
  have key : ∀ b, z.lo ≤ b → b < z.hi → b ∉ l := fun b h1 h2 h3 => by have := hn b h3; omega
  exact ⟨k.blk h.blk (key _ (by omega) (by omega)), h.q.keep k (key _ (by omega) (by omega)), h.o.keep k (key _ (by omega) (by omega)), k.blk h.k (key _ (by omega) (by omega)), h.ne⟩

theorem SessAt.c {w : World} {p : Nat} {room : Int} {slots : Nat} {z : Sess} (h : SessAt w p room slots z) :
    w.cell? ⟨z.x, 0, none⟩ = some (.pointer (some ⟨p, 0, none⟩)) ∧ w.cell? ⟨z.x, 1, none⟩ = some (.int .i64 z.id) ∧ w.cell? ⟨z.x, 2, none⟩ = some (.pointer (some ⟨z.q, 0, none⟩)) ∧
    w.cell? ⟨z.x, 3, none⟩ = some (.pointer (some ⟨z.o, 0, none⟩)) ∧ w.cell? ⟨z.x, 4, none⟩ = some z.nx ∧ w.cell? ⟨z.x, 5, none⟩ = some (.int .i64 z.cause) ∧ w.cell? ⟨z.x, 21, none⟩ = some (.int .i64 0) :=
  ⟨cellOf h.blk 0 rfl, cellOf h.blk 1 rfl, cellOf h.blk 2 rfl, cellOf h.blk 3 rfl, cellOf h.blk 4 rfl, cellOf h.blk 5 rfl, cellOf h.blk 21 rfl⟩

set_option maxHeartbeats 400000 in
theorem snone {w : World} {x p : Nat} (h : w.cell? ⟨x, 0, none⟩ = some (.pointer (some ⟨p, 0, none⟩))) :
    Calls Tryz.prog 54 #[.pointer (some ⟨x, 0, none⟩)] w fun en w' => en = .returned (.bool false) ∧ w = w' := by
  go_enter Tryz.func54, Tryz.ntmps54
  go_wp2
  go_ret
  simp

set_option maxHeartbeats 400000 in
theorem sdropped {w : World} {x : Nat} {c : Int} (h : w.cell? ⟨x, 5, none⟩ = some (.int .i64 c)) (hc : (c == 21) = false) :
    Calls Tryz.prog 55 #[.pointer (some ⟨x, 0, none⟩)] w fun en w' => en = .returned (.bool false) ∧ w = w' := by
  go_enter Tryz.func55, Tryz.ntmps55
  go_wp2
  go_ret
  simp

set_option maxHeartbeats 400000 in
theorem send {w : World} {p : Nat} {room : Int} {slots : Nat} {z : Sess} (h : SessAt w p room slots z) (h1 : 1 ≤ room) (hc : (z.cause == 21) = false) (he : z.ended = false) :
    Calls Tryz.prog 35 #[.pointer (some ⟨z.x, 0, none⟩)] w fun en w' => en = .returned (.int .i64 0) ∧ Keeps [z.q] w w' ∧ SessAt w' p room slots { z with ended := true } := by
  obtain ⟨c0, c1, c2, c3, c4, c5, c6⟩ := h.c
  have hq := h.q
  rw [he] at hq
  have hE := Lib.hid (qend hq h1)
  have hN := Lib.hid (snone c0)
  have hD := Lib.hid (sdropped c5 hc)
  have H := Lib.hid h
  clear h hq
  go_enter Tryz.func35, Tryz.ntmps35
  go_wp2_with (first
    | (go_at_call 54; refine (hN.out).mono ?_; rintro e w' ⟨rfl, rfl⟩)
    | (go_at_call 55; refine (hD.out).mono ?_; rintro e w' ⟨rfl, rfl⟩)
    | (go_at_call 63; refine (hE.out).mono ?_; rintro e w' ⟨rfl, hk, hq'⟩))
  go_ret
  have h := H.out
  have hn := h.ne
  exact ⟨rfl, hk, ⟨hk.blk h.blk (by simp; omega), hq', h.o.keep hk (by simp; omega), hk.blk h.k (by simp; omega), h.ne⟩⟩

theorem agg_picture : Agg Tryz.prog 53 4 := ⟨fun _ => by kernel_rfl, fun _ => by kernel_rfl⟩

theorem func_nil (f : Fn) (fa fb : Array Value) (w : World) : (binOp BinOp.eql 61 (Value.func f fa fb) Value.nilFunc).run Tryz.prog w = .ok (.bool false) w := by kernel_rfl

/-- No picture. -/
abbrev noPic : Value := .agg #[.int .i64 0, .int .i64 0, .int .i64 0, .slice none 0 0]

set_option maxRecDepth 100000 in
set_option maxHeartbeats 1000000 in
theorem sdrain {w : World} {p : Nat} {room : Int} {slots : Nat} {z : Sess} (h : SessAt w p room slots z) (h1 : 1 ≤ slots) (f : Fn) (fa fb : Array Value) (hx : z.nx = .func f fa fb) :
    Calls Tryz.prog 48 #[.pointer (some ⟨z.x, 0, none⟩)] w fun en w' => en = .returned (.tuple #[noPic, .int .i64 16]) ∧ Keeps [] w w' := by
  have H : Hid (∀ w', Keeps [] w w' → SessAt w' p room slots z) := Lib.hid fun w' k => h.keep k (by simp)
  have HC : Hid (∀ w', Keeps [] w w' → _) := Lib.hid fun w' (k : Keeps [] w w') => (H.out w' k).c
  obtain ⟨c0, c1, c2, c3, c4, c5, c6⟩ := h.c
  have hlt := ltOf h.blk
  rw [hx] at c4
  clear h
  have hq : ∀ w' : World, (binOp BinOp.eql 61 (Value.func f fa fb) Value.nilFunc).run Tryz.prog w' = .ok (.bool false) w' := fun w' => func_nil f fa fb w'
  go_enter Tryz.func48, Tryz.ntmps48
  go_wp2_with (first
    | (go_at_call 54; refine (snone (p := p) (HC.out _ (by repeat (first | exact Keeps.refl _ _ | assumption | refine Keeps.drew ?_ | refine Keeps.drewN ?_ _ | refine Keeps.alloc ?_ _ | refine Keeps.setCell ?_ (by simp <;> omega) _ | refine Keeps.trans ?_ (by assumption)))).1).mono ?_; rintro e w' ⟨rfl, rfl⟩)
    | (go_at_call 73; refine (opop (H.out _ (by repeat (first | exact Keeps.refl _ _ | assumption | refine Keeps.drew ?_ | refine Keeps.drewN ?_ _ | refine Keeps.alloc ?_ _ | refine Keeps.setCell ?_ (by simp <;> omega) _ | refine Keeps.trans ?_ (by assumption)))).o h1).mono ?_; rintro e w' ⟨rfl, hk⟩; obtain ⟨b0, hk⟩ := hk.new1 (by simp); obtain ⟨d0, d1, d2, d3, d4, d5, d6⟩ := HC.out w' hk; rw [hx] at d4; have hl2 := Nat.lt_of_lt_of_le hlt hk.size; have hl3 := ltOf b0; obtain ⟨e0, e1, e2, e3⟩ := cells4 b0; have fr := frees b0; have hb0 := Lib.hid b0; clear b0))
  have hx : w.heap.size < w.heap.size → w.heap.size ∈ ([] : List Nat) := fun h => absurd h (by omega)
  have hb1 := blk_setCell (blk_setCell (blk_setCell (blk_setCell hb0.out 0 (.int .i64 0)) 1 (.int .i64 0)) 2 (.int .i64 0)) 3 (.slice none 0 0)
  have hb := ((Keeps.refl [] _).alloc (.cells #[.int .i64 0, .int .i64 0, .int .i64 0, .int .i64 0] 127)).blk hb1 (by simp)
  have hkk := (((((hk.setCell (p := ⟨w.heap.size, 0, none⟩) hx (.int .i64 0)).setCell (p := ⟨w.heap.size, 1, none⟩) hx (.int .i64 0)).setCell (p := ⟨w.heap.size, 2, none⟩) hx (.int .i64 0)).setCell (p := ⟨w.heap.size, 3, none⟩) hx (.slice none 0 0)).alloc (.cells #[.int .i64 0, .int .i64 0, .int .i64 0, .int .i64 0] 127))
  exact bodyPost_ret (res_ct rfl agg_picture rfl rfl rfl hb) rfl ⟨by simp, hkk⟩

set_option maxRecDepth 100000 in
set_option maxHeartbeats 1000000 in
theorem sdrop {w : World} {A B p fb hb n : Nat} {iv : Value} {quota : Int} {room : Int} {slots : Nat} {z : Sess} (h : SessAt w p room slots z) (hp : PoolAt w A B p fb hb n iv quota) (h1 : 1 ≤ slots) (h2 : 1 ≤ quota) (hn : n ≤ 64) (hB : B ≤ z.lo) :
    Calls Tryz.prog 66 #[.pointer (some ⟨z.x, 0, none⟩)] w fun en w' => en = .returned (.tuple #[.int .i64 0, .int .i64 0]) ∧ Keeps [z.x, z.o] w w' := by
  have HP : Hid (∀ l w', Keeps l w w' → (∀ b ∈ l, b < A ∨ B ≤ b) → PoolAt w' A B p fb hb n iv quota) := Lib.hid fun l w' k hl => hp.keep k hl
  obtain ⟨c0, c1, c2, c3, c4, c5, c6⟩ := h.c
  have hne := h.ne
  have hN := Lib.hid (snone c0)
  have hC := Lib.hid (oclear h.o h1)
  have H := Lib.hid h
  clear h hp
  have hst := fun (W : World) (a : Addr) => run_store Tryz.prog W a Value.nilFunc .plain rfl
  go_enter Tryz.func66, Tryz.ntmps66
  go_wp2_with (first
    | (go_at_call 54; refine (hN.out).mono ?_; rintro e w' ⟨rfl, rfl⟩)
    | (go_at_call 83; refine (hC.out).mono ?_; rintro e w1 ⟨rfl, hk, -⟩; have hb1 := hk.blk H.out.blk (by simp; omega); have fr := frees hb1; have d0 : w1.cell? ⟨z.x, 0, none⟩ = some (.pointer (some ⟨p, 0, none⟩)) := cellOf hb1 0 rfl; have d1 : w1.cell? ⟨z.x, 1, none⟩ = some (.int .i64 z.id) := cellOf hb1 1 rfl; have d4 : w1.cell? ⟨z.x, 4, none⟩ = some z.nx := cellOf hb1 4 rfl; have d5 : w1.cell? ⟨z.x, 5, none⟩ = some (.int .i64 z.cause) := cellOf hb1 5 rfl; have d9 : w1.cell? ⟨z.x, 9, none⟩ = some (.int .i64 (-1)) := cellOf hb1 9 rfl; have d10 : w1.cell? ⟨z.x, 10, none⟩ = some (.int .i64 0) := cellOf hb1 10 rfl; have d11 : w1.cell? ⟨z.x, 11, none⟩ = some (.int .i64 (-1)) := cellOf hb1 11 rfl; have d12 : w1.cell? ⟨z.x, 12, none⟩ = some (.int .i64 0) := cellOf hb1 12 rfl; have hb1 := Lib.hid hb1))
  have hx : z.x < w.heap.size → z.x ∈ [z.x, z.o] := fun _ => by simp
  have hk2 : Keeps [z.x, z.o] w w1 := hk.mono (by simp)
  have hk3 : Keeps [z.x, z.o] w ((((((w1.setCell ⟨z.x, 4, none⟩ .nilFunc).setCell ⟨z.x, 5, none⟩ (.int .i64 21)).setCell ⟨z.x, 9, none⟩ (.int .i64 (-1))).setCell ⟨z.x, 10, none⟩ (.int .i64 0)).setCell ⟨z.x, 11, none⟩ (.int .i64 (-1))).setCell ⟨z.x, 12, none⟩ (.int .i64 0)) := (((((hk2.setCell (p := ⟨z.x, 4, none⟩) hx .nilFunc).setCell (p := ⟨z.x, 5, none⟩) hx (.int .i64 21)).setCell (p := ⟨z.x, 9, none⟩) hx (.int .i64 (-1))).setCell (p := ⟨z.x, 10, none⟩) hx (.int .i64 0)).setCell (p := ⟨z.x, 11, none⟩) hx (.int .i64 (-1))).setCell (p := ⟨z.x, 12, none⟩) hx (.int .i64 0)
  have hb3 := blk_setCell (blk_setCell (blk_setCell (blk_setCell (blk_setCell (blk_setCell hb1.out 4 .nilFunc) 5 (.int .i64 21)) 9 (.int .i64 (-1))) 10 (.int .i64 0)) 11 (.int .i64 (-1))) 12 (.int .i64 0)
  clear hk hk2 fr d0 d1 d4 d5 d9 d10 d11 d12 hb1 hst c0 c1 c2 c3 c4 c5 c6
  revert hk3 hb3
  generalize ((((((w1.setCell ⟨z.x, 4, none⟩ .nilFunc).setCell ⟨z.x, 5, none⟩ (.int .i64 21)).setCell ⟨z.x, 9, none⟩ (.int .i64 (-1))).setCell ⟨z.x, 10, none⟩ (.int .i64 0)).setCell ⟨z.x, 11, none⟩ (.int .i64 (-1))).setCell ⟨z.x, 12, none⟩ (.int .i64 0)) = w2
  intro hk3 hb3
  have d0 : w2.cell? ⟨z.x, 0, none⟩ = some (.pointer (some ⟨p, 0, none⟩)) := cellOf hb3 0 rfl
  have d1 : w2.cell? ⟨z.x, 1, none⟩ = some (.int .i64 z.id) := cellOf hb3 1 rfl
  have hP := HP.out _ _ hk3 (by intro b hb; simp at hb; omega)
  have hR := fun n' => preclaim (hP.keep ((Keeps.refl [] w2).drewN n') (by simp)) h2 hn z.id
  have hP := Lib.hid hP
  have hR := Lib.hid hR
  clear hb3 hP
  go_quiet ((go_at_call 69; exact Calls.quiet_of_same (hR.out _)))
  go_wp2
  go_ret2
  exact ⟨rfl, hk3.drewN _⟩

end Go.Proofs.YtkhokdikabopfaaGreatDoor
