/-
  A session whose input ended without a byte: stop, lack, seek, Pick.
-/
import Derived.Test.YtkhokdikabopfaaGreatDoorSessionE
import Derived.Test.YtkhokdikabopfaaGreatDoorMidQ
import Derived.RegionTactic
namespace Go.Proofs.YtkhokdikabopfaaGreatDoor
open Go.RowKit Go.Shelf Go.Maps

theorem SessAt.d {w : World} {p : Nat} {room : Int} {slots : Nat} {z : Sess} (h : SessAt w p room slots z) : w.cell? ⟨z.x, 9, none⟩ = some (.int .i64 (-1)) ∧ w.cell? ⟨z.x, 11, none⟩ = some (.int .i64 (-1)) ∧ ∀ i, w.frozen? ⟨z.x, i, none⟩ = false :=
  ⟨cellOf h.blk 9 rfl, cellOf h.blk 11 rfl, frees h.blk⟩

theorem SessAt.same {w : World} {p : Nat} {room : Int} {slots : Nat} {z : Sess} (h : SessAt w p room slots z) {i : Nat} (hi : i = 9 ∨ i = 11) : SessAt (w.setCell ⟨z.x, i, none⟩ (.int .i64 (-1))) p room slots z := by
  have hn := h.ne
  have k : Keeps [z.x] w (w.setCell ⟨z.x, i, none⟩ (.int .i64 (-1))) := (Keeps.refl _ _).setCell (by simp) _
  refine ⟨?_, h.q.keep k (by simp; omega), h.o.keep k (by simp; omega), k.blk h.k (by simp; omega), h.ne⟩
  have := blk_setCell h.blk i (.int .i64 (-1))
  rcases hi with rfl | rfl <;> simpa [Sess.cells] using this

set_option maxRecDepth 100000 in
set_option maxHeartbeats 1000000 in
theorem sstop {w : World} {p : Nat} {room : Int} {slots : Nat} {z : Sess} (h : SessAt w p room slots z) (c : Int) :
    Calls Tryz.prog 107 #[.pointer (some ⟨z.x, 0, none⟩), .int .i64 c] w fun en w' => en = .returned (.int .i64 5) ∧ Keeps [z.x] w w' ∧ SessAt w' p room slots { z with nx := .nilFunc, cause := c } := by
  have hlt := ltOf h.blk
  have H := Lib.hid h
  clear h
  go_enter Tryz.func107, Tryz.ntmps107
  go_wp2
  go_region
  obtain ⟨w1, hw1⟩ : ∃ w1, w1 = (w.alloc (.cells #[.pointer (some ⟨z.x, 9, none⟩), .pointer (some ⟨z.x, 11, none⟩)] 195)).drew := ⟨_, rfl⟩
  have hk1 : Keeps [] w w1 := by rw [hw1]; exact ((Keeps.refl _ _).alloc _).drew
  have hl1 : w1.heap[w.heap.size]? = some (.cells #[.pointer (some ⟨z.x, 9, none⟩), .pointer (some ⟨z.x, 11, none⟩)] 195 (0, 0)) := by rw [hw1]; exact heap_new w _
  have hs1 : SessAt w1 p room slots z := H.out.keep hk1 (by simp)
  rw [← hw1]
  have hl1 := Lib.hid hl1
  have hs1 := Lib.hid hs1
  clear hw1
  go_wp2
  go_loopg [15] 2 (fun k u wr => ∃ i : Nat, u = .int .i64 i ∧ k + i = 2 ∧ Keeps [z.x] w1 wr ∧ SessAt wr p room slots z)
  case atStart => exact ⟨0, rfl, by omega, Keeps.refl _ _, hs1.out⟩
  case round =>
    obtain ⟨i, rfl, hki, hk, hS⟩ := hrel
    obtain ⟨d9, d11, fr⟩ := hS.d
    have hb := hk.blk hl1.out (by simp; omega)
    have l0 : wr.cell? ⟨w.heap.size, 0, none⟩ = some (.pointer (some ⟨z.x, 9, none⟩)) := cellOf hb 0 rfl
    have l1 : wr.cell? ⟨w.heap.size, 1, none⟩ = some (.pointer (some ⟨z.x, 11, none⟩)) := cellOf hb 1 rfl
    have hS := Lib.hid hS
    clear hb
    have : i = 0 ∨ i = 1 ∨ i = 2 := by omega
    rcases this with rfl | rfl | rfl
    · go_wp2
      go_roundg (gk - 1)
      case measure => omega
      case rel => exact ⟨1, by simp, by omega, hk.setCell (by simp) _, hS.out.same (.inl rfl)⟩
    · go_wp2
      go_roundg (gk - 1)
      case measure => omega
      case rel => exact ⟨2, by simp, by omega, hk.setCell (by simp) _, hS.out.same (.inr rfl)⟩
    · have hst := fun (W : World) (a : Addr) => run_store Tryz.prog W a Value.nilFunc .plain rfl
      have e4 : wr.cell? ⟨z.x, 4, none⟩ = some z.nx := cellOf hS.out.blk 4 rfl
      have e5 : wr.cell? ⟨z.x, 5, none⟩ = some (.int .i64 z.cause) := cellOf hS.out.blk 5 rfl
      clear l0 l1 d9 d11
      go_wp2
      go_ret
      have hh := hS.out
      have hn := hh.ne
      have k2 : Keeps [z.x] wr ((wr.setCell ⟨z.x, 4, none⟩ .nilFunc).setCell ⟨z.x, 5, none⟩ (.int .i64 c)) := ((Keeps.refl _ _).setCell (by simp) _).setCell (by simp) _
      refine ⟨rfl, (hk1.mono (by simp)).trans (hk.trans k2), ?_, hh.q.keep k2 (by simp; omega), hh.o.keep k2 (by simp; omega), k2.blk hh.k (by simp; omega), hh.ne⟩
      simpa [Sess.cells] using blk_setCell (blk_setCell hh.blk 4 .nilFunc) 5 (.int .i64 c)

set_option maxHeartbeats 400000 in
theorem slack {w : World} {p : Nat} {room : Int} {slots : Nat} {z : Sess} (h : SessAt w p room slots z) (h1 : 1 ≤ room) (he : z.ended = true) :
    Calls Tryz.prog 89 #[.pointer (some ⟨z.x, 0, none⟩)] w fun en w' => en = .returned (.int .i64 5) ∧ Keeps [z.x] w w' ∧ SessAt w' p room slots { z with nx := .nilFunc, cause := 20 } := by
  obtain ⟨c0, c1, c2, c3, c4, c5, c6⟩ := h.c
  have hq := h.q
  rw [he] at hq
  have hE := Lib.hid (qended hq h1)
  have hS := Lib.hid (sstop h 20)
  clear h hq he
  go_enter Tryz.func89, Tryz.ntmps89
  go_wp2_with (first
    | (go_at_call 106; refine (hE.out).mono ?_; rintro e w' ⟨rfl, rfl⟩)
    | (go_at_call 107; refine (hS.out).mono ?_; rintro e w' ⟨rfl, hk, hS2⟩))
  go_ret
  exact ⟨rfl, hk, hS2⟩

set_option maxRecDepth 100000 in
set_option maxHeartbeats 1000000 in
theorem sseek {w : World} {p : Nat} {room : Int} {slots : Nat} {z : Sess} (h : SessAt w p room slots z) (h1 : 1 ≤ room) (he : z.ended = true) :
    Calls Tryz.prog 72 #[.pointer (some ⟨z.x, 0, none⟩)] w fun en w' => en = .returned (.int .i64 5) ∧ Keeps [z.x, z.q] w w' ∧ SessAt w' p room slots { z with nx := .nilFunc, cause := 20 } := by
  obtain ⟨c0, c1, c2, c3, c4, c5, c6⟩ := h.c
  have hB := Lib.hid (qbits h.q h1)
  have H := Lib.hid h
  have he := Lib.hid he
  clear h
  go_enter Tryz.func72, Tryz.ntmps72
  go_wp2
  refine wp_scope_straight ?_
  go_wp2_with (go_at_call 85; refine (hB.out).mono ?_; rintro e w1 ⟨rfl, hk1⟩)
  refine wp_label ?_
  go_wp2
  refine wp_loop_once ?_
  go_wp2_with (go_at_call 86; refine (bfind_none _).mono ?_; rintro e w2 ⟨rfl, hk2⟩)
  refine wp_loop_once ?_
  have d15 : decide ((0 : Int) < 0) = false := by decide
  go_wp2_with (go_at_call 92; refine (bcount0 _).mono ?_; rintro e w3 ⟨rfl, rfl⟩)
  have hk := hk1.trans hk2
  have hS2 := H.out.keep hk (by simp)
  obtain ⟨q0, q1, q2, q3, q4, q5, q6⟩ := hS2.c
  have hS2 := Lib.hid hS2
  have hk := Lib.hid hk
  clear hk1 hk2
  refine wp_region_seg [10] (by kernel_rfl) (by kernel_rfl) ?_
  simp only [wpSeg, List.drop_zero, List.drop_succ_cons, List.take_succ_cons, List.take_zero, Nat.reduceSub, Nat.reduceAdd]
  repeat still_step
  still_call (bcount0 _).mono fun _ _ h => ⟨h.1, h.2.symm⟩
  repeat still_step
  refine wpStill_nil ?_
  change wpList _ _ _ _ _ w2.drew
  have hk3 := hk.out.drew
  have hS3 := hS2.out.keep (Keeps.refl [] w2).drew (by simp)
  clear q0 q1 q2 q3 q4 q5 q6 d15 hk hS2
  revert hk3 hS3
  generalize w2.drew = w3
  intro hk3 hS3
  have hK := Lib.hid (qskip hS3.q h1)
  have hS3 := Lib.hid hS3
  have hn := hS3.out.ne
  go_wp2_with (go_at_call 88; refine (hK.out).mono ?_; rintro e w4 ⟨rfl, hk4, hQ4⟩)
  repeat still_step
  refine wpStill_nil ?_
  have hS4 : SessAt w4 p room slots z := ⟨hk4.blk hS3.out.blk (by simp; omega), hQ4, hS3.out.o.keep hk4 (by simp; omega), hk4.blk hS3.out.k (by simp; omega), hS3.out.ne⟩
  have hL := Lib.hid (slack hS4 h1 he.out)
  have hK4 := (hk3.mono (by simp)).trans hk4
  clear hS4 hQ4 hk4
  go_wp2_with (go_at_call 89; refine (hL.out).mono ?_; rintro e w5 ⟨rfl, hk5, hS5⟩)
  rw [Exit.noGoto_ret]
  go_ret
  exact ⟨rfl, (hK4.mono (by simp)).trans (hk5.mono (by simp)), hS5⟩

set_option maxHeartbeats 400000 in
theorem spick {w : World} {p : Nat} {room : Int} {slots : Nat} {z : Sess} (h : SessAt w p room slots z) (h1 : 1 ≤ room) (he : z.ended = true) (hx : z.nx = .func (.func 72) #[.pointer (some ⟨z.x, 0, none⟩)] #[]) :
    Calls Tryz.prog 37 #[.pointer (some ⟨z.x, 0, none⟩)] w fun en w' => en = .returned (.tuple #[.int .i64 5, .int .i64 0]) ∧ Keeps [z.x, z.q] w w' ∧ SessAt w' p room slots { z with nx := .nilFunc, cause := 20 } := by
  obtain ⟨c0, c1, c2, c3, c4, c5, c6⟩ := h.c
  rw [hx] at c4
  have hS := Lib.hid (sseek h h1 he)
  have hq := func_nil (.func 72) #[.pointer (some ⟨z.x, 0, none⟩)] #[]
  have eg' : ∀ args w, (callFunc 72 args).run Tryz.prog w = .ok (.enter 72 args) w := enters_of Tryz.func72 (by kernel_rfl) rfl
  clear h he hx
  go_enter Tryz.func37, Tryz.ntmps37
  go_wp2_with (first
    | (go_at_call 54; refine (snone c0).mono ?_; rintro e w' ⟨rfl, rfl⟩)
    | (go_at_call 72; refine (hS.out).mono ?_; rintro e w' ⟨rfl, hk, hS2⟩))
  go_ret2
  exact ⟨rfl, hk, hS2⟩

end Go.Proofs.YtkhokdikabopfaaGreatDoor
