/-
  An empty queue: contracts.
-/
import Derived.Test.YtkhokdikabopfaaGreatDoorRangeZ
import Derived.Test.YtkhokdikabopfaaGreatDoorRows
import Derived.Deep.LoopGhost
import Derived.OwnWalk
import Derived.StillTailTactics
import Derived.Sort.QuietIn
namespace Go.Proofs.YtkhokdikabopfaaGreatDoor
open Go.RowKit Go.Shelf Go.Maps

theorem cells8 {w : World} {b : Nat} {T : TypeId} {z : Nat × Nat} {a0 a1 a2 a3 a4 a5 a6 a7 : Value} (h : w.heap[b]? = some (.cells #[a0, a1, a2, a3, a4, a5, a6, a7] T z)) :
    w.cell? ⟨b, 0, none⟩ = some a0 ∧ w.cell? ⟨b, 1, none⟩ = some a1 ∧ w.cell? ⟨b, 2, none⟩ = some a2 ∧ w.cell? ⟨b, 3, none⟩ = some a3 ∧ w.cell? ⟨b, 4, none⟩ = some a4 ∧ w.cell? ⟨b, 5, none⟩ = some a5 ∧ w.cell? ⟨b, 6, none⟩ = some a6 ∧ w.cell? ⟨b, 7, none⟩ = some a7 :=
  ⟨cellOf h 0 rfl, cellOf h 1 rfl, cellOf h 2 rfl, cellOf h 3 rfl, cellOf h 4 rfl, cellOf h 5 rfl, cellOf h 6 rfl, cellOf h 7 rfl⟩

/-- A queue without bytes. -/
def QAt (w : World) (q : Nat) (most : Int) (rv : Value) (e : Bool) : Prop :=
  w.heap[q]? = some (.cells #[.int .i64 most, .int .i64 0, rv, .int .i64 0, .int .i64 0, .bool e, .int .i64 0, .int .i64 0] 139 (0, 0))

theorem QAt.keep {l : List Nat} {w w' : World} {q : Nat} {most : Int} {rv : Value} {e : Bool} (h : QAt w q most rv e) (k : Keeps l w w') (hn : q ∉ l) : QAt w' q most rv e := k.blk h hn

set_option maxHeartbeats 400000 in
theorem qnone {w : World} {q : Nat} {most : Int} {rv : Value} {e : Bool} (h : QAt w q most rv e) (h1 : 1 ≤ most) :
    Calls Tryz.prog 79 #[.pointer (some ⟨q, 0, none⟩)] w fun en w' => en = .returned (.bool false) ∧ w = w' := by
  obtain ⟨c0, c1, c2, c3, c4, c5, c6, c7⟩ := cells8 h
  have h0 : (most == 0) = false := by simp; omega
  clear h
  go_enter Tryz.func79, Tryz.ntmps79
  go_wp2
  go_ret
  simp

set_option maxHeartbeats 400000 in
theorem qend {w : World} {q : Nat} {most : Int} {rv : Value} (h : QAt w q most rv false) (h1 : 1 ≤ most) :
    Calls Tryz.prog 63 #[.pointer (some ⟨q, 0, none⟩)] w fun en w' => en = .returned (.int .i64 0) ∧ Keeps [q] w w' ∧ QAt w' q most rv true := by
  obtain ⟨c0, c1, c2, c3, c4, c5, c6, c7⟩ := cells8 h
  have fr := frees h
  have hN := Lib.hid (qnone h h1)
  have hb := Lib.hid h
  clear h
  go_enter Tryz.func63, Tryz.ntmps63
  go_wp2_with (go_at_call 79; refine (hN.out).mono ?_; rintro e w' ⟨rfl, rfl⟩)
  go_ret
  exact ⟨rfl, (Keeps.refl _ _).setCell (by simp) _, by simpa [QAt] using blk_setCell hb.out 5 (.bool true)⟩

set_option maxHeartbeats 400000 in
theorem qended {w : World} {q : Nat} {most : Int} {rv : Value} {e : Bool} (h : QAt w q most rv e) (h1 : 1 ≤ most) :
    Calls Tryz.prog 106 #[.pointer (some ⟨q, 0, none⟩)] w fun en w' => en = .returned (.bool e) ∧ w = w' := by
  obtain ⟨c0, c1, c2, c3, c4, c5, c6, c7⟩ := cells8 h
  have hN := Lib.hid (qnone h h1)
  clear h
  cases e
  all_goals
    go_enter Tryz.func106, Tryz.ntmps106
    go_wp2_with (go_at_call 79; refine (hN.out).mono ?_; rintro e w' ⟨rfl, rfl⟩)
    go_ret
    simp

set_option maxHeartbeats 400000 in
theorem qgone {w : World} {q : Nat} {most : Int} {rv : Value} {e : Bool} (h : QAt w q most rv e) (h1 : 1 ≤ most) :
    Calls Tryz.prog 61 #[.pointer (some ⟨q, 0, none⟩)] w fun en w' => en = .returned (.int .i64 0) ∧ w = w' := by
  obtain ⟨c0, c1, c2, c3, c4, c5, c6, c7⟩ := cells8 h
  have hN := Lib.hid (qnone h h1)
  clear h
  go_enter Tryz.func61, Tryz.ntmps61
  go_wp2_with (go_at_call 79; refine (hN.out).mono ?_; rintro e w' ⟨rfl, rfl⟩)
  go_ret
  simp

set_option maxHeartbeats 400000 in
theorem qleft {w : World} {q : Nat} {most : Int} {rv : Value} {e : Bool} (h : QAt w q most rv e) (h1 : 1 ≤ most) :
    Calls Tryz.prog 58 #[.pointer (some ⟨q, 0, none⟩)] w fun en w' => en = .returned (.int .i64 0) ∧ Keeps [] w w' := by
  obtain ⟨c0, c1, c2, c3, c4, c5, c6, c7⟩ := cells8 h
  have hN := Lib.hid (qnone h h1)
  clear h
  go_enter Tryz.func58, Tryz.ntmps58
  go_wp2_with (go_at_call 79; refine (hN.out).mono ?_; rintro e w' ⟨rfl, rfl⟩)
  go_quiet (fail)
  go_wp2
  go_ret
  exact ⟨rfl, (by repeat (first | exact Keeps.refl _ _ | assumption | refine Keeps.drew ?_ | refine Keeps.drewN ?_ _ | refine Keeps.alloc ?_ _ | refine Keeps.setCell ?_ (by simp <;> omega) _ | refine Keeps.trans ?_ (by assumption)))⟩

set_option maxHeartbeats 400000 in
theorem zfree (a b : Int) (w : World) (hx : IntKind.i64.wrap (a - b) = a - b) :
    Calls Tryz.prog 80 #[.agg #[.int .i64 a, .int .i64 b]] w fun en w' => en = .returned (.int .i64 (a - b)) ∧ Keeps [] w w' := by
  go_enter Tryz.func80, Tryz.ntmps80
  go_wp2
  go_ret
  exact ⟨rfl, (by repeat (first | exact Keeps.refl _ _ | assumption | refine Keeps.drew ?_ | refine Keeps.drewN ?_ _ | refine Keeps.alloc ?_ _ | refine Keeps.setCell ?_ (by simp <;> omega) _ | refine Keeps.trans ?_ (by assumption)))⟩

set_option maxHeartbeats 400000 in
theorem qfree {w : World} {q : Nat} {most : Int} {rv : Value} {e : Bool} (h : QAt w q most rv e) (h1 : 1 ≤ most) (h2 : most ≤ 1048576) :
    Calls Tryz.prog 59 #[.pointer (some ⟨q, 0, none⟩)] w fun en w' => en = .returned (.int .i64 most) ∧ Keeps [] w w' := by
  obtain ⟨c0, c1, c2, c3, c4, c5, c6, c7⟩ := cells8 h
  have hN := Lib.hid (qnone h h1)
  have hZ := Lib.hid (zfree most 0 w (IntWalk.i64_in (most - 0) (by omega)))
  clear h
  go_enter Tryz.func59, Tryz.ntmps59
  go_wp2_with (first
    | (go_at_call 79; refine (hN.out).mono ?_; rintro e w' ⟨rfl, rfl⟩)
    | (go_at_call 80; refine (hZ.out).mono ?_; rintro e w' ⟨rfl, hk⟩))
  go_ret
  exact ⟨by simp, hk⟩

/-- The iterator of an empty queue calls yield never. -/
theorem qbytes1 {w : World} {bq q : Nat} {most : Int} {rv : Value} {e : Bool} (h : QAt w q most rv e) (hb : w.cell? ⟨bq, 0, none⟩ = some (.pointer (some ⟨q, 0, none⟩))) (y : Value) :
    Calls Tryz.prog 127 #[y, .pointer (some ⟨bq, 0, none⟩)] w fun en w' => (∃ v, en = .returned v) ∧ Keeps [] w w' := by
  obtain ⟨c0, c1, c2, c3, c4, c5, c6, c7⟩ := cells8 h
  clear h
  go_enter Tryz.func127, Tryz.ntmps127
  go_wp2
  go_loopg [9] 0 (fun _ z wr => z = .int .i64 0 ∧ wr = w)
  case atStart => exact ⟨rfl, rfl⟩
  case round =>
    obtain ⟨rfl, rfl⟩ := hrel
    go_wp2
    go_end0
    exact ⟨⟨_, rfl⟩, Keeps.refl _ _⟩

set_option maxHeartbeats 400000 in
theorem qbytes (q : Nat) (w : World) : CallsIn Fence.wide 9 Tryz.prog 103 #[.pointer (some ⟨q, 0, none⟩)] w fun e w' =>
    e = .returned (.func (.func 127) #[] #[.pointer (some ⟨w.heap.size, 0, none⟩)]) ∧ w' = w.alloc (.cells #[.pointer (some ⟨q, 0, none⟩)] 93) := by
  refine callsIn_of_wp Tryz.func103 rfl trivial ?_ rfl
  simp only [Tryz.ntmps103, List.size_toArray, List.length_cons, List.length_nil, Nat.reduceAdd, Nat.reduceSub, Array.replicate_succ, Array.replicate_zero, List.push_toArray, List.append_toArray, List.nil_append, List.cons_append]
  gi_wp2
  go_ret
  exact ⟨rfl, rfl⟩

set_option maxHeartbeats 800000 in
theorem qbits {w : World} {q : Nat} {most : Int} {rv : Value} {e : Bool} (h : QAt w q most rv e) (h1 : 1 ≤ most) :
    Calls Tryz.prog 85 #[.pointer (some ⟨q, 0, none⟩)] w fun en w' => en = .returned (.tuple #[.slice none 0 0, .int .i64 0]) ∧ Keeps [] w w' := by
  have H : Hid (∀ w', Keeps [] w w' → QAt w' q most rv e) := Lib.hid fun w' k => h.keep k (by simp)
  have hN := Lib.hid (qnone h h1)
  have hlt := ltOf h
  clear h
  refine (callsIn_wide (n := 10)).1 ?_
  refine callsIn_of_wp_marks Tryz.func85 rfl trivial ?_ rfl
  simp only [Tryz.ntmps85, List.size_toArray, List.length_cons, List.length_nil, Nat.reduceAdd, Nat.reduceSub, Array.replicate_succ, Array.replicate_zero, List.push_toArray, List.append_toArray, List.nil_append, List.cons_append]
  have hf1 : Fence.wide.fn 79 := trivial
  have hf2 : Fence.wide.fn 103 := trivial
  have hf3 : Fence.wide.fn 127 := trivial
  have hsa := @Oper.semAt_some
  gi_wp2_with (first
    | (gi_at_call 79; refine (callsIn_wide.2 (hN.out)).mono ?_; rintro e w' ⟨rfl, rfl⟩)
    | (gi_at_call 103; refine (qbytes _ _).mono ?_; rintro e w' ⟨rfl, rfl⟩))
  refine wp_range_none (gf := 127) (lb := #[.pointer (some ⟨w.heap.size + 1, 0, none⟩)]) rfl (enters_of Tryz.func127 (by kernel_rfl) rfl)
    (fun lp W hk => ?_) (fun D W hD hk hd => ?_)
  · refine qbytes1 (H.out W (Keeps.trans (by repeat (first | exact Keeps.refl _ _ | assumption | refine Keeps.drew ?_ | refine Keeps.drewN ?_ _ | refine Keeps.alloc ?_ _ | refine Keeps.setCell ?_ (by simp <;> omega) _ | refine Keeps.trans ?_ (by assumption))) hk)) (hk.cell (cellOf (heap_new_at _ (by simp)) 0 rfl) (by simp)) _
  · obtain ⟨c0, c1, c2, c3, c4, c5, c6, c7⟩ := cells8 (H.out W (Keeps.trans (by repeat (first | exact Keeps.refl _ _ | assumption | refine Keeps.drew ?_ | refine Keeps.drewN ?_ _ | refine Keeps.alloc ?_ _ | refine Keeps.setCell ?_ (by simp <;> omega) _ | refine Keeps.trans ?_ (by assumption))) hk))
    have cb : W.cell? ⟨w.heap.size, 0, none⟩ = some (.slice none 0 0) := hk.cell (((Keeps.refl [] _).alloc _).cell (cellOf (heap_new w _) 0 rfl) (by simp)) (by simp)
    gi_wp2
    gi_quiet (fail)
    gi_wp2
    refine ⟨by simp, .inl ⟨_, _, rfl, run_takeDeferred (w := W.drewN _) hd, ?_⟩⟩
    exact ⟨_, results_tmp2 rfl _ _ _, rfl, Keeps.putObj ((Keeps.trans (by repeat (first | exact Keeps.refl _ _ | assumption | refine Keeps.drew ?_ | refine Keeps.drewN ?_ _ | refine Keeps.alloc ?_ _ | refine Keeps.setCell ?_ (by simp <;> omega) _ | refine Keeps.trans ?_ (by assumption))) hk).drewN _) (fun h => by simp at hD; omega)⟩

set_option maxRecDepth 100000 in
set_option maxHeartbeats 800000 in
theorem qskip {w : World} {q : Nat} {most : Int} {rv : Value} {e : Bool} (h : QAt w q most rv e) (h1 : 1 ≤ most) :
    Calls Tryz.prog 88 #[.pointer (some ⟨q, 0, none⟩), .int .i64 0] w fun en w' => en = .returned (.int .i64 0) ∧ Keeps [q] w w' ∧ QAt w' q most rv e := by
  obtain ⟨c0, c1, c2, c3, c4, c5, c6, c7⟩ := cells8 h
  have hq := ltOf h
  have hN := Lib.hid (qnone h h1)
  have hL := Lib.hid (qleft h h1)
  have H := Lib.hid h
  have h0 : (most == 0) = false := by simp; omega
  have fr := frees h
  clear h
  go_enter Tryz.func88, Tryz.ntmps88
  go_wp2_with (first
    | (go_at_call 79; refine (hN.out).mono ?_; rintro e w' ⟨rfl, rfl⟩)
    | (go_at_call 58; refine (hL.out).mono ?_; rintro e w1 ⟨rfl, hk⟩; have hb := H.out.keep hk (by simp); obtain ⟨d0, d1, d2, d3, d4, d5, d6, d7⟩ := cells8 hb; have fr1 := frees hb; have hb := Lib.hid hb))
  generalize hw2 : w1.setCell ⟨q, 4, none⟩ (.int .i64 0) = w2
  have hk2 : Keeps [q] w w2 := by rw [← hw2]; exact (hk.mono (by simp)).setCell (by simp) _
  have hb2 : QAt w2 q most rv e := by have := blk_setCell hb.out 4 (.int .i64 0); rw [hw2] at this; simpa [QAt] using this
  clear hw2 d0 d1 d2 d3 d4 d5 d6 d7 fr1 c0 c1 c2 c3 c4 c5 c6 c7 fr hb
  obtain ⟨c0, c1, c2, c3, c4, c5, c6, c7⟩ := cells8 hb2
  have hb2 := Lib.hid hb2
  have hz : IntKind.i64.wrap 0 = 0 := IntWalk.i64_in (0 : Int) (by omega)
  have ht : Int.tmod 0 most = 0 := Int.zero_tmod most
  have hmz : ¬ most = 0 := by omega
  go_still_tail 15, (by kernel_rfl)
  change wpList _ _ _ _ _ w2.drew
  generalize hw3 : w2.drew = w3
  have hk3 : Keeps [q] w w3 := by rw [← hw3]; exact hk2.drew
  have hb3 : QAt w3 q most rv e := by rw [← hw3]; exact hb2.out
  clear hw3 c0 c1 c2 c3 c4 c5 c6 c7
  obtain ⟨c0, c1, c2, c3, c4, c5, c6, c7⟩ := cells8 hb3
  have fr := frees hb3
  have hb3 := Lib.hid hb3
  go_wp2
  go_ret
  have hF := blk_setCell (blk_setCell (blk_setCell hb3.out 3 (.int .i64 0)) 1 (.int .i64 0)) 7 (.int .i64 0)
  exact ⟨rfl, ((hk3.setCell (by simp) _).setCell (by simp) _).setCell (by simp) _, by simpa [QAt] using hF⟩

theorem info_byte : (Tryz.prog.info? 5).map (fun i => (i.zero, i.size, i.bytes)) = some (some (.int .u8 0), 1, 1) := by kernel_rfl

theorem Keeps.grown0 {l : List Nat} {w0 w w' : World} (h : Keeps l w0 w) (hg : w.grownBy w' none) : Keeps l w0 w' := by
  obtain ⟨h1, h2, h3, h4, h5⟩ := hg
  exact h.of_old h1 h2 h3 h4 (fun k hk _ => h5 k (by have := h.size; omega) (fun e => by cases e))

set_option maxRecDepth 100000 in
set_option maxHeartbeats 800000 in
theorem qnew (most : Nat) (w : World) (h1 : 1 ≤ most) (h2 : most ≤ 1048576) :
    Calls Tryz.prog 70 #[.int .i64 most] w fun en w' => ∃ q rv, en = .returned (.tuple #[.pointer (some ⟨q, 0, none⟩), .int .i64 0]) ∧ Keeps [] w w' ∧ w.heap.size ≤ q ∧ QAt w' q most rv false := by
  have d1 : decide ((most : Int) < 1) = false := decide_eq_false (by omega)
  have d2 : decide (1048576 < (most : Int)) = false := decide_eq_false (by omega)
  obtain ⟨i0, hi, hz0, hz1, hz2⟩ := info_parts info_byte
  go_enter Tryz.func70, Tryz.ntmps70
  go_wp2_with (at_make; refine wpList_make_full _ rfl _ _ 28 rfl w.heap.size 5 i0 (.int .u8 0) 1 Tryz.underlying28 hi hz0 hz1 .i64 .i64 _ _ most rfl rfl rfl rfl (by rw [hz2]; omega) (by simp [maxLen]; omega) (by simp) ?_; intro w1 hrow hgr)
  have hk := Keeps.grown0 (Keeps.refl [] _) hgr
  go_ret2
  exact ⟨_, _, rfl, hk.alloc _, hk.size, heap_new_at _ rfl⟩

end Go.Proofs.YtkhokdikabopfaaGreatDoor
