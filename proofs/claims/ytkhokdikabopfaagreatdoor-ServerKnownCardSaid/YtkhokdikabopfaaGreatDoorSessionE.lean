/-
  A session whose input ended without a byte: Pick.
-/
import Derived.Test.YtkhokdikabopfaaGreatDoorSessionD
import Derived.Test.YtkhokdikabopfaaGreatDoorMid
import Derived.Test.YtkhokdikabopfaaGreatDoorScopeIn
namespace Go.Proofs.YtkhokdikabopfaaGreatDoor
open Go.RowKit Go.Shelf Go.Maps

set_option maxHeartbeats 400000 in
theorem bcount (a : Option Addr) (n c : Nat) (w : World) (hn : n ≤ 1000000000000) :
    Calls Tryz.prog 92 #[.slice a n c] w fun en w' => en = .returned (.int .i64 (8 * (n : Int))) ∧ w = w' := by
  have hx : IntKind.i64.wrap (8 * (n : Int)) = 8 * (n : Int) := IntWalk.i64_in _ (by omega)
  go_enter Tryz.func92, Tryz.ntmps92
  go_wp2
  go_ret
  simp

theorem bcount0 (w : World) : Calls Tryz.prog 92 #[.slice none 0 0] w fun en w' => en = .returned (.int .i64 0) ∧ w = w' := by
  simpa using bcount none 0 0 w (by omega)

set_option maxHeartbeats 400000 in
theorem bfrom1_none {w : World} {ba bb : Nat} (h1 : w.cell? ⟨ba, 0, none⟩ = some (.int .i64 0)) (h2 : w.cell? ⟨bb, 0, none⟩ = some (.slice none 0 0)) (y : Value) :
    Calls Tryz.prog 128 #[y, .pointer (some ⟨ba, 0, none⟩), .pointer (some ⟨bb, 0, none⟩)] w fun en w' => (∃ v, en = .returned v) ∧ Keeps [] w w' := by
  have d : decide ((0 : Int) < 0) = false := by decide
  go_enter Tryz.func128, Tryz.ntmps128
  go_wp2
  go_loopg [8] 0 (fun _ _ wr => wr = w)
  case atStart => rfl
  case round =>
    obtain rfl := hrel
    go_wp2
    go_quiet ((go_at_call 92; exact Calls.quiet_of_same ((bcount0 _).mono fun _ _ h => ⟨h.1, h.2.symm⟩)))
    go_wp2
    go_end0
    exact ⟨⟨_, rfl⟩, (Keeps.refl _ _).drewN _⟩

set_option maxHeartbeats 400000 in
theorem bfrom (a : Option Addr) (n c : Nat) (at_ : Int) (w : World) : CallsIn Fence.wide 9 Tryz.prog 104 #[.slice a n c, .int .i64 at_] w fun e w' =>
    e = .returned (.func (.func 128) #[] #[.pointer (some ⟨w.heap.size + 1, 0, none⟩), .pointer (some ⟨w.heap.size, 0, none⟩)]) ∧ w' = (w.alloc (.cells #[.slice a n c] 28)).alloc (.cells #[.int .i64 at_] 3) := by
  refine callsIn_of_wp Tryz.func104 rfl trivial ?_ rfl
  simp only [Tryz.ntmps104, List.size_toArray, List.length_cons, List.length_nil, Nat.reduceAdd, Nat.reduceSub, Array.replicate_succ, Array.replicate_zero, List.push_toArray, List.append_toArray, List.nil_append, List.cons_append]
  gi_wp2
  go_ret
  exact ⟨rfl, rfl⟩

theorem load_plain {T : TypeId} (hT : ∀ w, (isAgg T).run Tryz.prog w = .ok false w) {w : World} {b : Nat} {v : Value} (hc : w.cell? ⟨b, 0, none⟩ = some v) : (loadVar T ⟨b, 0, none⟩).run Tryz.prog w = .ok v w := by
  unfold loadVar
  simp only [Sem.run_bind, hT, Result.andThen_ok]
  simp [run_load_at hc]

theorem res_vv {fn : Func} {p q : Tmp} {tp tq : TypeId} (h : fn.results = #[.cell p tp, .cell q tq]) {tmps : Array Value} {w : World} {b d : Nat} {u v : Value} (h1 : ∀ w, (isAgg tp).run Tryz.prog w = .ok false w) (h2 : ∀ w, (isAgg tq).run Tryz.prog w = .ok false w)
    (hp : tmps.getD p undef = .pointer (some ⟨b, 0, none⟩)) (hq : tmps.getD q undef = .pointer (some ⟨d, 0, none⟩)) (hb : w.cell? ⟨b, 0, none⟩ = some u) (hd : w.cell? ⟨d, 0, none⟩ = some v) :
    (results fn tmps).run Tryz.prog w = .ok (.tuple #[u, v]) w := by
  have hl := load_plain h1 hb
  have hl2 := load_plain h2 hd
  have hp' : tmps[p]?.getD undef = .pointer (some ⟨b, 0, none⟩) := by simpa using hp
  have hq' : tmps[q]?.getD undef = .pointer (some ⟨d, 0, none⟩) := by simpa using hq
  simp only [results, h]
  simp [hp', hq', asAddr, hl, hl2]

set_option maxRecDepth 100000 in
set_option maxHeartbeats 800000 in
theorem bfind_none (w : World) :
    Calls Tryz.prog 86 #[.slice none 0 0, .int .i64 0] w fun en w' => en = .returned (.tuple #[.int .i64 0, .int .i64 5]) ∧ Keeps [] w w' := by
  refine (callsIn_wide (n := 10)).1 ?_
  refine callsIn_of_wp_marks Tryz.func86 rfl trivial ?_ rfl
  simp only [Tryz.ntmps86, List.size_toArray, List.length_cons, List.length_nil, Nat.reduceAdd, Nat.reduceSub, Array.replicate_succ, Array.replicate_zero, List.push_toArray, List.append_toArray, List.nil_append, List.cons_append]
  have hf2 : Fence.wide.fn 104 := trivial
  have hf3 : Fence.wide.fn 128 := trivial
  have hsa := @Oper.semAt_some
  gi_wp2
  refine wpIn_scope_straight ?_
  gi_wp2
  refine wpIn_label ?_
  gi_wp2_with (gi_at_call 104; refine (bfrom _ _ _ _ _).mono ?_; rintro e w' ⟨rfl, rfl⟩)
  obtain ⟨w1, hw1⟩ : ∃ w1, w1 = ((w.alloc (.cells #[.int .i64 0] 3)).alloc (.cells #[.int .i64 0] 24)).alloc (.cells #[.int .i64 0] 3) := ⟨_, rfl⟩
  have hk1 : Keeps [] w w1 := by rw [hw1]; exact ((Keeps.refl _ _).alloc _).alloc _ |>.alloc _
  have hs1 : w1.heap.size = w.heap.size + 3 := by rw [hw1]; simp
  have hk0 : Keeps [] (((w.alloc (.cells #[.int .i64 0] 3)).alloc (.cells #[.int .i64 0] 24)).alloc (.cells #[.int .i64 0] 3)) w1 := by rw [hw1]; exact Keeps.refl _ _
  obtain ⟨b0, b1, b2, -⟩ := hk0.new3 (by simp) (by simp) (by simp)
  rw [← hw1]
  have b0 := Lib.hid b0
  have b1 := Lib.hid b1
  clear b2 hk0 hw1
  refine wp_range_none (gf := 128) (lb := #[.pointer (some ⟨w.heap.size + 1 + 1 + 1 + 1, 0, none⟩), .pointer (some ⟨w.heap.size + 1 + 1 + 1, 0, none⟩)]) rfl (enters_of Tryz.func128 (by kernel_rfl) rfl)
    (fun lp W hk => ?_) (fun D W hD hk hd => ?_)
  · exact bfrom1_none (hk.cell (cellOf (heap_new_at _ (by simp [hs1])) 0 rfl) (by simp)) (hk.cell (((Keeps.refl [] _).alloc _).cell (cellOf (heap_new_at _ (by simp [hs1])) 0 rfl) (by simp)) (by simp)) _
  · have B0 := hk.blk ((((Keeps.refl [] _).alloc _).alloc _).blk b0.out (by simp)) (by simp)
    have B1 := hk.blk ((((Keeps.refl [] _).alloc _).alloc _).blk b1.out (by simp)) (by simp)
    have e0 := cellOf B0 0 rfl
    have e1 := cellOf B1 0 rfl
    have f0 := frees B0 0
    have f1 := frees B1 0
    have hK : Keeps [] w W := ((hk1.alloc _).alloc _).trans hk
    have B0 := Lib.hid B0
    have B1 := Lib.hid B1
    have hd := Lib.hid hd
    gi_wp2
    rw [Exit.noGoto_ret]
    simp [hs1] at hD
    have hn0 : D ≠ w.heap.size := by omega
    have hn1 : D ≠ w.heap.size + 1 := by omega
    have hx : ∀ i, w.heap.size + i < w.heap.size → w.heap.size + i ∈ ([] : List Nat) := fun i h => absurd h (by omega)
    refine ⟨by simp, .inl ⟨_, _, rfl, run_takeDeferred (w := (W.setCell ⟨w.heap.size, 0, none⟩ (.int .i64 0)).setCell ⟨w.heap.size + 1, 0, none⟩ (.int .i64 5)) ?_, ?_⟩⟩
    · exact (Below.heap_setCell _ _ _ _ (fun e => hn1 (by simpa using e))).trans ((Below.heap_setCell _ _ _ _ (fun e => hn0 (by simpa using e))).trans hd.out)
    · have hb0 := blk_setCell B0.out 0 (.int .i64 0)
      have hb0' := (Below.heap_setCell (W.setCell ⟨w.heap.size, 0, none⟩ (.int .i64 0)) ⟨w.heap.size + 1, 0, none⟩ (.int .i64 5) w.heap.size (by simp)).trans hb0
      have hb1 := blk_setCell ((Below.heap_setCell W ⟨w.heap.size, 0, none⟩ (.int .i64 0) (w.heap.size + 1) (by simp)).trans B1.out) 0 (.int .i64 5)
      refine ⟨_, res_vv rfl (fun _ => by kernel_rfl) (fun _ => by kernel_rfl) rfl rfl (cellOf ((World.putObj_heap_other (by omega)).trans hb0') 0 rfl) (cellOf ((World.putObj_heap_other (by omega)).trans hb1) 0 rfl), rfl, Keeps.putObj ((hK.setCell (hx 0) _).setCell (hx 1) _) (fun h => by omega)⟩

end Go.Proofs.YtkhokdikabopfaaGreatDoor
