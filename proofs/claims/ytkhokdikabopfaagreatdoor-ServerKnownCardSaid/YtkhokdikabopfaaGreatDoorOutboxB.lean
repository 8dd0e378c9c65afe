/-
  An empty outbox: All, Clear, New.
-/
import Derived.Test.YtkhokdikabopfaaGreatDoorOutbox
namespace Go.Proofs.YtkhokdikabopfaaGreatDoor
open Go.RowKit Go.Shelf Go.Maps

theorem oitems1 {w : World} {bo o n : Nat} {ra : Option Addr} {rc : Nat} (h : OAt w o n ra rc) (hb : w.cell? ⟨bo, 0, none⟩ = some (.pointer (some ⟨o, 0, none⟩))) (y : Value) :
    Calls Tryz.prog 140 #[y, .pointer (some ⟨bo, 0, none⟩)] w fun en w' => (∃ v, en = .returned v) ∧ Keeps [] w w' := by
  obtain ⟨c0, c1, c2⟩ := cells3' h
  clear h
  go_enter Tryz.func140, Tryz.ntmps140
  go_wp2
  go_loopg [3] 0 (fun _ z wr => z = .int .i64 0 ∧ wr = w)
  case atStart => exact ⟨rfl, rfl⟩
  case round =>
    obtain ⟨rfl, rfl⟩ := hrel
    go_wp2
    go_end0
    exact ⟨⟨_, rfl⟩, Keeps.refl _ _⟩

theorem oitems (o : Nat) (w : World) : Calls Tryz.prog 125 #[.pointer (some ⟨o, 0, none⟩)] w fun e w' =>
    e = .returned (.func (.func 140) #[] #[.pointer (some ⟨w.heap.size, 0, none⟩)]) ∧ w' = w.alloc (.cells #[.pointer (some ⟨o, 0, none⟩)] 94) := by
  go_enter Tryz.func125, Tryz.ntmps125
  go_wp2
  go_ret
  exact ⟨rfl, rfl⟩

theorem load_items {w : World} {b : Nat} {v : Value} (hc : w.cell? ⟨b, 0, none⟩ = some v) : (loadVar 140 ⟨b, 0, none⟩).run Tryz.prog w = .ok v w := by
  have h1 : (isAgg 140).run Tryz.prog w = .ok false w := by kernel_rfl
  unfold loadVar
  simp only [Sem.run_bind, h1, Result.andThen_ok]
  simp [run_load_at hc]

theorem res_v {fn : Func} {p : Tmp} {ty : TypeId} (h : fn.results = #[.cell p ty]) {tmps : Array Value} {P : Program} {w : World} {b : Nat} {v : Value}
    (hp : tmps.getD p undef = .pointer (some ⟨b, 0, none⟩)) (hl : (loadVar ty ⟨b, 0, none⟩).run P w = .ok v w) :
    (results fn tmps).run P w = .ok v w := by
  have hp' : tmps[p]?.getD undef = .pointer (some ⟨b, 0, none⟩) := by simpa using hp
  simp only [results, h]
  simp [hp', asAddr, hl]

set_option maxHeartbeats 800000 in
theorem olisted {w : World} {bo o n : Nat} {ra : Option Addr} {rc : Nat} (h : OAt w o n ra rc) (hb : w.cell? ⟨bo, 0, none⟩ = some (.pointer (some ⟨o, 0, none⟩))) :
    Calls Tryz.prog 124 #[.func (.func 140) #[] #[.pointer (some ⟨bo, 0, none⟩)]] w fun en w' => en = .returned (.slice none 0 0) ∧ Keeps [] w w' := by
  have H : Hid (∀ w', Keeps [] w w' → OAt w' o n ra rc) := Lib.hid fun w' k => h.keep k (by simp)
  clear h
  refine (callsIn_wide (n := 10)).1 ?_
  refine callsIn_of_wp_marks Tryz.func124 rfl trivial ?_ rfl
  simp only [Tryz.ntmps124, List.size_toArray, List.length_cons, List.length_nil, Nat.reduceAdd, Nat.reduceSub, Array.replicate_succ, Array.replicate_zero, List.push_toArray, List.append_toArray, List.nil_append, List.cons_append]
  have hf3 : Fence.wide.fn 140 := trivial
  have hsa := @Oper.semAt_some
  gi_wp2
  refine wp_range_none (gf := 140) (lb := #[.pointer (some ⟨bo, 0, none⟩)]) rfl (enters_of Tryz.func140 (by kernel_rfl) rfl)
    (fun lp W hk => ?_) (fun D W hD hk hd => ?_)
  · exact oitems1 (H.out W (Keeps.trans (by repeat (first | exact Keeps.refl _ _ | assumption | refine Keeps.drew ?_ | refine Keeps.drewN ?_ _ | refine Keeps.alloc ?_ _ | refine Keeps.setCell ?_ (by simp <;> omega) _ | refine Keeps.trans ?_ (by assumption))) hk)) (hk.cell (((Keeps.refl [] w).alloc _).cell hb (by simp)) (by simp)) _
  · have cb : W.cell? ⟨w.heap.size, 0, none⟩ = some (.slice none 0 0) := hk.cell (cellOf (heap_new w _) 0 rfl) (by simp)
    have fb : W.frozen? ⟨w.heap.size, 0, none⟩ = false := frees (hk.blk (heap_new w _) (by simp)) 0
    gi_wp2
    have hW := blk_setCell (hk.blk (heap_new w _) (by simp)) 0 (.slice none 0 0)
    have hDn : D ≠ w.heap.size := by simp at hD; omega
    refine ⟨by simp, .inl ⟨_, _, rfl, run_takeDeferred (w := W.setCell _ _) ((Below.heap_setCell _ _ _ _ (fun e => hDn (by simpa using e))).trans hd), ?_⟩⟩
    refine ⟨_, res_v rfl rfl (load_items ?_), rfl, Keeps.putObj (((((Keeps.refl [] w).alloc _).trans hk).setCell (fun h => absurd h (by simp)) _)) (fun h => by simp at hD; omega)⟩
    exact cellOf ((World.putObj_heap_other (by omega)).trans hW) 0 rfl

set_option maxHeartbeats 400000 in
theorem oall {w : World} {o n : Nat} {ra : Option Addr} {rc : Nat} (h : OAt w o n ra rc) (h1 : 1 ≤ n) :
    Calls Tryz.prog 100 #[.pointer (some ⟨o, 0, none⟩)] w fun en w' => en = .returned (.slice none 0 0) ∧ Keeps [] w w' := by
  have hN := Lib.hid (onone h h1)
  have hL := Lib.hid (olisted (h.keep ((Keeps.refl [] w).alloc (.cells #[.pointer (some ⟨o, 0, none⟩)] 94)) (by simp)) (cellOf (heap_new w _) 0 rfl))
  clear h
  go_enter Tryz.func100, Tryz.ntmps100
  go_wp2_with (first
    | (go_at_call 81; refine (hN.out).mono ?_; rintro e w' ⟨rfl, rfl⟩)
    | (go_at_call 125; refine (oitems _ _).mono ?_; rintro e w' ⟨rfl, rfl⟩)
    | (go_at_call 124; refine (hL.out).mono ?_; rintro e w' ⟨rfl, hk⟩))
  go_ret
  exact ⟨rfl, ((Keeps.refl [] _).alloc _).trans hk⟩

set_option maxHeartbeats 400000 in
theorem oclear {w : World} {o n : Nat} {ra : Option Addr} {rc : Nat} (h : OAt w o n ra rc) (h1 : 1 ≤ n) :
    Calls Tryz.prog 83 #[.pointer (some ⟨o, 0, none⟩)] w fun en w' => en = .returned (.slice none 0 0) ∧ Keeps [o] w w' ∧ OAt w' o n ra rc := by
  have H : Hid (∀ w', Keeps [] w w' → OAt w' o n ra rc) := Lib.hid fun w' k => h.keep k (by simp)
  have hA := Lib.hid (oall h h1)
  clear h
  go_enter Tryz.func83, Tryz.ntmps83
  go_wp2_with (first
    | (go_at_call 100; refine (hA.out).mono ?_; rintro e w1 ⟨rfl, hk⟩; have hO := H.out w1 hk; obtain ⟨c0, c1, c2⟩ := cells3' hO; have fr := frees hO; have hO := Lib.hid hO)
    | (go_at_call 81; refine (onone (H.out _ (by assumption)) h1).mono ?_; rintro e w' ⟨rfl, rfl⟩))
  go_ret
  exact ⟨rfl, (hk.mono (by simp)).setCell (by simp) _, by simpa [OAt] using blk_setCell hO.out 2 (.int .i64 0)⟩

theorem info_item : (Tryz.prog.info? 127).map (fun i => (i.zero, i.size, i.bytes)) = some (some (.agg #[.int .i64 0, .int .i64 0, .int .i64 0, .int .i64 0]), 4, 32) := by kernel_rfl

set_option maxRecDepth 100000 in
set_option maxHeartbeats 800000 in
theorem onew (n : Nat) (w : World) (h1 : 1 ≤ n) (h2 : n ≤ 1000) :
    Calls Tryz.prog 71 #[.int .i64 n] w fun en w' => ∃ o ra rc, en = .returned (.tuple #[.pointer (some ⟨o, 0, none⟩), .int .i64 0]) ∧ Keeps [] w w' ∧ w.heap.size ≤ o ∧ OAt w' o n ra rc := by
  have d1 : decide ((n : Int) < 1) = false := decide_eq_false (by omega)
  have d2 : decide (1000 < (n : Int)) = false := decide_eq_false (by omega)
  obtain ⟨i0, hi, hz0, hz1, hz2⟩ := info_parts info_item
  go_enter Tryz.func71, Tryz.ntmps71
  go_wp2_with (at_make; refine wpList_make_full _ rfl _ _ 140 rfl w.heap.size 127 i0 (.agg #[.int .i64 0, .int .i64 0, .int .i64 0, .int .i64 0]) 4 Tryz.underlying140 hi hz0 hz1 .i64 .i64 _ _ n rfl rfl rfl rfl (by rw [hz2]; omega) (by simp [maxLen]; omega) (by simp) ?_; intro w1 hrow hgr)
  have hk := Keeps.grown0 (Keeps.refl [] _) hgr
  go_ret2
  exact ⟨_, _, _, rfl, hk.alloc _, hk.size, heap_new_at _ rfl⟩

end Go.Proofs.YtkhokdikabopfaaGreatDoor
