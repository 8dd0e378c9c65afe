/-
  A new pool.
-/
import Derived.Test.YtkhokdikabopfaaGreatDoorPool
import Derived.OwnWalk
import Derived.Test.YtkhokdikabopfaaGreatDoorRange
namespace Go.Proofs.YtkhokdikabopfaaGreatDoor
open Go.RowKit Go.Shelf Go.Maps

theorem info_frame : (Tryz.prog.info? 119).map (fun i => (i.zero, i.size, i.bytes)) = some (some (.pointer none), 1, 8) := by kernel_rfl
theorem info_idle : (Tryz.prog.info? 3).map (fun i => (i.zero, i.size, i.bytes)) = some (some (.int .i64 0), 1, 8) := by kernel_rfl

theorem ownsRow_slice' {w : World} {base : Nat} {e : TypeId} {size : Nat} {v : Value} {n : Nat} {xs : List Value} (h : w.ownsRow base e size v n xs) : ∃ a cap, v = .slice a n cap := by
  obtain ⟨-, ⟨rfl, rfl⟩ | ⟨g, cap, cur, rfl, -⟩⟩ := h
  · exact ⟨_, _, rfl⟩
  · exact ⟨_, _, rfl⟩

/-- The pool while it is made. -/
structure PLoop (w wr : World) (fb hb p n i : Nat) (quota : Int) (iv : Value) : Prop where
  blk : wr.heap[p]? = some (.cells #[.slice (some ⟨fb, 0, none⟩) n n, iv, .map (some hb), .int .i64 quota] 118 (0, 0))
  held : IMap wr hb []
  frs : ∃ cur : Array Value, wr.heap[fb]? = some (.cells cur 119 (0, 0)) ∧ cur.size = n ∧ ∀ j, j < i → ∃ f, cur[j]? = some (.pointer (some ⟨f, 0, none⟩)) ∧ p < f ∧ f < wr.heap.size ∧ wr.cell? ⟨f, 0, none⟩ = some (.int .i64 0) ∧ iv.ownBlock ≠ some f
  row : wr.ownsRow (p + 1) 3 1 iv i ((List.range i).map fun (j : Nat) => Value.int .i64 j)
  kept : Keeps [] w wr

set_option maxRecDepth 100000 in
set_option maxHeartbeats 1000000 in
theorem pnew (n quota : Nat) (w : World) (h1 : 1 ≤ quota) (h2 : quota ≤ n) (h3 : n ≤ 64) :
    Calls Tryz.prog 43 #[.int .i64 n, .int .i64 quota] w fun en w' => ∃ p fb hb iv, en = .returned (.tuple #[.pointer (some ⟨p, 0, none⟩), .int .i64 0]) ∧ Keeps [] w w' ∧ w.heap.size ≤ p ∧ PoolAt w' w.heap.size w'.heap.size p fb hb n iv quota := by
  have d1 : decide ((n : Int) < 1) = false := decide_eq_false (by omega)
  have d2 : decide (64 < (n : Int)) = false := decide_eq_false (by omega)
  have d3 : decide ((quota : Int) < 1) = false := decide_eq_false (by omega)
  have d4 : decide ((n : Int) < (quota : Int)) = false := decide_eq_false (by omega)
  obtain ⟨i0, hi, hz0, hz1, hz2⟩ := info_parts info_frame
  obtain ⟨i1', hj, hy0, hy1, hy2⟩ := info_parts info_idle
  have hmm := @run_makeMap Tryz.prog
  go_enter Tryz.func43, Tryz.ntmps43
  go_wp2_with (at_make; refine wpList_make_full _ rfl _ _ 114 rfl w.heap.size 119 i0 (.pointer none) 1 Tryz.underlying114 hi hz0 hz1 .i64 .i64 _ _ n rfl rfl rfl rfl (by rw [hz2]; omega) (by simp [maxLen]; omega) (by simp) ?_; intro w1 hrow hgr)
  have hs1 : w.heap.size < w1.heap.size := (hrow.lt w.heap.size rfl).2
  have hk1 : Keeps [] w w1 := Keeps.grown0 (Keeps.refl [] _) hgr
  go_loopg [30] n (fun k z wr => ∃ (i : Nat) (iv : Value), z = .int .i64 i ∧ k + i = n ∧ PLoop w wr w.heap.size w1.heap.size (w1.heap.size + 1) n i quota iv)
  case atStart =>
    refine ⟨0, .slice none 0 0, rfl, by omega, ⟨heap_new_at _ (by simp), (IMap.made w1).alloc _, ?_, World.ownsRow_nil _ _ _ _, (hk1.alloc _).alloc _⟩⟩
    obtain ⟨hx, ⟨h0, -⟩ | ⟨g, cap, cur, e, hbg, hg, hnc, hcm, hcs, htake⟩⟩ := hrow
    · simp at h0
    · simp only [Value.slice.injEq, Option.some.injEq, Addr.mk.injEq, and_true] at e
      obtain ⟨rfl, -, rfl⟩ := e
      exact ⟨cur, (((Keeps.refl [] w1).alloc _).alloc _).blk hg (by simp), by simpa using hcs, fun j hj => absurd hj (by omega)⟩
  case round =>
    obtain ⟨i, iv, rfl, hki, hL⟩ := hrel
    obtain ⟨c0, c1, c2, c3⟩ := cells4 hL.blk
    obtain ⟨ia, ic, rfl⟩ := ownsRow_slice' hL.row
    by_cases hi : i < n
    · obtain ⟨cur, hcur, hcs, hfs⟩ := hL.frs
      have hfi : wr.cell? ⟨w.heap.size, i, none⟩ = some cur[i] := cellOf hcur i (Array.getElem?_eq_getElem (by omega))
      have ffb := frees hcur
      have fp := frees hL.blk
      have l1 := ltOf hL.blk
      have l2 := ltOf hcur
      have hL := Lib.hid hL
      have hfs := Lib.hid hfs
      have hcur := Lib.hid hcur
      clear hrow hgr
      have i1 : (0 : Int) ≤ (i : Int) := by omega
      have i2 : (i : Int) < (n : Int) := by omega
      have hrw := hL.out.row
      have hpb := Lib.hid hL.out.blk
      have hr2 : Hid (∀ v o, ((wr.setCell ⟨w.heap.size, i, none⟩ v).alloc o).ownsRow (w1.heap.size + 1 + 1) 3 1 (.slice ia i ic) i ((List.range i).map fun (j : Nat) => Value.int .i64 j)) :=
        Lib.hid fun v o => (ownsRow_of hrw (fun g hg => Below.heap_setCell _ _ _ _ (fun e => by have := (hrw.lt g hg).1; simp at e; omega))).alloc o
      have hlo : Hid (∀ g, (Value.slice ia i ic).ownBlock = some g → w1.heap.size + 1 + 1 ≤ g) := Lib.hid fun g hg => (hrw.lt g hg).1
      clear hrw
      go_wp2_with (at_builtin; refine wpList_append2 _ rfl _ _ 115 rfl (w1.heap.size + 1 + 1) 3 i1' (.int .i64 0) 1 8 Tryz.underlying115 hj hy0 hy1 hy2 rfl (by decide) _ _ _ rfl ((hr2.out _ _).alloc _) ⟨wr.heap.size + 1, 0, none⟩ 1 1 [.int .i64 (i : Int)] rfl rfl (by have h9 := cell_one_new ((wr.setCell ⟨w.heap.size, i, none⟩ (.pointer (some ⟨wr.heap.size, 0, none⟩))).alloc (.cells #[.int .i64 0, .int .i64 0, .slice none 0 0] 121)) (.int .i64 (i : Int)) 3; simpa using h9) (by simp [Value.oneCell']) (by simp [maxLen]; omega) (by omega) (by simp; omega) ?_; intro v' w2 hown' hgrow _ hnew; obtain ⟨g', cap', rfl⟩ := ownsRow_succ hown'; obtain ⟨hA, hB, hC, hD, h5⟩ := id hgrow; have hb2 := (h5 (w1.heap.size + 1) (by simp; omega) (fun e => by have := hlo.out (w1.heap.size + 1) e.symm; omega)).trans (((((Keeps.refl [w.heap.size] wr).setCell (p := ⟨w.heap.size, i, none⟩) (by simp) (.pointer (some ⟨wr.heap.size, 0, none⟩))).alloc (.cells #[.int .i64 0, .int .i64 0, .slice none 0 0] 121)).alloc (.cells #[.int .i64 (i : Int)] 3)).blk hpb.out (by simp; omega)); obtain ⟨e0, e1, e2, e3⟩ := cells4 hb2; have fr2 := frees hb2; have hb2 := Lib.hid hb2; have h5 := Lib.hid h5)
      obtain ⟨W, hW⟩ : ∃ W, W = ((wr.setCell ⟨w.heap.size, i, none⟩ (.pointer (some ⟨wr.heap.size, 0, none⟩))).alloc (.cells #[.int .i64 0, .int .i64 0, .slice none 0 0] 121)).alloc (.cells #[.int .i64 (i : Int)] 3) := ⟨_, rfl⟩
      have hWs : W.heap.size = wr.heap.size + 2 := by rw [hW]; simp
      have hkW : Keeps [w.heap.size] wr W := by rw [hW]; exact (((Keeps.refl [w.heap.size] wr).setCell (p := ⟨w.heap.size, i, none⟩) (by simp) _).alloc _).alloc _
      have hWfb : W.heap[w.heap.size]? = some (.cells (cur.setIfInBounds i (.pointer (some ⟨wr.heap.size, 0, none⟩))) 119 (0, 0)) := by
        rw [hW]; exact (((Keeps.refl [] _).alloc _).alloc _).blk (blk_setCell hcur.out i _) (by simp)
      have hWf : W.heap[wr.heap.size]? = some (.cells #[.int .i64 0, .int .i64 0, .slice none 0 0] 121 (0, 0)) := by
        rw [hW]; exact ((Keeps.refl [] _).alloc _).blk (heap_new_at _ (by simp)) (by simp)
      have h5' := h5.out
      rw [← hW] at h5' hD
      have hol : ∀ g, (Value.slice ia i ic).ownBlock = some g → g < wr.heap.size := fun g hg => (hL.out.row.lt g hg).2
      have key : ∀ b, b < W.heap.size → b ≠ w1.heap.size + 1 → (Value.slice ia i ic).ownBlock ≠ some b → (w2.setCell ⟨w1.heap.size + 1, 1, none⟩ (.slice (some ⟨g', 0, none⟩) (i + 1) cap')).heap[b]? = W.heap[b]? :=
        fun b hb1 hb3 hb4 => (Below.heap_setCell _ _ _ _ (fun e => hb3 (by simpa using e))).trans (h5' b hb1 (fun e => hb4 e.symm))
      go_roundg (gk - 1)
      case measure => omega
      case rel =>
        refine ⟨i + 1, _, by simp, by omega, ⟨by simpa using blk_setCell hb2.out 1 (.slice (some ⟨g', 0, none⟩) (i + 1) cap'), ?_, ⟨_, (key _ (by omega) (by omega) (fun e => by have := hlo.out _ e; omega)).trans hWfb, by simpa using hcs, ?_⟩, ?_, ?_⟩⟩
        · obtain ⟨es, clock, hbk, r⟩ := (hL.out.held.keep hkW (by simp; omega)).ex
          exact ⟨es, clock, (key _ (by omega) (by omega) (fun e => by have := hlo.out _ e; omega)).trans hbk, r⟩
        · intro j hj
          have hfin : wr.heap.size + 2 ≤ (w2.setCell ⟨w1.heap.size + 1, 1, none⟩ (.slice (some ⟨g', 0, none⟩) (i + 1) cap')).heap.size := by simp [World.setCell]; omega
          have hng : (Value.slice ia i ic).ownBlock = some g' ∨ wr.heap.size + 2 ≤ g' := by
            rcases hnew g' rfl with h | h
            · exact .inl h
            · exact .inr (by simp at h; omega)
          by_cases hji : j = i
          · subst hji
            refine ⟨wr.heap.size, by simp [hcs, hi], by omega, by omega, cellOf ((key _ (by omega) (by omega) (fun e => by have := hol _ e; omega)).trans hWf) 0 rfl, fun e => ?_⟩
            simp [Value.ownBlock] at e
            rcases hng with h | h
            · have := hol _ h; omega
            · omega
          · obtain ⟨f, f1, f2, f3, f4, f5⟩ := hfs.out j (by omega)
            refine ⟨f, by rw [Array.getElem?_setIfInBounds_ne (Ne.symm hji)]; exact f1, f2, by omega, ?_, fun e => ?_⟩
            · have hcW := hkW.cell f4 (by simp; omega)
              exact (World.cell?_of_block (key f (by omega) (by omega) f5)).trans hcW
            · simp [Value.ownBlock] at e
              rcases hng with h | h
              · exact f5 (by rw [h, e])
              · omega
        · have hr9 := ownsRow_of hown' (w' := w2.setCell ⟨w1.heap.size + 1, 1, none⟩ (.slice (some ⟨g', 0, none⟩) (i + 1) cap')) (fun g hg => Below.heap_setCell _ _ _ _ (fun e => by have := (hown'.lt g hg).1; simp at e; omega))
          simpa [List.range_succ] using hr9
        · refine hL.out.kept.of_old hA hB hC (by simp [World.setCell]; omega) (fun k hk hkn => ?_)
          exact (key k (by omega) (by omega) (fun e => by have := hlo.out _ e; omega)).trans (hkW.block k (by omega) (by simp; omega))
    · have hie : i = n := by omega
      subst hie
      have hL := Lib.hid hL
      clear c0 c1 c2 c3 hki
      go_wp2
      go_ret2
      have hL := hL.out
      have hk := hL.kept
      have hbl := ltOf hL.blk
      obtain ⟨cur, hcur, hcs, hfs⟩ := hL.frs
      refine ⟨_, _, _, _, rfl, hk, by omega, ⟨hL.blk, fun j hj => ?_, ⟨ia, ic, rfl⟩, hL.held, ⟨hbl, ltOf hcur, hL.held.lt⟩, ⟨by omega, by omega, by omega⟩⟩⟩
      obtain ⟨f, f1, f2, f3, f4, -⟩ := hfs j hj
      exact ⟨f, ⟨by omega, f3⟩, cellOf hcur j f1, f4⟩

end Go.Proofs.YtkhokdikabopfaaGreatDoor
