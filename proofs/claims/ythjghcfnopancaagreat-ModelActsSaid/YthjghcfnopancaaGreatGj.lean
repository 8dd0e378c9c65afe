/-
  The reference's model: what hangs on bytes and bits.
-/
import Derived.Test.YthjghcfnopancaaGreatGi
import Derived.Test.YthjghcfnopancaaGreatGh
namespace Go.Proofs.YthjghcfnopancaaGreat
open Go.RowKit Go.Shelf Go.Maps

set_option maxRecDepth 100000 in
set_option maxHeartbeats 1000000 in
theorem rm_counts {w : World} {m b o : Nat} {room came gone left free : Int} (cm : w.cell? ⟨m, 3, none⟩ = some (.int .i64 room)) (c0 : w.cell? ⟨b, o, none⟩ = some (.int .i64 came)) (c8 : w.cell? ⟨b, o + 8, none⟩ = some (.int .i64 gone))
    (c4 : w.cell? ⟨b, o + 4, none⟩ = some (.int .i64 left)) (c5 : w.cell? ⟨b, o + 5, none⟩ = some (.int .i64 free)) (hf : ∀ i, w.frozen? ⟨b, i, none⟩ = false) :
    Calls Tryz.prog 53 #[.pointer (some ⟨m, 0, none⟩), .pointer (some ⟨b, o, none⟩)] w fun e w' => e = .returned (.tuple #[]) ∧ ∃ d, w' = ((w.setCell ⟨b, o + 4, none⟩ (.int .i64 (wrap64 (wrap64 (8 * came) - gone)))).setCell ⟨b, o + 5, none⟩ (.int .i64 (wrap64 (wrap64 (room - came) + wrap64 (gone.tdiv 8))))).drewN d := by
  obtain ⟨l', hl'⟩ : ∃ l', wrap64 (wrap64 (8 * came) - gone) = l' := ⟨_, rfl⟩
  obtain ⟨w2, hw2⟩ : ∃ w2, w2 = (w.setCell ⟨b, o + 2 + 2, none⟩ (.int .i64 l')).drew := ⟨_, rfl⟩
  have e0 : w2.cell? ⟨b, o, none⟩ = some (.int .i64 came) := by rw [hw2]; exact (World.cell?_setCell_other _ _ _ _ (by simp)).trans c0
  have e8 : w2.cell? ⟨b, o + 2 + 6, none⟩ = some (.int .i64 gone) := by rw [hw2]; exact (World.cell?_setCell_other _ _ _ _ (by simp)).trans c8
  have e5 : w2.cell? ⟨b, o + 2 + 3, none⟩ = some (.int .i64 free) := by rw [hw2]; exact (World.cell?_setCell_other _ _ _ _ (by simp)).trans c5
  have em : w2.cell? ⟨m, 3, none⟩ = some (.int .i64 room) := by rw [hw2]; exact (World.cell?_setCell_other _ _ _ _ (by simp)).trans cm
  have ef : ∀ i, w2.frozen? ⟨b, i, none⟩ = false := fun i => by rw [hw2]; simpa using hf i
  have hw2 := Lib.hid hw2
  rw [hl']
  go_enter Tryz.func53, Tryz.ntmps53
  go_wp2
  refine wp_region_seg [15] (by kernel_rfl) (by kernel_rfl) ?_
  simp only [wpSeg, List.drop_zero, List.drop_succ_cons, List.take_succ_cons, List.take_zero, Nat.reduceSub, Nat.reduceAdd]
  repeat still_step
  refine wpStill_nil ?_
  go_wp2
  refine wpStill_nil ?_
  rw [hl', ← hw2.out]
  go_wp2
  refine wp_region_seg [21] (by kernel_rfl) (by kernel_rfl) ?_
  simp only [wpSeg, List.drop_zero, List.drop_succ_cons, List.take_succ_cons, List.take_zero, Nat.reduceSub, Nat.reduceAdd]
  change wpStill _ _ w2.drew _ _ _
  repeat still_step
  refine wpStill_nil ?_
  change wpList _ _ _ _ _ w2.drew
  go_wp2
  refine wpStill_nil ?_
  go_wp2
  go_end0
  exact ⟨rfl, 2, rfl⟩

/-- A row of what is known. -/
def kcells (ks : List Kn) : List Value := ks.flatMap Kn.cells
theorem kn_len (k : Kn) : k.cells.length = 9 := rfl
theorem kcells_len : ∀ (ks : List Kn), (kcells ks).length = ks.length * 9
  | [] => rfl
  | k :: t => by
    have := kcells_len t
    simp only [kcells, List.flatMap_cons, List.length_append, kn_len, List.length_cons] at this ⊢
    omega
theorem kcells_at : ∀ {ks : List Kn} {i : Nat} {k : Kn}, ks[i]? = some k → ∀ {j : Nat}, j < 9 → (kcells ks)[9 * i + j]? = k.cells[j]?
  | [], i, k, h, _, _ => by simp at h
  | a :: t, 0, k, h, j, hj => by
    simp only [List.getElem?_cons_zero, Option.some.injEq] at h
    subst h
    simp only [kcells, List.flatMap_cons, Nat.mul_zero, Nat.zero_add]
    rw [List.getElem?_append_left (by rw [kn_len]; exact hj)]
  | a :: t, i + 1, k, h, j, hj => by
    simp only [List.getElem?_cons_succ] at h
    have ih := kcells_at h hj
    simp only [kcells, List.flatMap_cons] at ih ⊢
    rw [List.getElem?_append_right (by rw [kn_len]; omega), kn_len, ← ih]
    congr 1
    omega
theorem kcells_set : ∀ {ks : List Kn} {i : Nat} {k K : Kn}, ks[i]? = some k → ∀ {j : Nat} {v : Value}, j < 9 → K.cells = k.cells.set j v → (kcells ks).set (9 * i + j) v = kcells (ks.set i K)
  | [], i, k, K, h, _, _, _, _ => by simp at h
  | a :: t, 0, k, K, h, j, v, hj, e => by
    simp only [List.getElem?_cons_zero, Option.some.injEq] at h
    subst h
    simp only [kcells, List.flatMap_cons, Nat.mul_zero, Nat.zero_add, List.set_cons_zero]
    rw [List.set_append_left _ _ (by rw [kn_len]; exact hj), e]
  | a :: t, i + 1, k, K, h, j, v, hj, e => by
    simp only [List.getElem?_cons_succ] at h
    have ih := kcells_set h hj e
    simp only [kcells, List.flatMap_cons, List.set_cons_succ] at ih ⊢
    rw [List.set_append_right _ _ (by rw [kn_len]; omega), kn_len, ← ih]
    congr 2
    omega

/-- The row in memory: one cell. -/
theorem krow_cell {w : World} {base : Nat} {v : Value} {ks : List Kn} (h : w.ownsRow base 74 9 v ks.length (kcells ks)) {i : Nat} {k : Kn} (hk : ks[i]? = some k) :
    ∃ g cap, v = .slice (some ⟨g, 0, none⟩) ks.length cap ∧ base ≤ g ∧ g < w.heap.size ∧ (∀ j u, k.cells[j]? = some u → w.cell? ⟨g, i * 9 + j, none⟩ = some u) ∧ ∀ n, w.frozen? ⟨g, n, none⟩ = false := by
  have hi : i < ks.length := (List.getElem?_eq_some_iff.1 hk).1
  obtain ⟨hx, ⟨rfl, hn⟩ | ⟨g, cap, cur, rfl, hb, hg, hnc, hcm, hcs, htake⟩⟩ := id h
  · omega
  · refine ⟨g, cap, rfl, hb, ltOf hg, fun j u hj => ?_, frees hg⟩
    have hj9 : j < 9 := by have := (List.getElem?_eq_some_iff.1 hj).1; simpa [kn_len] using this
    have h2 := h.cells (g := g) rfl (i * 9 + j) u (by rw [Nat.mul_comm i 9, kcells_at hk hj9]; exact hj)
    by_cases h0 : i * 9 + j = 0
    · rw [h0] at h2 ⊢; simpa [Addr.add] using h2
    · simp only [Addr.add] at h2
      rw [if_neg h0, Nat.zero_add] at h2
      exact h2

/-- .. and a store into one. -/
theorem krow_set {w : World} {base g len cap : Nat} {ks : List Kn} (h : w.ownsRow base 74 9 (.slice (some ⟨g, 0, none⟩) len cap) ks.length (kcells ks)) {i : Nat} {k K : Kn} (hk : ks[i]? = some k) {j : Nat} {v : Value} (hj : j < 9) (e : K.cells = k.cells.set j v) :
    (w.setCell ⟨g, i * 9 + j, none⟩ v).ownsRow base 74 9 (.slice (some ⟨g, 0, none⟩) len cap) (ks.set i K).length (kcells (ks.set i K)) := by
  obtain ⟨hx, ⟨h1, hn⟩ | ⟨g', cap', cur, e1, hb, hg, hnc, hcm, hcs, htake⟩⟩ := id h
  · simp at h1
  · simp only [Value.slice.injEq, Option.some.injEq, Addr.mk.injEq, and_true] at e1
    obtain ⟨rfl, rfl, rfl⟩ := e1
    refine ⟨kcells_len _, .inr ⟨_, _, cur.set! (i * 9 + j) v, by simp, hb, ?_, by simpa using hnc, hcm, by simpa using hcs, ?_⟩⟩
    · exact blk_setCell hg _ _
    · rw [← kcells_set hk hj e, Nat.mul_comm 9 i]
      simp only [List.length_set, Array.set!_eq_setIfInBounds, Array.toList_setIfInBounds, List.take_set] at htake ⊢
      rw [htake]

end Go.Proofs.YthjghcfnopancaaGreat

/-
  The reference's model in memory: contracts, one for each method.
-/
namespace Go.Proofs.YthjghcfnopancaaGreat
open Go.RowKit Go.Shelf Go.Maps

/-- The reference's model: its table, and a row of what is known, of its own. -/
structure RMAt (w : World) (base m t : Nat) (tv lv : Value) (c : Cf) (cs : List Int) (ks : List Kn) : Prop where
  blk : w.heap[m]? = some (.cells #[.int .i64 c.sessions, .int .i64 c.frames, .int .i64 c.quota, .int .i64 c.room, .int .i64 c.slots, .pointer (some ⟨t, 0, none⟩), lv] 46 (0, 0))
  tbl : RT w base t tv c.sessions cs
  row : w.ownsRow base 74 9 lv ks.length (kcells ks)
  len : ks.length = cs.length
  lt : m < base

theorem RMAt.keep {l : List Nat} {w w' : World} {base m t : Nat} {tv lv : Value} {c : Cf} {cs : List Int} {ks : List Kn} (h : RMAt w base m t tv lv c cs ks) (k : Keeps l w w') (h1 : m ∉ l) (h2 : t ∉ l) (h3 : ∀ g, tv.ownBlock = some g → g ∉ l) (h4 : ∀ g, lv.ownBlock = some g → g ∉ l) : RMAt w' base m t tv lv c cs ks :=
  ⟨k.blk h.blk h1, h.tbl.keep k h2 h3, ownsRow_of h.row (fun g hg => k.block g (h.row.lt g hg).2 (h4 g hg)), h.len, h.lt⟩
theorem RMAt.on {w w' : World} {base m t : Nat} {tv lv : Value} {c : Cf} {cs : List Int} {ks : List Kn} (h : RMAt w base m t tv lv c cs ks) (k : Keeps [] w w') : RMAt w' base m t tv lv c cs ks :=
  h.keep k (by simp) (by simp) (by simp) (by simp)

/-- Why nothing is asked of a number. -/
def rrefuse (cs : List Int) (id : Int) : Int := if (rcause cs id).2 = 0 then (rcause cs id).1 else (rcause cs id).2

set_option maxHeartbeats 400000 in
theorem rm_refuses {w : World} {base m t : Nat} {tv lv : Value} {c : Cf} {cs : List Int} {ks : List Kn} (h : RMAt w base m t tv lv c cs ks) (id : Int) :
    Calls Tryz.prog 52 #[.pointer (some ⟨m, 0, none⟩), .int .i64 id] w fun e w' => e = .returned (.int .i64 (rrefuse cs id)) ∧ Keeps [] w w' := by
  have hC := Lib.hid (rt_cause h.tbl id)
  obtain ⟨c0, c1, c2, c3, c4, c5, c6⟩ := cells7 h.blk
  unfold rrefuse
  generalize rcause cs id = q at hC ⊢
  obtain ⟨a, b⟩ := q
  simp only at hC ⊢
  clear h
  by_cases hb : b = 0
  · subst hb
    rw [if_pos rfl]
    go_enter Tryz.func52, Tryz.ntmps52
    go_wp2_with (go_at_call 41; refine (hC.out).mono ?_; rintro e w1 ⟨rfl, hk⟩)
    go_ret
    exact ⟨rfl, hk⟩
  · have hb' : (b == 0) = false := by simpa using hb
    rw [if_neg hb]
    go_enter Tryz.func52, Tryz.ntmps52
    go_wp2_with (go_at_call 41; refine (hC.out).mono ?_; rintro e w1 ⟨rfl, hk⟩)
    go_ret
    exact ⟨rfl, hk⟩

/-- A live number's place. -/
theorem rrefuse_zero {cs : List Int} {id : Int} (h : rrefuse cs id = 0) : ∃ i : Nat, id = (i : Int) + 1 ∧ i < cs.length ∧ cs.getD i 0 = 0 := by
  unfold rrefuse rcause at h
  by_cases h1 : id < 1 ∨ (cs.length : Int) < id
  · simp [h1] at h
  · rw [if_neg h1] at h
    simp only [if_true] at h
    exact ⟨(id - 1).toNat, by omega, by omega, h⟩

set_option maxHeartbeats 400000 in
theorem rm_feed_no {w : World} {base m t : Nat} {tv lv : Value} {c : Cf} {cs : List Int} {ks : List Kn} (h : RMAt w base m t tv lv c cs ks) (id n : Int) (hr : rrefuse cs id ≠ 0) :
    Calls Tryz.prog 28 #[.pointer (some ⟨m, 0, none⟩), .int .i64 id, .int .i64 n] w fun e w' => e = .returned (.tuple #[.int .i64 0, .int .i64 (rrefuse cs id)]) ∧ Keeps [] w w' := by
  have hC := Lib.hid (rm_refuses h id)
  have hr' : (rrefuse cs id == 0) = false := by simpa using hr
  clear h
  go_enter Tryz.func28, Tryz.ntmps28
  go_wp2_with (go_at_call 52; refine (hC.out).mono ?_; rintro e w1 ⟨rfl, hk⟩)
  go_ret2
  exact ⟨rfl, hk⟩

/-- A store into a live number's known. -/
theorem RMAt.put {w : World} {base m t g cap : Nat} {tv : Value} {c : Cf} {cs : List Int} {ks : List Kn} (h : RMAt w base m t tv (.slice (some ⟨g, 0, none⟩) ks.length cap) c cs ks) {i : Nat} {k K : Kn} (hk : ks[i]? = some k) {j : Nat} {v : Value} (hj : j < 9) (e : K.cells = k.cells.set j v) :
    RMAt (w.setCell ⟨g, i * 9 + j, none⟩ v) base m t tv (.slice (some ⟨g, 0, none⟩) (ks.set i K).length cap) c cs (ks.set i K) := by
  have hb := (h.row.lt g rfl).1
  have hr := krow_set h.row hk hj e
  have hm := h.lt
  have ht := h.tbl.lt
  refine ⟨by simpa using blk_setCell_ne (v := v) (i := i * 9 + j) h.blk (show g ≠ m by omega), ⟨blk_setCell_ne h.tbl.blk (by omega), ?_, ht, h.tbl.lim⟩, ?_, by simpa using h.len, hm⟩
  · refine ownsRow_of h.tbl.row (fun g' hg' => Below.heap_setCell _ _ _ _ (fun e => ?_))
    simp only at e
    subst e
    obtain ⟨-, ⟨h1, -⟩ | ⟨g1, cap1, cur1, h1, -, h2, -⟩⟩ := h.tbl.row
    · rw [h1] at hg'; simp [Value.ownBlock] at hg'
    · obtain ⟨-, ⟨h3, -⟩ | ⟨g3, cap3, cur3, h3, -, h4, -⟩⟩ := h.row
      · simp at h3
      · rw [h1] at hg'
        simp only [Value.ownBlock, Option.some.injEq] at hg'
        simp only [Value.slice.injEq, Option.some.injEq, Addr.mk.injEq, and_true] at h3
        subst hg'
        rw [h3.1, h4] at h2
        simp at h2
  · simpa using hr

theorem rm_counts_row {w : World} {base m t g cap : Nat} {tv : Value} {c : Cf} {cs : List Int} {ks : List Kn} (h : RMAt w base m t tv (.slice (some ⟨g, 0, none⟩) ks.length cap) c cs ks) {i : Nat} {k : Kn} (hk : ks[i]? = some k) :
    Calls Tryz.prog 53 #[.pointer (some ⟨m, 0, none⟩), .pointer (some ⟨g, i * 9, none⟩)] w fun e w' => e = .returned (.tuple #[]) ∧ Keeps [g] w w' ∧ RMAt w' base m t tv (.slice (some ⟨g, 0, none⟩) ks.length cap) c cs (ks.set i (k.counts c.room)) := by
  have hil : i < ks.length := (List.getElem?_eq_some_iff.1 hk).1
  obtain ⟨q0, q1, q2, q3, q4, q5, q6⟩ := cells7 h.blk
  obtain ⟨g', cap', e, -, -, hcell, hfz⟩ := krow_cell h.row hk
  simp only [Value.slice.injEq, Option.some.injEq, Addr.mk.injEq, and_true, true_and] at e
  obtain ⟨rfl, rfl⟩ := e
  refine (rm_counts q3 (hcell 0 _ rfl) (hcell 8 _ rfl) (hcell 4 _ rfl) (hcell 5 _ rfl) hfz).mono ?_
  rintro e w' ⟨he, d, rfl⟩
  have p1 := h.put (K := { k with s := { k.s with left := wrap64 (wrap64 (8 * k.came) - k.s.gone) } }) hk (j := 4) (v := .int .i64 (wrap64 (wrap64 (8 * k.came) - k.s.gone))) (by omega) rfl
  have p2 := p1.put (K := k.counts c.room) (i := i) (k := { k with s := { k.s with left := wrap64 (wrap64 (8 * k.came) - k.s.gone) } }) (by simp [hil]) (j := 5) (v := .int .i64 (wrap64 (wrap64 (c.room - k.came) + wrap64 (k.s.gone.tdiv 8)))) (by omega) rfl
  refine ⟨he, ((((Keeps.refl [g] w).setCell (by simp) _).setCell (by simp) _).drewN d), ?_⟩
  have p3 := p2.on ((Keeps.refl [] _).drewN d)
  simpa using p3

set_option maxRecDepth 100000 in
set_option maxHeartbeats 1000000 in
theorem rm_feed {w : World} {base m t : Nat} {tv lv : Value} {c : Cf} {cs : List Int} {ks : List Kn} (h : RMAt w base m t tv lv c cs ks) {i : Nat} {k : Kn} (hk : ks[i]? = some k) (hr : rrefuse cs ((i : Int) + 1) = 0) (n : Int) (hi : i < 1000) :
    Calls Tryz.prog 28 #[.pointer (some ⟨m, 0, none⟩), .int .i64 ((i : Int) + 1), .int .i64 n] w fun e w' =>
      if n < 0 then e = .returned (.tuple #[.int .i64 0, .int .i64 3]) ∧ Keeps [] w w' else
      if k.ended then e = .returned (.tuple #[.int .i64 0, .int .i64 20]) ∧ Keeps [] w w' else
      e = .returned (.tuple #[.int .i64 (min n k.s.free), .int .i64 0]) ∧ Keeps lv.ownBlock.toList w w' ∧ RMAt w' base m t tv lv c cs (ks.set i (({ k with came := wrap64 (k.came + min n k.s.free) } : Kn).counts c.room)) := by
  have hC := Lib.hid (rm_refuses h ((i : Int) + 1))
  rw [hr] at hC
  have H := Lib.hid h
  have hk0 := Lib.hid hk
  have hil : i < ks.length := (List.getElem?_eq_some_iff.1 hk).1
  obtain ⟨g, cap, rfl, hb, hg, -, -⟩ := krow_cell h.row hk
  obtain ⟨came, ended, cause, queued, left, free, frames, pictures, gone⟩ := k
  have hx := IntWalk.i64_in (i : Int) (by omega)
  by_cases hn : n < 0
  · simp only [if_pos hn]
    clear h hk
    go_enter Tryz.func28, Tryz.ntmps28
    go_wp2_with (go_at_call 52; refine (hC.out).mono ?_; rintro e w1 ⟨rfl, hk⟩; obtain ⟨q0, q1, q2, q3, q4, q5, q6⟩ := cells7 (H.out.on hk).blk)
    go_ret2
    exact ⟨rfl, hk⟩
  · simp only [if_neg hn]
    cases ended
    · clear h hk
      go_enter Tryz.func28, Tryz.ntmps28
      go_wp2_with (go_at_call 52; refine (hC.out).mono ?_; rintro e w1 ⟨rfl, hk⟩; (have h1 := H.out.on hk); obtain ⟨q0, q1, q2, q3, q4, q5, q6⟩ := cells7 h1.blk; obtain ⟨g', cap', e, -, -, hcell, hfz⟩ := krow_cell h1.row hk0.out; simp only [Value.slice.injEq, Option.some.injEq, Addr.mk.injEq, and_true, true_and] at e; obtain ⟨rfl, rfl⟩ := e; (have r0 : w1.cell? ⟨g, i * 9, none⟩ = _ := hcell 0 _ rfl); (have r1 := hcell 1 _ rfl); (have r5 : w1.cell? ⟨g, i * 9 + 2 + 3, none⟩ = _ := hcell 5 _ rfl); (have hP := h1.put (K := ⟨wrap64 (came + min n free), false, ⟨cause, queued, left, free, frames, pictures, gone⟩⟩) hk0.out (j := 0) (v := .int .i64 (wrap64 (came + min n free))) (by omega) rfl); (have hR := rm_counts_row hP (i := i) (k := ⟨wrap64 (came + min n free), false, ⟨cause, queued, left, free, frames, pictures, gone⟩⟩) (by simp [hil])); have hR := Lib.hid hR; have hP := Lib.hid hP; have h1 := Lib.hid h1; have hcell := Lib.hid hcell)
      refine (hR.out).mono ?_
      rintro e w2 ⟨rfl, hk2, h2⟩
      go_wp2
      go_ret2
      refine ⟨rfl, ?_, by simpa using h2⟩
      exact ((hk.mono (by simp)).setCell (p := ⟨g, i * 9, none⟩) (by simp [Value.ownBlock]) _).trans (hk2.mono (by simp [Value.ownBlock]))
    · clear h hk
      go_enter Tryz.func28, Tryz.ntmps28
      go_wp2_with (go_at_call 52; refine (hC.out).mono ?_; rintro e w1 ⟨rfl, hk⟩; (have h1 := H.out.on hk); obtain ⟨q0, q1, q2, q3, q4, q5, q6⟩ := cells7 h1.blk; obtain ⟨g', cap', e, -, -, hcell, hfz⟩ := krow_cell h1.row hk0.out; simp only [Value.slice.injEq, Option.some.injEq, Addr.mk.injEq, and_true, true_and] at e; obtain ⟨rfl, rfl⟩ := e; (have r0 : w1.cell? ⟨g, i * 9, none⟩ = _ := hcell 0 _ rfl); (have r1 := hcell 1 _ rfl); (have r5 : w1.cell? ⟨g, i * 9 + 2 + 3, none⟩ = _ := hcell 5 _ rfl); have h1 := Lib.hid h1; have hcell := Lib.hid hcell)
      go_ret2
      exact ⟨rfl, hk⟩

end Go.Proofs.YthjghcfnopancaaGreat
/-
  The reference's model: End, Close, Evict, Drain.
-/
namespace Go.Proofs.YthjghcfnopancaaGreat
open Go.RowKit Go.Shelf Go.Maps

theorem RMAt.apart {w : World} {base m t : Nat} {tv lv : Value} {c : Cf} {cs : List Int} {ks : List Kn} (h : RMAt w base m t tv lv c cs ks) {g : Nat} (h1 : tv.ownBlock = some g) : lv.ownBlock ≠ some g := by
  intro h2
  obtain ⟨-, ⟨e1, -⟩ | ⟨g1, cap1, cur1, e1, -, a1, -⟩⟩ := h.tbl.row
  · rw [e1] at h1; simp [Value.ownBlock] at h1
  · obtain ⟨-, ⟨e3, -⟩ | ⟨g3, cap3, cur3, e3, -, a3, -⟩⟩ := h.row
    · rw [e3] at h2; simp [Value.ownBlock] at h2
    · rw [e1] at h1
      rw [e3] at h2
      simp only [Value.ownBlock, Option.some.injEq] at h1 h2
      rw [h1] at a1
      rw [h2, a1] at a3
      simp at a3

/-- A number is over in the table. -/
theorem RMAt.over {w w' : World} {base m t g : Nat} {tv lv : Value} {c : Cf} {cs cs' : List Int} {ks : List Kn} (h : RMAt w base m t tv lv c cs ks) (hg : tv.ownBlock = some g) (k : Keeps [g] w w') (hT : RT w' base t tv c.sessions cs') (hl : cs'.length = cs.length) : RMAt w' base m t tv lv c cs' ks := by
  have hb := (h.tbl.row.lt g hg).1
  have hm := h.lt
  exact ⟨k.blk h.blk (by simp; omega), hT, ownsRow_of h.row (fun g' hg' => k.block g' (h.row.lt g' hg').2 (by simp; intro e; subst e; exact h.apart hg hg')), by rw [hl]; exact h.len, hm⟩

set_option maxHeartbeats 400000 in
theorem rm_stop_no {w : World} {base m t : Nat} {tv lv : Value} {c : Cf} {cs : List Int} {ks : List Kn} (h : RMAt w base m t tv lv c cs ks) (id : Int) (hr : rrefuse cs id ≠ 0) :
    Calls Tryz.prog 30 #[.pointer (some ⟨m, 0, none⟩), .int .i64 id] w fun e w' => e = .returned (.int .i64 (rrefuse cs id)) ∧ Keeps [] w w' := by
  have hC := Lib.hid (rm_refuses h id)
  have hr' : (rrefuse cs id == 0) = false := by simpa using hr
  clear h
  go_enter Tryz.func30, Tryz.ntmps30
  go_wp2_with (go_at_call 52; refine (hC.out).mono ?_; rintro e w1 ⟨rfl, hk⟩)
  go_ret
  exact ⟨rfl, hk⟩

set_option maxRecDepth 100000 in
set_option maxHeartbeats 1000000 in
theorem rm_stop {w : World} {base m t : Nat} {tv lv : Value} {c : Cf} {cs : List Int} {ks : List Kn} (h : RMAt w base m t tv lv c cs ks) {i : Nat} {k : Kn} (hk : ks[i]? = some k) (hr : rrefuse cs ((i : Int) + 1) = 0) (hi : i < 1000) :
    Calls Tryz.prog 30 #[.pointer (some ⟨m, 0, none⟩), .int .i64 ((i : Int) + 1)] w fun e w' =>
      if k.ended then e = .returned (.int .i64 20) ∧ Keeps [] w w' else
      e = .returned (.int .i64 0) ∧ Keeps lv.ownBlock.toList w w' ∧ RMAt w' base m t tv lv c cs (ks.set i { k with ended := true }) := by
  have hC := Lib.hid (rm_refuses h ((i : Int) + 1))
  rw [hr] at hC
  have H := Lib.hid h
  have hk0 := Lib.hid hk
  have hil : i < ks.length := (List.getElem?_eq_some_iff.1 hk).1
  obtain ⟨g, cap, rfl, hb, hg, -, -⟩ := krow_cell h.row hk
  obtain ⟨came, ended, s⟩ := k
  have hx := IntWalk.i64_in (i : Int) (by omega)
  cases ended
  · clear h hk
    go_enter Tryz.func30, Tryz.ntmps30
    go_wp2_with (go_at_call 52; refine (hC.out).mono ?_; rintro e w1 ⟨rfl, hk⟩; (have h1 := H.out.on hk); obtain ⟨q0, q1, q2, q3, q4, q5, q6⟩ := cells7 h1.blk; obtain ⟨g', cap', e, -, -, hcell, hfz⟩ := krow_cell h1.row hk0.out; simp only [Value.slice.injEq, Option.some.injEq, Addr.mk.injEq, and_true, true_and] at e; obtain ⟨rfl, rfl⟩ := e; (have r1 := hcell 1 _ rfl); (have hP := h1.put (K := ⟨came, true, s⟩) hk0.out (j := 1) (v := .bool true) (by omega) rfl); have hP := Lib.hid hP; have h1 := Lib.hid h1; have hcell := Lib.hid hcell)
    go_ret
    refine ⟨rfl, (hk.mono (by simp)).setCell (by simp [Value.ownBlock]) _, by simpa using hP.out⟩
  · clear h hk
    go_enter Tryz.func30, Tryz.ntmps30
    go_wp2_with (go_at_call 52; refine (hC.out).mono ?_; rintro e w1 ⟨rfl, hk⟩; (have h1 := H.out.on hk); obtain ⟨q0, q1, q2, q3, q4, q5, q6⟩ := cells7 h1.blk; obtain ⟨g', cap', e, -, -, hcell, hfz⟩ := krow_cell h1.row hk0.out; simp only [Value.slice.injEq, Option.some.injEq, Addr.mk.injEq, and_true, true_and] at e; obtain ⟨rfl, rfl⟩ := e; (have r1 := hcell 1 _ rfl); have h1 := Lib.hid h1; have hcell := Lib.hid hcell)
    go_ret
    exact ⟨rfl, hk⟩

set_option maxHeartbeats 400000 in
theorem rm_ends_no {w : World} {base m t : Nat} {tv lv : Value} {c : Cf} {cs : List Int} {ks : List Kn} (h : RMAt w base m t tv lv c cs ks) (id x : Int) (hr : rrefuse cs id ≠ 0) :
    Calls Tryz.prog 57 #[.pointer (some ⟨m, 0, none⟩), .int .i64 id, .int .i64 x] w fun e w' => e = .returned (.int .i64 (rrefuse cs id)) ∧ Keeps [] w w' := by
  have hC := Lib.hid (rm_refuses h id)
  have hr' : (rrefuse cs id == 0) = false := by simpa using hr
  clear h
  go_enter Tryz.func57, Tryz.ntmps57
  go_wp2_with (go_at_call 52; refine (hC.out).mono ?_; rintro e w1 ⟨rfl, hk⟩)
  go_ret
  exact ⟨rfl, hk⟩

set_option maxHeartbeats 400000 in
theorem rm_ends {w : World} {base m t : Nat} {tv lv : Value} {c : Cf} {cs : List Int} {ks : List Kn} (h : RMAt w base m t tv lv c cs ks) {i : Nat} (hi : i < cs.length) (h0 : cs.getD i 0 = 0) (hr : rrefuse cs ((i : Int) + 1) = 0) (x : Int) (hx : x ≠ 0) :
    Calls Tryz.prog 57 #[.pointer (some ⟨m, 0, none⟩), .int .i64 ((i : Int) + 1), .int .i64 x] w fun e w' => e = .returned (.int .i64 0) ∧ Keeps tv.ownBlock.toList w w' ∧ RMAt w' base m t tv lv c (cs.set i x) ks := by
  have hC := Lib.hid (rm_refuses h ((i : Int) + 1))
  rw [hr] at hC
  have H := Lib.hid h
  obtain ⟨g, cap, rfl, hb, hg, -⟩ := row_cell h.tbl.row hi
  have hE : Hid (∀ w', Keeps [] w w' → _) := Lib.hid fun w' (hk : Keeps [] w w') => rt_end hi (H.out.on hk).tbl h0 x hx
  clear h
  go_enter Tryz.func57, Tryz.ntmps57
  go_wp2_with (first
    | (go_at_call 52; refine (hC.out).mono ?_; rintro e w1 ⟨rfl, hk⟩; obtain ⟨q0, q1, q2, q3, q4, q5, q6⟩ := cells7 (H.out.on hk).blk)
    | (go_at_call 55; refine (hE.out _ hk).mono ?_; rintro e w2 ⟨rfl, hk2, hT⟩; have hT := Lib.hid hT))
  go_ret
  exact ⟨rfl, (hk.mono (by simp)).trans (hk2.mono (by simp [Value.ownBlock])), (H.out.on hk).over rfl hk2 hT.out (by simp)⟩

end Go.Proofs.YthjghcfnopancaaGreat

/-
  The reference's model: Close, Evict, Drain, Status.
-/
namespace Go.Proofs.YthjghcfnopancaaGreat
open Go.RowKit Go.Shelf Go.Maps

set_option maxHeartbeats 400000 in
theorem rm_Close_no {w : World} {base m t : Nat} {tv lv : Value} {c : Cf} {cs : List Int} {ks : List Kn} (h : RMAt w base m t tv lv c cs ks) (id : Int) (hr : rrefuse cs id ≠ 0) :
    Calls Tryz.prog 34 #[.pointer (some ⟨m, 0, none⟩), .int .i64 id] w fun e w' => e = .returned (.int .i64 (rrefuse cs id)) ∧ Keeps [] w w' := by
  have h := Lib.hid (rm_ends_no h id 21 hr)
  go_enter Tryz.func34, Tryz.ntmps34
  go_wp2_with (go_at_call 57; refine (h.out).mono ?_; rintro e w1 ⟨rfl, hk⟩)
  go_ret
  exact ⟨rfl, hk⟩

set_option maxHeartbeats 400000 in
theorem rm_Close {w : World} {base m t : Nat} {tv lv : Value} {c : Cf} {cs : List Int} {ks : List Kn} (h : RMAt w base m t tv lv c cs ks) {i : Nat} (hi : i < cs.length) (h0 : cs.getD i 0 = 0) (hr : rrefuse cs ((i : Int) + 1) = 0) :
    Calls Tryz.prog 34 #[.pointer (some ⟨m, 0, none⟩), .int .i64 ((i : Int) + 1)] w fun e w' => e = .returned (.int .i64 0) ∧ Keeps tv.ownBlock.toList w w' ∧ RMAt w' base m t tv lv c (cs.set i 21) ks := by
  have h := Lib.hid (rm_ends h hi h0 hr 21 (by decide))
  go_enter Tryz.func34, Tryz.ntmps34
  go_wp2_with (go_at_call 57; refine (h.out).mono ?_; rintro e w1 ⟨rfl, hk, hR⟩; have hR := Lib.hid hR)
  go_ret
  exact ⟨rfl, hk, hR.out⟩

set_option maxHeartbeats 400000 in
theorem rm_Evict_no {w : World} {base m t : Nat} {tv lv : Value} {c : Cf} {cs : List Int} {ks : List Kn} (h : RMAt w base m t tv lv c cs ks) (id : Int) (hr : rrefuse cs id ≠ 0) :
    Calls Tryz.prog 36 #[.pointer (some ⟨m, 0, none⟩), .int .i64 id] w fun e w' => e = .returned (.int .i64 (rrefuse cs id)) ∧ Keeps [] w w' := by
  have h := Lib.hid (rm_ends_no h id 22 hr)
  go_enter Tryz.func36, Tryz.ntmps36
  go_wp2_with (go_at_call 57; refine (h.out).mono ?_; rintro e w1 ⟨rfl, hk⟩)
  go_ret
  exact ⟨rfl, hk⟩

set_option maxHeartbeats 400000 in
theorem rm_Evict {w : World} {base m t : Nat} {tv lv : Value} {c : Cf} {cs : List Int} {ks : List Kn} (h : RMAt w base m t tv lv c cs ks) {i : Nat} (hi : i < cs.length) (h0 : cs.getD i 0 = 0) (hr : rrefuse cs ((i : Int) + 1) = 0) :
    Calls Tryz.prog 36 #[.pointer (some ⟨m, 0, none⟩), .int .i64 ((i : Int) + 1)] w fun e w' => e = .returned (.int .i64 0) ∧ Keeps tv.ownBlock.toList w w' ∧ RMAt w' base m t tv lv c (cs.set i 22) ks := by
  have h := Lib.hid (rm_ends h hi h0 hr 22 (by decide))
  go_enter Tryz.func36, Tryz.ntmps36
  go_wp2_with (go_at_call 57; refine (h.out).mono ?_; rintro e w1 ⟨rfl, hk, hR⟩; have hR := Lib.hid hR)
  go_ret
  exact ⟨rfl, hk, hR.out⟩


set_option maxHeartbeats 400000 in
theorem rm_drain_no {w : World} {base m t : Nat} {tv lv : Value} {c : Cf} {cs : List Int} {ks : List Kn} (h : RMAt w base m t tv lv c cs ks) (id : Int) (hr : rrefuse cs id ≠ 0) :
    Calls Tryz.prog 32 #[.pointer (some ⟨m, 0, none⟩), .int .i64 id] w fun e w' => e = .returned (.int .i64 (rrefuse cs id)) ∧ Keeps [] w w' := by
  have hC := Lib.hid (rm_refuses h id)
  have hr' : (rrefuse cs id == 0) = false := by simpa using hr
  clear h
  go_enter Tryz.func32, Tryz.ntmps32
  go_wp2_with (go_at_call 52; refine (hC.out).mono ?_; rintro e w1 ⟨rfl, hk⟩)
  go_ret
  exact ⟨rfl, hk⟩

set_option maxRecDepth 100000 in
set_option maxHeartbeats 1000000 in
theorem rm_drain_empty {w : World} {base m t : Nat} {tv lv : Value} {c : Cf} {cs : List Int} {ks : List Kn} (h : RMAt w base m t tv lv c cs ks) {i : Nat} {k : Kn} (hk : ks[i]? = some k) (hr : rrefuse cs ((i : Int) + 1) = 0) (hi : i < 1000) (hq : ¬ 0 < k.s.queued) (h0 : k.s.cause = 0) :
    Calls Tryz.prog 32 #[.pointer (some ⟨m, 0, none⟩), .int .i64 ((i : Int) + 1)] w fun e w' => e = .returned (.int .i64 16) ∧ Keeps [] w w' := by
  have hC := Lib.hid (rm_refuses h ((i : Int) + 1))
  rw [hr] at hC
  have H := Lib.hid h
  have hk0 := Lib.hid hk
  have hil : i < ks.length := (List.getElem?_eq_some_iff.1 hk).1
  obtain ⟨g, cap, rfl, hb, hg, -, -⟩ := krow_cell h.row hk
  obtain ⟨came, ended, cause, queued, left, free, frames, pictures, gone⟩ := k
  simp only at hq h0
  subst h0
  have hx := IntWalk.i64_in (i : Int) (by omega)
  clear h hk
  go_enter Tryz.func32, Tryz.ntmps32
  go_wp2_with (go_at_call 52; refine (hC.out).mono ?_; rintro e w1 ⟨rfl, hk⟩; (have h1 := H.out.on hk); obtain ⟨q0, q1, q2, q3, q4, q5, q6⟩ := cells7 h1.blk; obtain ⟨g', cap', e, -, -, hcell, hfz⟩ := krow_cell h1.row hk0.out; simp only [Value.slice.injEq, Option.some.injEq, Addr.mk.injEq, and_true, true_and] at e; obtain ⟨rfl, rfl⟩ := e; (have r2 := hcell 2 _ rfl); (have r3 : w1.cell? ⟨g, i * 9 + 2 + 1, none⟩ = _ := hcell 3 _ rfl); have h1 := Lib.hid h1; have hcell := Lib.hid hcell)
  go_ret
  exact ⟨rfl, hk⟩

set_option maxRecDepth 100000 in
set_option maxHeartbeats 1000000 in
theorem rm_drain_one {w : World} {base m t : Nat} {tv lv : Value} {c : Cf} {cs : List Int} {ks : List Kn} (h : RMAt w base m t tv lv c cs ks) {i : Nat} {k : Kn} (hk : ks[i]? = some k) (hr : rrefuse cs ((i : Int) + 1) = 0) (hi : i < 1000) (hq : 0 < k.s.queued) :
    Calls Tryz.prog 32 #[.pointer (some ⟨m, 0, none⟩), .int .i64 ((i : Int) + 1)] w fun e w' => e = .returned (.int .i64 0) ∧ Keeps lv.ownBlock.toList w w' ∧ RMAt w' base m t tv lv c cs (ks.set i { k with s := { k.s with queued := wrap64 (k.s.queued - 1) } }) := by
  have hC := Lib.hid (rm_refuses h ((i : Int) + 1))
  rw [hr] at hC
  have H := Lib.hid h
  have hk0 := Lib.hid hk
  have hil : i < ks.length := (List.getElem?_eq_some_iff.1 hk).1
  obtain ⟨g, cap, rfl, hb, hg, -, -⟩ := krow_cell h.row hk
  obtain ⟨came, ended, cause, queued, left, free, frames, pictures, gone⟩ := k
  simp only at hq
  have hx := IntWalk.i64_in (i : Int) (by omega)
  clear h hk
  go_enter Tryz.func32, Tryz.ntmps32
  go_wp2_with (go_at_call 52; refine (hC.out).mono ?_; rintro e w1 ⟨rfl, hk⟩; (have h1 := H.out.on hk); obtain ⟨q0, q1, q2, q3, q4, q5, q6⟩ := cells7 h1.blk; obtain ⟨g', cap', e, -, -, hcell, hfz⟩ := krow_cell h1.row hk0.out; simp only [Value.slice.injEq, Option.some.injEq, Addr.mk.injEq, and_true, true_and] at e; obtain ⟨rfl, rfl⟩ := e; (have r2 := hcell 2 _ rfl); (have r3 : w1.cell? ⟨g, i * 9 + 2 + 1, none⟩ = _ := hcell 3 _ rfl); (have hP := h1.put (K := ⟨came, ended, ⟨cause, wrap64 (queued - 1), left, free, frames, pictures, gone⟩⟩) hk0.out (j := 3) (v := .int .i64 (wrap64 (queued - 1))) (by omega) rfl); have hP := Lib.hid hP; have h1 := Lib.hid h1; have hcell := Lib.hid hcell)
  go_ret
  refine ⟨rfl, (hk.mono (by simp)).setCell (by simp [Value.ownBlock]) _, by simpa using hP.out⟩

set_option maxRecDepth 100000 in
set_option maxHeartbeats 1000000 in
theorem rm_drain_over {w : World} {base m t : Nat} {tv lv : Value} {c : Cf} {cs : List Int} {ks : List Kn} (h : RMAt w base m t tv lv c cs ks) {i : Nat} {k : Kn} (hk : ks[i]? = some k) (hr : rrefuse cs ((i : Int) + 1) = 0) (h00 : cs.getD i 0 = 0) (hi : i < 1000) (hq : ¬ 0 < k.s.queued) (h0 : k.s.cause ≠ 0) :
    Calls Tryz.prog 32 #[.pointer (some ⟨m, 0, none⟩), .int .i64 ((i : Int) + 1)] w fun e w' => e = .returned (.int .i64 k.s.cause) ∧ Keeps tv.ownBlock.toList w w' ∧ RMAt w' base m t tv lv c (cs.set i k.s.cause) ks := by
  have hC := Lib.hid (rm_refuses h ((i : Int) + 1))
  rw [hr] at hC
  have H := Lib.hid h
  have hk0 := Lib.hid hk
  have hil : i < ks.length := (List.getElem?_eq_some_iff.1 hk).1
  have hic : i < cs.length := by rw [← h.len]; exact hil
  obtain ⟨g, cap, rfl, hb, hg, -, -⟩ := krow_cell h.row hk
  obtain ⟨tg, tcap, rfl, -, -, -⟩ := row_cell h.tbl.row hic
  obtain ⟨came, ended, cause, queued, left, free, frames, pictures, gone⟩ := k
  simp only at hq h0 ⊢
  have hc0 : (cause == 0) = false := by simpa using h0
  have hx := IntWalk.i64_in (i : Int) (by omega)
  have hE : Hid (∀ w', Keeps [] w w' → _) := Lib.hid fun w' (hk : Keeps [] w w') => rt_end hic (H.out.on hk).tbl h00 cause h0
  have hap := h.apart (g := tg) rfl
  have hgt : g ≠ tg := fun e => hap (by subst e; rfl)
  clear h hk hap
  go_enter Tryz.func32, Tryz.ntmps32
  go_wp2_with (go_at_call 52; refine (hC.out).mono ?_; rintro e w1 ⟨rfl, hk⟩; (have h1 := H.out.on hk); obtain ⟨q0, q1, q2, q3, q4, q5, q6⟩ := cells7 h1.blk; obtain ⟨g', cap', e, -, -, hcell, hfz⟩ := krow_cell h1.row hk0.out; simp only [Value.slice.injEq, Option.some.injEq, Addr.mk.injEq, and_true, true_and] at e; obtain ⟨rfl, rfl⟩ := e; (have r2 := hcell 2 _ rfl); (have r3 : w1.cell? ⟨g, i * 9 + 2 + 1, none⟩ = _ := hcell 3 _ rfl); have h1 := Lib.hid h1; have hcell := Lib.hid hcell)
  go_region_with (go_at_call 55; refine (hE.out _ (by repeat (first | exact Keeps.refl _ _ | assumption | refine Keeps.drew ?_ | refine Keeps.drewN ?_ _ | refine Keeps.alloc ?_ _ | refine Keeps.setCell ?_ (by simp <;> omega) _ | refine Keeps.trans ?_ (by assumption)))).mono ?_; rintro e w2 ⟨rfl, hk2, hT⟩; have hT := Lib.hid hT)
  all_goals
    have r2' : w2.cell? ⟨g, i * 9 + 2, none⟩ = some (.int .i64 cause) := hk2.cell (a := ⟨g, i * 9 + 2, none⟩) (show w1.drew.cell? _ = _ from r2) (by simp; exact hgt)
    have hk2' : Keeps [tg] w1 w2 := ⟨hk2.os, hk2.tape, hk2.output, hk2.size, hk2.block⟩
    have hO := Lib.hid (h1.out.over rfl hk2' hT.out (by simp))
    go_wp2
    go_ret
    exact ⟨rfl, (hk.mono (by simp)).trans (hk2'.mono (by simp [Value.ownBlock])), hO.out⟩

end Go.Proofs.YthjghcfnopancaaGreat

/-
  Status of the reference's model, and of the program's.
-/
namespace Go.Proofs.YthjghcfnopancaaGreat
open Go.RowKit Go.Shelf Go.Maps

/-- What the reference knows of a number. -/
def rstat (cs : List Int) (ks : List Kn) (id : Int) : St × Int :=
  if (rcause cs id).2 ≠ 0 then (St.zero, (rcause cs id).2) else
  if (rcause cs id).1 ≠ 0 then ({ St.zero with cause := (rcause cs id).1 }, 0) else
  match ks[(id - 1).toNat]? with
  | some k => (k.s, 0)
  | none => (St.zero, 18)

set_option maxRecDepth 100000 in
set_option maxHeartbeats 1000000 in
theorem rm_status_dead {w : World} {base m t : Nat} {tv lv : Value} {c : Cf} {cs : List Int} {ks : List Kn} (h : RMAt w base m t tv lv c cs ks) (id : Int) (hr : (rcause cs id).2 ≠ 0 ∨ (rcause cs id).1 ≠ 0) :
    Calls Tryz.prog 9 #[.pointer (some ⟨m, 0, none⟩), .int .i64 id] w fun e w' => e = .returned (.tuple #[(rstat cs ks id).1.val, .int .i64 (rstat cs ks id).2]) ∧ Keeps [] w w' := by
  have hC : Hid (∀ w', Keeps [] w w' → _) := Lib.hid fun w' (hk : Keeps [] w w') => rt_cause (h.on hk).tbl id
  have H := Lib.hid h
  have hml := ltOf h.blk
  obtain ⟨q0, q1, q2, q3, q4, q5, q6⟩ := cells7 h.blk
  unfold rstat
  generalize rcause cs id = q at hC hr ⊢
  obtain ⟨a, b⟩ := q
  simp only at hC hr ⊢
  clear h
  by_cases hb : b = 0
  · subst hb
    have ha : a ≠ 0 := by rcases hr with h | h; exact absurd rfl h; exact h
    have ha' : (a == 0) = false := by simpa using ha
    rw [if_neg (by simp), if_pos ha]
    go_enter Tryz.func9, Tryz.ntmps9
    go_wp2_with (go_at_call 41; refine (hC.out _ (by repeat (first | exact Keeps.refl _ _ | assumption | refine Keeps.drew ?_ | refine Keeps.drewN ?_ _ | refine Keeps.alloc ?_ _ | refine Keeps.setCell ?_ (by simp <;> omega) _ | refine Keeps.trans ?_ (by assumption)))).mono ?_; rintro e w1 ⟨rfl, hk⟩; obtain ⟨b0, hk⟩ := hk.new1 (by simp); obtain ⟨r0, r1, r2, r3, r4, r5, r6⟩ := cells7 b0; (have fr := frees b0); (have hlr := ltOf b0); have b0 := Lib.hid b0)
    exact bodyPost_ret (res_ct rfl agg_status rfl rfl rfl (stored7 b0.out)) rfl ⟨rfl, hk.store7 (fun h => by omega)⟩
  · have hb' : (b == 0) = false := by simpa using hb
    rw [if_pos hb]
    go_enter Tryz.func9, Tryz.ntmps9
    go_wp2_with (go_at_call 41; refine (hC.out _ (by repeat (first | exact Keeps.refl _ _ | assumption | refine Keeps.drew ?_ | refine Keeps.drewN ?_ _ | refine Keeps.alloc ?_ _ | refine Keeps.setCell ?_ (by simp <;> omega) _ | refine Keeps.trans ?_ (by assumption)))).mono ?_; rintro e w1 ⟨rfl, hk⟩; obtain ⟨b0, hk⟩ := hk.new1 (by simp); obtain ⟨r0, r1, r2, r3, r4, r5, r6⟩ := cells7 b0; (have fr := frees b0); (have hlr := ltOf b0); have b0 := Lib.hid b0)
    exact bodyPost_ret (res_ct rfl agg_status rfl rfl rfl (stored7 b0.out)) rfl ⟨rfl, hk.store7 (fun h => by omega)⟩

set_option maxRecDepth 100000 in
set_option maxHeartbeats 1000000 in
theorem rm_status {w : World} {base m t : Nat} {tv lv : Value} {c : Cf} {cs : List Int} {ks : List Kn} (h : RMAt w base m t tv lv c cs ks) {i : Nat} {k : Kn} (hk : ks[i]? = some k) (hr : rcause cs ((i : Int) + 1) = (0, 0)) (hi : i < 1000) :
    Calls Tryz.prog 9 #[.pointer (some ⟨m, 0, none⟩), .int .i64 ((i : Int) + 1)] w fun e w' => e = .returned (.tuple #[k.s.val, .int .i64 0]) ∧ Keeps [] w w' := by
  have hC : Hid (∀ w', Keeps [] w w' → _) := Lib.hid fun w' (hk : Keeps [] w w') => rt_cause (h.on hk).tbl ((i : Int) + 1)
  rw [hr] at hC
  have H := Lib.hid h
  have hml := ltOf h.blk
  obtain ⟨q0, q1, q2, q3, q4, q5, q6⟩ := cells7 h.blk
  have hk0 := Lib.hid hk
  have hil : i < ks.length := (List.getElem?_eq_some_iff.1 hk).1
  obtain ⟨g, cap, rfl, hb, hg, -, -⟩ := krow_cell h.row hk
  obtain ⟨came, ended, cause, queued, left, free, frames, pictures, gone⟩ := k
  have hx := IntWalk.i64_in (i : Int) (by omega)
  clear h hk
  go_enter Tryz.func9, Tryz.ntmps9
  go_wp2_with (go_at_call 41; refine (hC.out _ (by repeat (first | exact Keeps.refl _ _ | assumption | refine Keeps.drew ?_ | refine Keeps.drewN ?_ _ | refine Keeps.alloc ?_ _ | refine Keeps.setCell ?_ (by simp <;> omega) _ | refine Keeps.trans ?_ (by assumption)))).mono ?_; rintro e w1 ⟨rfl, hk⟩; obtain ⟨b0, hk⟩ := hk.new1 (by simp); obtain ⟨r0, r1, r2, r3, r4, r5, r6⟩ := cells7 b0; (have fr := frees b0); (have hlr := ltOf b0); have b0 := Lib.hid b0; (have h1 := H.out.on hk); obtain ⟨p0, p1, p2, p3, p4, p5, p6⟩ := cells7 h1.blk; obtain ⟨g', cap', e, -, -, hcell, hfz⟩ := krow_cell h1.row hk0.out; simp only [Value.slice.injEq, Option.some.injEq, Addr.mk.injEq, and_true, true_and] at e; obtain ⟨rfl, rfl⟩ := e; (have s2 := hcell 2 _ rfl); (have s3 : w1.cell? ⟨g, i * 9 + 2 + 1, none⟩ = _ := hcell 3 _ rfl); (have s4 : w1.cell? ⟨g, i * 9 + 2 + 2, none⟩ = _ := hcell 4 _ rfl); (have s5 : w1.cell? ⟨g, i * 9 + 2 + 3, none⟩ = _ := hcell 5 _ rfl); (have s6 : w1.cell? ⟨g, i * 9 + 2 + 4, none⟩ = _ := hcell 6 _ rfl); (have s7 : w1.cell? ⟨g, i * 9 + 2 + 5, none⟩ = _ := hcell 7 _ rfl); (have s8 : w1.cell? ⟨g, i * 9 + 2 + 6, none⟩ = _ := hcell 8 _ rfl); have h1 := Lib.hid h1; have hcell := Lib.hid hcell)
  exact bodyPost_ret (res_ct rfl agg_status rfl rfl rfl (stored7 b0.out)) rfl ⟨rfl, hk.store7 (fun h => by omega)⟩

end Go.Proofs.YthjghcfnopancaaGreat
