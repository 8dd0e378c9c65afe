/-
  See of the reference's model: what it takes.
-/
import Derived.Test.YthjghcfnopancaaGreatGv
namespace Go.Proofs.YthjghcfnopancaaGreat
open Go.RowKit Go.Shelf Go.Maps

theorem stored7at2 {w : World} {b : Nat} {T : TypeId} {z : Nat × Nat} {a0 a1 a2 a3 a4 a5 a6 a7 a8 v2 v3 v4 v5 v6 v7 v8 : Value} (h : w.heap[b]? = some (.cells #[a0, a1, a2, a3, a4, a5, a6, a7, a8] T z)) :
    (((((((w.setCell ⟨b, 2, none⟩ v2).setCell ⟨b, 3, none⟩ v3).setCell ⟨b, 4, none⟩ v4).setCell ⟨b, 5, none⟩ v5).setCell ⟨b, 6, none⟩ v6).setCell ⟨b, 7, none⟩ v7).setCell ⟨b, 8, none⟩ v8).heap[b]? = some (.cells #[a0, a1, v2, v3, v4, v5, v6, v7, v8] T z) := by
  have := (blk_setCell (blk_setCell (blk_setCell (blk_setCell (blk_setCell (blk_setCell (blk_setCell h 2 v2) 3 v3) 4 v4) 5 v5) 6 v6) 7 v7) 8 v8)
  simpa using this

theorem Keeps.store7at2 {l : List Nat} {w0 w : World} {b : Nat} {v2 v3 v4 v5 v6 v7 v8 : Value} (h : Keeps l w0 w) (hb : b < w0.heap.size → b ∈ l) : Keeps l w0 (((((((w.setCell ⟨b, 2, none⟩ v2).setCell ⟨b, 3, none⟩ v3).setCell ⟨b, 4, none⟩ v4).setCell ⟨b, 5, none⟩ v5).setCell ⟨b, 6, none⟩ v6).setCell ⟨b, 7, none⟩ v7).setCell ⟨b, 8, none⟩ v8) :=
  ((((((h.setCell hb _).setCell hb _).setCell hb _).setCell hb _).setCell hb _).setCell hb _).setCell hb _

/-- counts at a struct of the caller's own. -/
theorem rm_counts_blk {w : World} {m b : Nat} {room came a3 a4 a5 a6 a7 gone : Int} {en : Bool} {a2 : Int} {T : TypeId} (cm : w.cell? ⟨m, 3, none⟩ = some (.int .i64 room))
    (h : w.heap[b]? = some (.cells #[.int .i64 came, .bool en, .int .i64 a2, .int .i64 a3, .int .i64 a4, .int .i64 a5, .int .i64 a6, .int .i64 a7, .int .i64 gone] T (0, 0))) :
    Calls Tryz.prog 53 #[.pointer (some ⟨m, 0, none⟩), .pointer (some ⟨b, 0, none⟩)] w fun e w' => e = .returned (.tuple #[]) ∧ Keeps [b] w w' ∧
      w'.heap[b]? = some (.cells #[.int .i64 came, .bool en, .int .i64 a2, .int .i64 a3, .int .i64 (wrap64 (wrap64 (8 * came) - gone)), .int .i64 (wrap64 (wrap64 (room - came) + wrap64 (gone.tdiv 8))), .int .i64 a6, .int .i64 a7, .int .i64 gone] T (0, 0)) := by
  refine (rm_counts (o := 0) cm (cellOf h 0 rfl) (cellOf h 8 rfl) (cellOf h 4 rfl) (cellOf h 5 rfl) (frees h)).mono ?_
  rintro e w' ⟨he, d, rfl⟩
  refine ⟨he, (((Keeps.refl [b] w).setCell (by simp) _).setCell (by simp) _).drewN d, ?_⟩
  have := blk_setCell (blk_setCell h 4 (.int .i64 (wrap64 (wrap64 (8 * came) - gone)))) 5 (.int .i64 (wrap64 (wrap64 (room - came) + wrap64 (gone.tdiv 8))))
  simpa using this

set_option maxRecDepth 100000 in
set_option maxHeartbeats 2000000 in
theorem rm_see_na {w : World} {base m t : Nat} {tv lv : Value} {c : Cf} {cs : List Int} {ks : List Kn} (h : RMAt w base m t tv lv c cs ks) {i : Nat} {k : Kn} (hk : ks[i]? = some k) (s : St) (hr : rrefuse cs ((i : Int) + 1) = 0) (hi : i < 1000)
    (dB : decide (k.s.gone ≤ s.gone ∧ s.gone ≤ wrap64 (8 * k.came)) = true) (dC : decide (0 ≤ s.queued ∧ s.queued ≤ c.slots) = true) (dD : decide (0 ≤ s.frames ∧ s.frames ≤ c.quota) = true) (dE : decide (s.pictures < k.s.pictures) = false) (dF : (k.s.cause != 0) = false) (dA : decide ((({ k with s := s } : Kn).counts c.room).s = s) = false) :
    Calls Tryz.prog 31 #[.pointer (some ⟨m, 0, none⟩), .int .i64 ((i : Int) + 1), s.val] w fun e w' => e = .returned (.int .i64 2) ∧ Keeps [] w w' := by
  have hC : Hid (∀ w', Keeps [] w w' → _) := Lib.hid fun w' (hk : Keeps [] w w') => rm_refuses (h.on hk) ((i : Int) + 1)
  rw [hr] at hC
  have H := Lib.hid h
  have hk0 := Lib.hid hk
  have hil : i < ks.length := (List.getElem?_eq_some_iff.1 hk).1
  obtain ⟨g, cap, rfl, hb, hg, -, -⟩ := krow_cell h.row hk
  obtain ⟨came, ended, cause, queued, left, free, frames, pictures, gone⟩ := k
  obtain ⟨t0, t1, t2, t3, t4, t5, t6⟩ := s
  simp only at *
  have hx := IntWalk.i64_in (i : Int) (by omega)
  clear h hk
  go_enter Tryz.func31, Tryz.ntmps31
  go_wp2_with (go_at_call 52; refine (hC.out _ (by repeat (first | exact Keeps.refl _ _ | assumption | refine Keeps.drew ?_ | refine Keeps.drewN ?_ _ | refine Keeps.alloc ?_ _ | refine Keeps.setCell ?_ (by simp <;> omega) _ | refine Keeps.trans ?_ (by assumption)))).mono ?_; rintro e w1 ⟨rfl, hk⟩; obtain ⟨b0, hk⟩ := hk.new1 (by simp); obtain ⟨r0, r1, r2, r3, r4, r5, r6⟩ := cells7 b0; (have hlr := ltOf b0); have b0 := Lib.hid b0; (have h1 := H.out.on hk); obtain ⟨p0, p1, p2, p3, p4, p5, p6⟩ := cells7 h1.blk; (have hml := ltOf h1.blk); obtain ⟨g', cap', e, -, hg1, hcell, hfz⟩ := krow_cell h1.row hk0.out; simp only [Value.slice.injEq, Option.some.injEq, Addr.mk.injEq, and_true, true_and] at e; obtain ⟨rfl, rfl⟩ := e; (have c0 : w1.cell? ⟨g, i * 9, none⟩ = _ := hcell 0 _ rfl); (have c1 := hcell 1 _ rfl); (have s2 := hcell 2 _ rfl); (have s3 := hcell 3 _ rfl); (have s4 := hcell 4 _ rfl); (have s5 := hcell 5 _ rfl); (have s6 := hcell 6 _ rfl); (have s7 := hcell 7 _ rfl); (have s8 := hcell 8 _ rfl); have h1 := Lib.hid h1; have hcell := Lib.hid hcell)
  go_quiet ((go_at_call 18; exact Calls.quiet_of_same (rwithin_q _ _ _ _)))
  have hbk := fun n => stored7at2 (w := ((w1.alloc (.cells #[.int .i64 came, .bool ended, .int .i64 cause, .int .i64 queued, .int .i64 left, .int .i64 free, .int .i64 frames, .int .i64 pictures, .int .i64 gone] 74)).alloc (.cells #[.int .i64 cause, .int .i64 queued, .int .i64 left, .int .i64 free, .int .i64 frames, .int .i64 pictures, .int .i64 gone] 35)).drewN n) (v2 := .int .i64 t0) (v3 := .int .i64 t1) (v4 := .int .i64 t2) (v5 := .int .i64 t3) (v6 := .int .i64 t4) (v7 := .int .i64 t5) (v8 := .int .i64 t6) ((Below.heap_alloc _ _ _ (by simp)).trans (heap_new w1 _))
  have hkW := fun n => Keeps.store7at2 (b := w1.heap.size) (v2 := .int .i64 t0) (v3 := .int .i64 t1) (v4 := .int .i64 t2) (v5 := .int .i64 t3) (v6 := .int .i64 t4) (v7 := .int .i64 t5) (v8 := .int .i64 t6) (((((Keeps.refl [] w1).alloc (.cells #[.int .i64 came, .bool ended, .int .i64 cause, .int .i64 queued, .int .i64 left, .int .i64 free, .int .i64 frames, .int .i64 pictures, .int .i64 gone] 74)).alloc (.cells #[.int .i64 cause, .int .i64 queued, .int .i64 left, .int .i64 free, .int .i64 frames, .int .i64 pictures, .int .i64 gone] 35)).drewN n)) (fun h => by omega)
  have hbk := Lib.hid hbk
  have hkW := Lib.hid hkW
  have hA : ¬ (wrap64 (wrap64 (8 * came) - t6) = t2 ∧ wrap64 (wrap64 (c.room - came) + wrap64 (t6.tdiv 8)) = t3) := by
    intro h
    simp [Kn.counts, h.1, h.2] at dA
  have hA := Lib.hid hA
  clear dA
  have P3 := Lib.hid p3
  clear p0 p1 p2 p3 p4 p5 p6 c0 c1 s2 s3 s4 s5 s6 s7 s8
  go_wp2_with (go_at_call 53; refine (rm_counts_blk ((hkW.out _).cell P3.out (by simp)) (hbk.out _)).mono ?_; rintro e w2 ⟨rfl, hk2, hb2⟩; clear r0 r1 r2 r3 r4 r5 r6; (have hk3 : Keeps [] w1 w2 := (hkW.out _).trans' hk2 (by simp)); obtain ⟨y0, y1, y2, y3, y4, y5, y6, y7, y8⟩ := cells9 hb2; obtain ⟨r0, r1, r2, r3, r4, r5, r6⟩ := cells7 (hk3.blk b0.out (by simp)); have hb2 := Lib.hid hb2)
  all_goals first
    | (exfalso; refine hA.out ⟨?_, ?_⟩ <;> assumption)
    | (go_ret; exact ⟨rfl, hk.trans hk3⟩)

set_option maxRecDepth 100000 in
set_option maxHeartbeats 2000000 in
theorem rm_see_nb {w : World} {base m t : Nat} {tv lv : Value} {c : Cf} {cs : List Int} {ks : List Kn} (h : RMAt w base m t tv lv c cs ks) {i : Nat} {k : Kn} (hk : ks[i]? = some k) (s : St) (hr : rrefuse cs ((i : Int) + 1) = 0) (hi : i < 1000)
    (dB : decide (k.s.gone ≤ s.gone ∧ s.gone ≤ wrap64 (8 * k.came)) = true) (dC : decide (0 ≤ s.queued ∧ s.queued ≤ c.slots) = true) (dD : decide (0 ≤ s.frames ∧ s.frames ≤ c.quota) = true) (dE : decide (s.pictures < k.s.pictures) = false) (dF : (k.s.cause != 0) = true) (dG : (s.cause != k.s.cause) = false) (dA : decide ((({ k with s := s } : Kn).counts c.room).s = s) = false) :
    Calls Tryz.prog 31 #[.pointer (some ⟨m, 0, none⟩), .int .i64 ((i : Int) + 1), s.val] w fun e w' => e = .returned (.int .i64 2) ∧ Keeps [] w w' := by
  have hC : Hid (∀ w', Keeps [] w w' → _) := Lib.hid fun w' (hk : Keeps [] w w') => rm_refuses (h.on hk) ((i : Int) + 1)
  rw [hr] at hC
  have H := Lib.hid h
  have hk0 := Lib.hid hk
  have hil : i < ks.length := (List.getElem?_eq_some_iff.1 hk).1
  obtain ⟨g, cap, rfl, hb, hg, -, -⟩ := krow_cell h.row hk
  obtain ⟨came, ended, cause, queued, left, free, frames, pictures, gone⟩ := k
  obtain ⟨t0, t1, t2, t3, t4, t5, t6⟩ := s
  simp only at *
  have hx := IntWalk.i64_in (i : Int) (by omega)
  clear h hk
  go_enter Tryz.func31, Tryz.ntmps31
  go_wp2_with (go_at_call 52; refine (hC.out _ (by repeat (first | exact Keeps.refl _ _ | assumption | refine Keeps.drew ?_ | refine Keeps.drewN ?_ _ | refine Keeps.alloc ?_ _ | refine Keeps.setCell ?_ (by simp <;> omega) _ | refine Keeps.trans ?_ (by assumption)))).mono ?_; rintro e w1 ⟨rfl, hk⟩; obtain ⟨b0, hk⟩ := hk.new1 (by simp); obtain ⟨r0, r1, r2, r3, r4, r5, r6⟩ := cells7 b0; (have hlr := ltOf b0); have b0 := Lib.hid b0; (have h1 := H.out.on hk); obtain ⟨p0, p1, p2, p3, p4, p5, p6⟩ := cells7 h1.blk; (have hml := ltOf h1.blk); obtain ⟨g', cap', e, -, hg1, hcell, hfz⟩ := krow_cell h1.row hk0.out; simp only [Value.slice.injEq, Option.some.injEq, Addr.mk.injEq, and_true, true_and] at e; obtain ⟨rfl, rfl⟩ := e; (have c0 : w1.cell? ⟨g, i * 9, none⟩ = _ := hcell 0 _ rfl); (have c1 := hcell 1 _ rfl); (have s2 := hcell 2 _ rfl); (have s3 := hcell 3 _ rfl); (have s4 := hcell 4 _ rfl); (have s5 := hcell 5 _ rfl); (have s6 := hcell 6 _ rfl); (have s7 := hcell 7 _ rfl); (have s8 := hcell 8 _ rfl); have h1 := Lib.hid h1; have hcell := Lib.hid hcell)
  go_quiet ((go_at_call 18; exact Calls.quiet_of_same (rwithin_q _ _ _ _)))
  have hbk := fun n => stored7at2 (w := ((w1.alloc (.cells #[.int .i64 came, .bool ended, .int .i64 cause, .int .i64 queued, .int .i64 left, .int .i64 free, .int .i64 frames, .int .i64 pictures, .int .i64 gone] 74)).alloc (.cells #[.int .i64 cause, .int .i64 queued, .int .i64 left, .int .i64 free, .int .i64 frames, .int .i64 pictures, .int .i64 gone] 35)).drewN n) (v2 := .int .i64 t0) (v3 := .int .i64 t1) (v4 := .int .i64 t2) (v5 := .int .i64 t3) (v6 := .int .i64 t4) (v7 := .int .i64 t5) (v8 := .int .i64 t6) ((Below.heap_alloc _ _ _ (by simp)).trans (heap_new w1 _))
  have hkW := fun n => Keeps.store7at2 (b := w1.heap.size) (v2 := .int .i64 t0) (v3 := .int .i64 t1) (v4 := .int .i64 t2) (v5 := .int .i64 t3) (v6 := .int .i64 t4) (v7 := .int .i64 t5) (v8 := .int .i64 t6) (((((Keeps.refl [] w1).alloc (.cells #[.int .i64 came, .bool ended, .int .i64 cause, .int .i64 queued, .int .i64 left, .int .i64 free, .int .i64 frames, .int .i64 pictures, .int .i64 gone] 74)).alloc (.cells #[.int .i64 cause, .int .i64 queued, .int .i64 left, .int .i64 free, .int .i64 frames, .int .i64 pictures, .int .i64 gone] 35)).drewN n)) (fun h => by omega)
  have hbk := Lib.hid hbk
  have hkW := Lib.hid hkW
  have hA : ¬ (wrap64 (wrap64 (8 * came) - t6) = t2 ∧ wrap64 (wrap64 (c.room - came) + wrap64 (t6.tdiv 8)) = t3) := by
    intro h
    simp [Kn.counts, h.1, h.2] at dA
  have hA := Lib.hid hA
  clear dA
  have P3 := Lib.hid p3
  clear p0 p1 p2 p3 p4 p5 p6 c0 c1 s2 s3 s4 s5 s6 s7 s8
  go_wp2_with (go_at_call 53; refine (rm_counts_blk ((hkW.out _).cell P3.out (by simp)) (hbk.out _)).mono ?_; rintro e w2 ⟨rfl, hk2, hb2⟩; clear r0 r1 r2 r3 r4 r5 r6; (have hk3 : Keeps [] w1 w2 := (hkW.out _).trans' hk2 (by simp)); obtain ⟨y0, y1, y2, y3, y4, y5, y6, y7, y8⟩ := cells9 hb2; obtain ⟨r0, r1, r2, r3, r4, r5, r6⟩ := cells7 (hk3.blk b0.out (by simp)); have hb2 := Lib.hid hb2)
  all_goals first
    | (exfalso; refine hA.out ⟨?_, ?_⟩ <;> assumption)
    | (go_ret; exact ⟨rfl, hk.trans hk3⟩)


end Go.Proofs.YthjghcfnopancaaGreat

/-
  See of the reference's model: what it takes, and keeps.
-/
namespace Go.Proofs.YthjghcfnopancaaGreat
open Go.RowKit Go.Shelf Go.Maps

theorem RMAt.put9 {w : World} {base m t g cap : Nat} {tv : Value} {c : Cf} {cs : List Int} {ks : List Kn} (h : RMAt w base m t tv (.slice (some ⟨g, 0, none⟩) ks.length cap) c cs ks) {i : Nat} {k : Kn} (hk : ks[i]? = some k) (K : Kn) :
    RMAt (((((((((w.setCell ⟨g, i * 9, none⟩ (.int .i64 K.came)).setCell ⟨g, i * 9 + 1, none⟩ (.bool K.ended)).setCell ⟨g, i * 9 + 2, none⟩ (.int .i64 K.s.cause)).setCell ⟨g, i * 9 + 3, none⟩ (.int .i64 K.s.queued)).setCell ⟨g, i * 9 + 4, none⟩ (.int .i64 K.s.left)).setCell ⟨g, i * 9 + 5, none⟩ (.int .i64 K.s.free)).setCell ⟨g, i * 9 + 6, none⟩ (.int .i64 K.s.frames)).setCell ⟨g, i * 9 + 7, none⟩ (.int .i64 K.s.pictures)).setCell ⟨g, i * 9 + 8, none⟩ (.int .i64 K.s.gone))
      base m t tv (.slice (some ⟨g, 0, none⟩) ks.length cap) c cs (ks.set i K) := by
  have hil : i < ks.length := (List.getElem?_eq_some_iff.1 hk).1
  obtain ⟨b0, b1, ⟨b2, b3, b4, b5, b6, b7, b8⟩⟩ := K
  obtain ⟨a0, a1, ⟨a2, a3, a4, a5, a6, a7, a8⟩⟩ := k
  have q0 := h.put (K := ⟨b0, a1, ⟨a2, a3, a4, a5, a6, a7, a8⟩⟩) hk (j := 0) (v := .int .i64 b0) (by omega) rfl
  have q1 := q0.put (i := i) (k := ⟨b0, a1, ⟨a2, a3, a4, a5, a6, a7, a8⟩⟩) (K := ⟨b0, b1, ⟨a2, a3, a4, a5, a6, a7, a8⟩⟩) (by simp [hil]) (j := 1) (v := .bool b1) (by omega) rfl
  have q2 := q1.put (i := i) (k := ⟨b0, b1, ⟨a2, a3, a4, a5, a6, a7, a8⟩⟩) (K := ⟨b0, b1, ⟨b2, a3, a4, a5, a6, a7, a8⟩⟩) (by simp [hil]) (j := 2) (v := .int .i64 b2) (by omega) rfl
  have q3 := q2.put (i := i) (k := ⟨b0, b1, ⟨b2, a3, a4, a5, a6, a7, a8⟩⟩) (K := ⟨b0, b1, ⟨b2, b3, a4, a5, a6, a7, a8⟩⟩) (by simp [hil]) (j := 3) (v := .int .i64 b3) (by omega) rfl
  have q4 := q3.put (i := i) (k := ⟨b0, b1, ⟨b2, b3, a4, a5, a6, a7, a8⟩⟩) (K := ⟨b0, b1, ⟨b2, b3, b4, a5, a6, a7, a8⟩⟩) (by simp [hil]) (j := 4) (v := .int .i64 b4) (by omega) rfl
  have q5 := q4.put (i := i) (k := ⟨b0, b1, ⟨b2, b3, b4, a5, a6, a7, a8⟩⟩) (K := ⟨b0, b1, ⟨b2, b3, b4, b5, a6, a7, a8⟩⟩) (by simp [hil]) (j := 5) (v := .int .i64 b5) (by omega) rfl
  have q6 := q5.put (i := i) (k := ⟨b0, b1, ⟨b2, b3, b4, b5, a6, a7, a8⟩⟩) (K := ⟨b0, b1, ⟨b2, b3, b4, b5, b6, a7, a8⟩⟩) (by simp [hil]) (j := 6) (v := .int .i64 b6) (by omega) rfl
  have q7 := q6.put (i := i) (k := ⟨b0, b1, ⟨b2, b3, b4, b5, b6, a7, a8⟩⟩) (K := ⟨b0, b1, ⟨b2, b3, b4, b5, b6, b7, a8⟩⟩) (by simp [hil]) (j := 7) (v := .int .i64 b7) (by omega) rfl
  have q8 := q7.put (i := i) (k := ⟨b0, b1, ⟨b2, b3, b4, b5, b6, b7, a8⟩⟩) (K := ⟨b0, b1, ⟨b2, b3, b4, b5, b6, b7, b8⟩⟩) (by simp [hil]) (j := 8) (v := .int .i64 b8) (by omega) rfl
  simpa using q8

set_option maxRecDepth 100000 in
set_option maxHeartbeats 2000000 in
theorem rm_see_ya {w : World} {base m t : Nat} {tv lv : Value} {c : Cf} {cs : List Int} {ks : List Kn} (h : RMAt w base m t tv lv c cs ks) {i : Nat} {k : Kn} (hk : ks[i]? = some k) (s : St) (hr : rrefuse cs ((i : Int) + 1) = 0) (hi : i < 1000)
    (dB : decide (k.s.gone ≤ s.gone ∧ s.gone ≤ wrap64 (8 * k.came)) = true) (dC : decide (0 ≤ s.queued ∧ s.queued ≤ c.slots) = true) (dD : decide (0 ≤ s.frames ∧ s.frames ≤ c.quota) = true) (dE : decide (s.pictures < k.s.pictures) = false) (dF : (k.s.cause != 0) = false) (dA : decide ((({ k with s := s } : Kn).counts c.room).s = s) = true) :
    Calls Tryz.prog 31 #[.pointer (some ⟨m, 0, none⟩), .int .i64 ((i : Int) + 1), s.val] w fun e w' => e = .returned (.int .i64 0) ∧ Keeps lv.ownBlock.toList w w' ∧ RMAt w' base m t tv lv c cs (ks.set i (({ k with s := s } : Kn).counts c.room)) := by
  have hC : Hid (∀ w', Keeps [] w w' → _) := Lib.hid fun w' (hk : Keeps [] w w') => rm_refuses (h.on hk) ((i : Int) + 1)
  rw [hr] at hC
  have H := Lib.hid h
  have hk0 := Lib.hid hk
  have hil : i < ks.length := (List.getElem?_eq_some_iff.1 hk).1
  obtain ⟨g, cap, rfl, hb, hg, -, -⟩ := krow_cell h.row hk
  obtain ⟨came, ended, cause, queued, left, free, frames, pictures, gone⟩ := k
  obtain ⟨t0, t1, t2, t3, t4, t5, t6⟩ := s
  simp only at *
  have hx := IntWalk.i64_in (i : Int) (by omega)
  clear h hk
  go_enter Tryz.func31, Tryz.ntmps31
  go_wp2_with (go_at_call 52; refine (hC.out _ (by repeat (first | exact Keeps.refl _ _ | assumption | refine Keeps.drew ?_ | refine Keeps.drewN ?_ _ | refine Keeps.alloc ?_ _ | refine Keeps.setCell ?_ (by simp <;> omega) _ | refine Keeps.trans ?_ (by assumption)))).mono ?_; rintro e w1 ⟨rfl, hk⟩; obtain ⟨b0, hk⟩ := hk.new1 (by simp); obtain ⟨r0, r1, r2, r3, r4, r5, r6⟩ := cells7 b0; (have hlr := ltOf b0); have b0 := Lib.hid b0; (have h1 := H.out.on hk); obtain ⟨p0, p1, p2, p3, p4, p5, p6⟩ := cells7 h1.blk; (have hml := ltOf h1.blk); obtain ⟨g', cap', e, -, hg1, hcell, hfz⟩ := krow_cell h1.row hk0.out; simp only [Value.slice.injEq, Option.some.injEq, Addr.mk.injEq, and_true, true_and] at e; obtain ⟨rfl, rfl⟩ := e; (have c0 : w1.cell? ⟨g, i * 9, none⟩ = _ := hcell 0 _ rfl); (have c1 := hcell 1 _ rfl); (have s2 := hcell 2 _ rfl); (have s3 := hcell 3 _ rfl); (have s4 := hcell 4 _ rfl); (have s5 := hcell 5 _ rfl); (have s6 := hcell 6 _ rfl); (have s7 := hcell 7 _ rfl); (have s8 := hcell 8 _ rfl); have h1 := Lib.hid h1; have hcell := Lib.hid hcell)
  go_quiet ((go_at_call 18; exact Calls.quiet_of_same (rwithin_q _ _ _ _)))
  have hbk := fun n => stored7at2 (w := ((w1.alloc (.cells #[.int .i64 came, .bool ended, .int .i64 cause, .int .i64 queued, .int .i64 left, .int .i64 free, .int .i64 frames, .int .i64 pictures, .int .i64 gone] 74)).alloc (.cells #[.int .i64 cause, .int .i64 queued, .int .i64 left, .int .i64 free, .int .i64 frames, .int .i64 pictures, .int .i64 gone] 35)).drewN n) (v2 := .int .i64 t0) (v3 := .int .i64 t1) (v4 := .int .i64 t2) (v5 := .int .i64 t3) (v6 := .int .i64 t4) (v7 := .int .i64 t5) (v8 := .int .i64 t6) ((Below.heap_alloc _ _ _ (by simp)).trans (heap_new w1 _))
  have hkW := fun n => Keeps.store7at2 (b := w1.heap.size) (v2 := .int .i64 t0) (v3 := .int .i64 t1) (v4 := .int .i64 t2) (v5 := .int .i64 t3) (v6 := .int .i64 t4) (v7 := .int .i64 t5) (v8 := .int .i64 t6) (((((Keeps.refl [] w1).alloc (.cells #[.int .i64 came, .bool ended, .int .i64 cause, .int .i64 queued, .int .i64 left, .int .i64 free, .int .i64 frames, .int .i64 pictures, .int .i64 gone] 74)).alloc (.cells #[.int .i64 cause, .int .i64 queued, .int .i64 left, .int .i64 free, .int .i64 frames, .int .i64 pictures, .int .i64 gone] 35)).drewN n)) (fun h => by omega)
  have hbk := Lib.hid hbk
  have hkW := Lib.hid hkW
  have hA : wrap64 (wrap64 (8 * came) - t6) = t2 ∧ wrap64 (wrap64 (c.room - came) + wrap64 (t6.tdiv 8)) = t3 := by
    simpa [Kn.counts] using dA
  have e1 := hA.1
  have e2 := hA.2
  clear dA hA
  have P3 := Lib.hid p3
  clear p0 p1 p2 p3 p4 p5 p6 c0 c1 s2 s3 s4 s5 s6 s7 s8
  go_wp2_with (go_at_call 53; refine (rm_counts_blk ((hkW.out _).cell P3.out (by simp)) (hbk.out _)).mono ?_; rintro e w2 ⟨rfl, hk2, hb2⟩; clear r0 r1 r2 r3 r4 r5 r6; (have hk3 : Keeps [] w1 w2 := (hkW.out _).trans' hk2 (by simp)); obtain ⟨y0, y1, y2, y3, y4, y5, y6, y7, y8⟩ := cells9 hb2; obtain ⟨r0, r1, r2, r3, r4, r5, r6⟩ := cells7 (hk3.blk b0.out (by simp)); (rw [e1, e2] at hb2); obtain ⟨y0, y1, y2, y3, y4, y5, y6, y7, y8⟩ := cells9 hb2; (have h2 := h1.out.on hk3); obtain ⟨p0, p1, p2, p3, p4, p5, p6⟩ := cells7 h2.blk; obtain ⟨g3, cap3, e3, -, -, hcell3, hfz3⟩ := krow_cell h2.row hk0.out; simp only [Value.slice.injEq, Option.some.injEq, Addr.mk.injEq, and_true, true_and] at e3; obtain ⟨rfl, rfl⟩ := e3; (have x0 : w2.cell? ⟨g, i * 9, none⟩ = _ := hcell3 0 _ rfl); (have x1 := hcell3 1 _ rfl); (have x2 := hcell3 2 _ rfl); (have x3 := hcell3 3 _ rfl); (have x4 := hcell3 4 _ rfl); (have x5 := hcell3 5 _ rfl); (have x6 := hcell3 6 _ rfl); (have x7 := hcell3 7 _ rfl); (have x8 := hcell3 8 _ rfl); have h2 := Lib.hid h2; have hcell3 := Lib.hid hcell3; have hb2 := Lib.hid hb2)
  refine wp_region_seg [8] (by kernel_rfl) (by kernel_rfl) ?_
  simp only [wpSeg, List.drop_zero, List.drop_succ_cons, List.take_succ_cons, List.take_zero, Nat.reduceSub, Nat.reduceAdd]
  change wpStill _ _ w2.drew _ _ _
  repeat still_step
  refine wpStill_nil ?_
  change wpList _ _ _ _ _ w2.drew
  go_wp2
  refine wpStill_nil ?_
  go_wp2
  go_ret
  have eK : ({ came := came, ended := ended, s := ⟨t0, t1, t2, t3, t4, t5, t6⟩ } : Kn).counts c.room = ⟨came, ended, ⟨t0, t1, t2, t3, t4, t5, t6⟩⟩ := by simp [Kn.counts, e1, e2]
  have hput := (h2.out.put9 hk0.out ⟨came, ended, ⟨t0, t1, t2, t3, t4, t5, t6⟩⟩).on ((Keeps.refl [] _).drew)
  rw [eK]
  have hg0 : g < w.heap.size → g ∈ (Value.slice (some ⟨g, 0, none⟩) ks.length cap).ownBlock.toList := fun _ => by simp [Value.ownBlock]
  exact ⟨rfl, (((((((((((hk.trans hk3).mono (by simp)).setCell hg0 _).setCell hg0 _).setCell hg0 _).setCell hg0 _).setCell hg0 _).setCell hg0 _).setCell hg0 _).setCell hg0 _).setCell hg0 _).drew, hput⟩

set_option maxRecDepth 100000 in
set_option maxHeartbeats 2000000 in
theorem rm_see_yb {w : World} {base m t : Nat} {tv lv : Value} {c : Cf} {cs : List Int} {ks : List Kn} (h : RMAt w base m t tv lv c cs ks) {i : Nat} {k : Kn} (hk : ks[i]? = some k) (s : St) (hr : rrefuse cs ((i : Int) + 1) = 0) (hi : i < 1000)
    (dB : decide (k.s.gone ≤ s.gone ∧ s.gone ≤ wrap64 (8 * k.came)) = true) (dC : decide (0 ≤ s.queued ∧ s.queued ≤ c.slots) = true) (dD : decide (0 ≤ s.frames ∧ s.frames ≤ c.quota) = true) (dE : decide (s.pictures < k.s.pictures) = false) (dF : (k.s.cause != 0) = true) (dG : (s.cause != k.s.cause) = false) (dA : decide ((({ k with s := s } : Kn).counts c.room).s = s) = true) :
    Calls Tryz.prog 31 #[.pointer (some ⟨m, 0, none⟩), .int .i64 ((i : Int) + 1), s.val] w fun e w' => e = .returned (.int .i64 0) ∧ Keeps lv.ownBlock.toList w w' ∧ RMAt w' base m t tv lv c cs (ks.set i (({ k with s := s } : Kn).counts c.room)) := by
  have hC : Hid (∀ w', Keeps [] w w' → _) := Lib.hid fun w' (hk : Keeps [] w w') => rm_refuses (h.on hk) ((i : Int) + 1)
  rw [hr] at hC
  have H := Lib.hid h
  have hk0 := Lib.hid hk
  have hil : i < ks.length := (List.getElem?_eq_some_iff.1 hk).1
  obtain ⟨g, cap, rfl, hb, hg, -, -⟩ := krow_cell h.row hk
  obtain ⟨came, ended, cause, queued, left, free, frames, pictures, gone⟩ := k
  obtain ⟨t0, t1, t2, t3, t4, t5, t6⟩ := s
  simp only at *
  have hx := IntWalk.i64_in (i : Int) (by omega)
  clear h hk
  go_enter Tryz.func31, Tryz.ntmps31
  go_wp2_with (go_at_call 52; refine (hC.out _ (by repeat (first | exact Keeps.refl _ _ | assumption | refine Keeps.drew ?_ | refine Keeps.drewN ?_ _ | refine Keeps.alloc ?_ _ | refine Keeps.setCell ?_ (by simp <;> omega) _ | refine Keeps.trans ?_ (by assumption)))).mono ?_; rintro e w1 ⟨rfl, hk⟩; obtain ⟨b0, hk⟩ := hk.new1 (by simp); obtain ⟨r0, r1, r2, r3, r4, r5, r6⟩ := cells7 b0; (have hlr := ltOf b0); have b0 := Lib.hid b0; (have h1 := H.out.on hk); obtain ⟨p0, p1, p2, p3, p4, p5, p6⟩ := cells7 h1.blk; (have hml := ltOf h1.blk); obtain ⟨g', cap', e, -, hg1, hcell, hfz⟩ := krow_cell h1.row hk0.out; simp only [Value.slice.injEq, Option.some.injEq, Addr.mk.injEq, and_true, true_and] at e; obtain ⟨rfl, rfl⟩ := e; (have c0 : w1.cell? ⟨g, i * 9, none⟩ = _ := hcell 0 _ rfl); (have c1 := hcell 1 _ rfl); (have s2 := hcell 2 _ rfl); (have s3 := hcell 3 _ rfl); (have s4 := hcell 4 _ rfl); (have s5 := hcell 5 _ rfl); (have s6 := hcell 6 _ rfl); (have s7 := hcell 7 _ rfl); (have s8 := hcell 8 _ rfl); have h1 := Lib.hid h1; have hcell := Lib.hid hcell)
  go_quiet ((go_at_call 18; exact Calls.quiet_of_same (rwithin_q _ _ _ _)))
  have hbk := fun n => stored7at2 (w := ((w1.alloc (.cells #[.int .i64 came, .bool ended, .int .i64 cause, .int .i64 queued, .int .i64 left, .int .i64 free, .int .i64 frames, .int .i64 pictures, .int .i64 gone] 74)).alloc (.cells #[.int .i64 cause, .int .i64 queued, .int .i64 left, .int .i64 free, .int .i64 frames, .int .i64 pictures, .int .i64 gone] 35)).drewN n) (v2 := .int .i64 t0) (v3 := .int .i64 t1) (v4 := .int .i64 t2) (v5 := .int .i64 t3) (v6 := .int .i64 t4) (v7 := .int .i64 t5) (v8 := .int .i64 t6) ((Below.heap_alloc _ _ _ (by simp)).trans (heap_new w1 _))
  have hkW := fun n => Keeps.store7at2 (b := w1.heap.size) (v2 := .int .i64 t0) (v3 := .int .i64 t1) (v4 := .int .i64 t2) (v5 := .int .i64 t3) (v6 := .int .i64 t4) (v7 := .int .i64 t5) (v8 := .int .i64 t6) (((((Keeps.refl [] w1).alloc (.cells #[.int .i64 came, .bool ended, .int .i64 cause, .int .i64 queued, .int .i64 left, .int .i64 free, .int .i64 frames, .int .i64 pictures, .int .i64 gone] 74)).alloc (.cells #[.int .i64 cause, .int .i64 queued, .int .i64 left, .int .i64 free, .int .i64 frames, .int .i64 pictures, .int .i64 gone] 35)).drewN n)) (fun h => by omega)
  have hbk := Lib.hid hbk
  have hkW := Lib.hid hkW
  have hA : wrap64 (wrap64 (8 * came) - t6) = t2 ∧ wrap64 (wrap64 (c.room - came) + wrap64 (t6.tdiv 8)) = t3 := by
    simpa [Kn.counts] using dA
  have e1 := hA.1
  have e2 := hA.2
  clear dA hA
  have P3 := Lib.hid p3
  clear p0 p1 p2 p3 p4 p5 p6 c0 c1 s2 s3 s4 s5 s6 s7 s8
  go_wp2_with (go_at_call 53; refine (rm_counts_blk ((hkW.out _).cell P3.out (by simp)) (hbk.out _)).mono ?_; rintro e w2 ⟨rfl, hk2, hb2⟩; clear r0 r1 r2 r3 r4 r5 r6; (have hk3 : Keeps [] w1 w2 := (hkW.out _).trans' hk2 (by simp)); obtain ⟨y0, y1, y2, y3, y4, y5, y6, y7, y8⟩ := cells9 hb2; obtain ⟨r0, r1, r2, r3, r4, r5, r6⟩ := cells7 (hk3.blk b0.out (by simp)); (rw [e1, e2] at hb2); obtain ⟨y0, y1, y2, y3, y4, y5, y6, y7, y8⟩ := cells9 hb2; (have h2 := h1.out.on hk3); obtain ⟨p0, p1, p2, p3, p4, p5, p6⟩ := cells7 h2.blk; obtain ⟨g3, cap3, e3, -, -, hcell3, hfz3⟩ := krow_cell h2.row hk0.out; simp only [Value.slice.injEq, Option.some.injEq, Addr.mk.injEq, and_true, true_and] at e3; obtain ⟨rfl, rfl⟩ := e3; (have x0 : w2.cell? ⟨g, i * 9, none⟩ = _ := hcell3 0 _ rfl); (have x1 := hcell3 1 _ rfl); (have x2 := hcell3 2 _ rfl); (have x3 := hcell3 3 _ rfl); (have x4 := hcell3 4 _ rfl); (have x5 := hcell3 5 _ rfl); (have x6 := hcell3 6 _ rfl); (have x7 := hcell3 7 _ rfl); (have x8 := hcell3 8 _ rfl); have h2 := Lib.hid h2; have hcell3 := Lib.hid hcell3; have hb2 := Lib.hid hb2)
  refine wp_region_seg [8] (by kernel_rfl) (by kernel_rfl) ?_
  simp only [wpSeg, List.drop_zero, List.drop_succ_cons, List.take_succ_cons, List.take_zero, Nat.reduceSub, Nat.reduceAdd]
  change wpStill _ _ w2.drew _ _ _
  repeat still_step
  refine wpStill_nil ?_
  change wpList _ _ _ _ _ w2.drew
  go_wp2
  refine wpStill_nil ?_
  go_wp2
  go_ret
  have eK : ({ came := came, ended := ended, s := ⟨t0, t1, t2, t3, t4, t5, t6⟩ } : Kn).counts c.room = ⟨came, ended, ⟨t0, t1, t2, t3, t4, t5, t6⟩⟩ := by simp [Kn.counts, e1, e2]
  have hput := (h2.out.put9 hk0.out ⟨came, ended, ⟨t0, t1, t2, t3, t4, t5, t6⟩⟩).on ((Keeps.refl [] _).drew)
  rw [eK]
  have hg0 : g < w.heap.size → g ∈ (Value.slice (some ⟨g, 0, none⟩) ks.length cap).ownBlock.toList := fun _ => by simp [Value.ownBlock]
  exact ⟨rfl, (((((((((((hk.trans hk3).mono (by simp)).setCell hg0 _).setCell hg0 _).setCell hg0 _).setCell hg0 _).setCell hg0 _).setCell hg0 _).setCell hg0 _).setCell hg0 _).setCell hg0 _).drew, hput⟩


end Go.Proofs.YthjghcfnopancaaGreat
