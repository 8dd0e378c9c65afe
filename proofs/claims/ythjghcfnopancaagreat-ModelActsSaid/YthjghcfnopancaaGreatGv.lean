/-
  See of the reference's model.
-/
import Derived.Test.YthjghcfnopancaaGreatGk
import Derived.Test.YthjghcfnopancaaGreatGf
namespace Go.Proofs.YthjghcfnopancaaGreat
open Go.RowKit Go.Shelf Go.Maps

theorem rwithin_q (n lo hi : Int) (w : World) :
    Calls Tryz.prog 18 #[.int .i64 n, .int .i64 lo, .int .i64 hi] w fun e w' => e = .returned (.bool (decide (lo ≤ n ∧ n ≤ hi))) ∧ w' = w :=
  (rwithin n lo hi w).mono fun _ _ h => ⟨h.1, h.2.symm⟩

set_option maxHeartbeats 400000 in
theorem rm_see_refused {w : World} {base m t : Nat} {tv lv : Value} {c : Cf} {cs : List Int} {ks : List Kn} (h : RMAt w base m t tv lv c cs ks) (id : Int) (s : St) (hr : rrefuse cs id ≠ 0) :
    Calls Tryz.prog 31 #[.pointer (some ⟨m, 0, none⟩), .int .i64 id, s.val] w fun e w' => e = .returned (.int .i64 (rrefuse cs id)) ∧ Keeps [] w w' := by
  have hC : Hid (∀ w', Keeps [] w w' → _) := Lib.hid fun w' (hk : Keeps [] w w') => rm_refuses (h.on hk) id
  have hr' : (rrefuse cs id == 0) = false := by simpa using hr
  obtain ⟨s0, s1, s2, s3, s4, s5, s6⟩ := s
  clear h
  go_enter Tryz.func31, Tryz.ntmps31
  go_wp2_with (go_at_call 52; refine (hC.out _ (by repeat (first | exact Keeps.refl _ _ | assumption | refine Keeps.drew ?_ | refine Keeps.drewN ?_ _ | refine Keeps.alloc ?_ _ | refine Keeps.setCell ?_ (by simp <;> omega) _ | refine Keeps.trans ?_ (by assumption)))).mono ?_; rintro e w1 ⟨rfl, hk⟩; obtain ⟨b0, hk⟩ := hk.new1 (by simp); have b0 := Lib.hid b0)
  go_ret
  exact ⟨rfl, hk⟩

set_option maxRecDepth 100000 in
set_option maxHeartbeats 2000000 in
theorem rm_see_b {w : World} {base m t : Nat} {tv lv : Value} {c : Cf} {cs : List Int} {ks : List Kn} (h : RMAt w base m t tv lv c cs ks) {i : Nat} {k : Kn} (hk : ks[i]? = some k) (s : St) (hr : rrefuse cs ((i : Int) + 1) = 0) (hi : i < 1000)
    (dB : decide (k.s.gone ≤ s.gone ∧ s.gone ≤ wrap64 (8 * k.came)) = false) :
    Calls Tryz.prog 31 #[.pointer (some ⟨m, 0, none⟩), .int .i64 ((i : Int) + 1), s.val] w fun e w' => e = .returned (.int .i64 2) ∧ Keeps [] w w' := by
  have hC : Hid (∀ w', Keeps [] w w' → _) := Lib.hid fun w' (hk : Keeps [] w w') => rm_refuses (h.on hk) ((i : Int) + 1)
  rw [hr] at hC
  have H := Lib.hid h
  have hk0 := Lib.hid hk
  have hil : i < ks.length := (List.getElem?_eq_some_iff.1 hk).1
  obtain ⟨g, cap, rfl, hb, hg, -, -⟩ := krow_cell h.row hk
  obtain ⟨came, ended, cause, queued, left, free, frames, pictures, gone⟩ := k
  obtain ⟨s0, s1, s2, s3, s4, s5, s6⟩ := s
  simp only at *
  have hx := IntWalk.i64_in (i : Int) (by omega)
  clear h hk
  go_enter Tryz.func31, Tryz.ntmps31
  go_wp2_with (go_at_call 52; refine (hC.out _ (by repeat (first | exact Keeps.refl _ _ | assumption | refine Keeps.drew ?_ | refine Keeps.drewN ?_ _ | refine Keeps.alloc ?_ _ | refine Keeps.setCell ?_ (by simp <;> omega) _ | refine Keeps.trans ?_ (by assumption)))).mono ?_; rintro e w1 ⟨rfl, hk⟩; obtain ⟨b0, hk⟩ := hk.new1 (by simp); obtain ⟨r0, r1, r2, r3, r4, r5, r6⟩ := cells7 b0; (have hlr := ltOf b0); have b0 := Lib.hid b0; (have h1 := H.out.on hk); obtain ⟨p0, p1, p2, p3, p4, p5, p6⟩ := cells7 h1.blk; (have hml := ltOf h1.blk); obtain ⟨g', cap', e, -, hg1, hcell, hfz⟩ := krow_cell h1.row hk0.out; simp only [Value.slice.injEq, Option.some.injEq, Addr.mk.injEq, and_true, true_and] at e; obtain ⟨rfl, rfl⟩ := e; (have c0 : w1.cell? ⟨g, i * 9, none⟩ = _ := hcell 0 _ rfl); (have c1 := hcell 1 _ rfl); (have s2 := hcell 2 _ rfl); (have s3 := hcell 3 _ rfl); (have s4 := hcell 4 _ rfl); (have s5 := hcell 5 _ rfl); (have s6 := hcell 6 _ rfl); (have s7 := hcell 7 _ rfl); (have s8 := hcell 8 _ rfl); have h1 := Lib.hid h1; have hcell := Lib.hid hcell)
  go_quiet ((go_at_call 18; exact Calls.quiet_of_same (rwithin_q _ _ _ _)))
  go_wp2
  go_ret
  exact ⟨rfl, ((hk.alloc _).alloc _).drewN _⟩

set_option maxRecDepth 100000 in
set_option maxHeartbeats 2000000 in
theorem rm_see_c {w : World} {base m t : Nat} {tv lv : Value} {c : Cf} {cs : List Int} {ks : List Kn} (h : RMAt w base m t tv lv c cs ks) {i : Nat} {k : Kn} (hk : ks[i]? = some k) (s : St) (hr : rrefuse cs ((i : Int) + 1) = 0) (hi : i < 1000)
    (dB : decide (k.s.gone ≤ s.gone ∧ s.gone ≤ wrap64 (8 * k.came)) = true) (dC : decide (0 ≤ s.queued ∧ s.queued ≤ c.slots) = false) :
    Calls Tryz.prog 31 #[.pointer (some ⟨m, 0, none⟩), .int .i64 ((i : Int) + 1), s.val] w fun e w' => e = .returned (.int .i64 2) ∧ Keeps [] w w' := by
  have hC : Hid (∀ w', Keeps [] w w' → _) := Lib.hid fun w' (hk : Keeps [] w w') => rm_refuses (h.on hk) ((i : Int) + 1)
  rw [hr] at hC
  have H := Lib.hid h
  have hk0 := Lib.hid hk
  have hil : i < ks.length := (List.getElem?_eq_some_iff.1 hk).1
  obtain ⟨g, cap, rfl, hb, hg, -, -⟩ := krow_cell h.row hk
  obtain ⟨came, ended, cause, queued, left, free, frames, pictures, gone⟩ := k
  obtain ⟨s0, s1, s2, s3, s4, s5, s6⟩ := s
  simp only at *
  have hx := IntWalk.i64_in (i : Int) (by omega)
  clear h hk
  go_enter Tryz.func31, Tryz.ntmps31
  go_wp2_with (go_at_call 52; refine (hC.out _ (by repeat (first | exact Keeps.refl _ _ | assumption | refine Keeps.drew ?_ | refine Keeps.drewN ?_ _ | refine Keeps.alloc ?_ _ | refine Keeps.setCell ?_ (by simp <;> omega) _ | refine Keeps.trans ?_ (by assumption)))).mono ?_; rintro e w1 ⟨rfl, hk⟩; obtain ⟨b0, hk⟩ := hk.new1 (by simp); obtain ⟨r0, r1, r2, r3, r4, r5, r6⟩ := cells7 b0; (have hlr := ltOf b0); have b0 := Lib.hid b0; (have h1 := H.out.on hk); obtain ⟨p0, p1, p2, p3, p4, p5, p6⟩ := cells7 h1.blk; (have hml := ltOf h1.blk); obtain ⟨g', cap', e, -, hg1, hcell, hfz⟩ := krow_cell h1.row hk0.out; simp only [Value.slice.injEq, Option.some.injEq, Addr.mk.injEq, and_true, true_and] at e; obtain ⟨rfl, rfl⟩ := e; (have c0 : w1.cell? ⟨g, i * 9, none⟩ = _ := hcell 0 _ rfl); (have c1 := hcell 1 _ rfl); (have s2 := hcell 2 _ rfl); (have s3 := hcell 3 _ rfl); (have s4 := hcell 4 _ rfl); (have s5 := hcell 5 _ rfl); (have s6 := hcell 6 _ rfl); (have s7 := hcell 7 _ rfl); (have s8 := hcell 8 _ rfl); have h1 := Lib.hid h1; have hcell := Lib.hid hcell)
  go_quiet ((go_at_call 18; exact Calls.quiet_of_same (rwithin_q _ _ _ _)))
  go_wp2
  go_ret
  exact ⟨rfl, ((hk.alloc _).alloc _).drewN _⟩

set_option maxRecDepth 100000 in
set_option maxHeartbeats 2000000 in
theorem rm_see_d {w : World} {base m t : Nat} {tv lv : Value} {c : Cf} {cs : List Int} {ks : List Kn} (h : RMAt w base m t tv lv c cs ks) {i : Nat} {k : Kn} (hk : ks[i]? = some k) (s : St) (hr : rrefuse cs ((i : Int) + 1) = 0) (hi : i < 1000)
    (dB : decide (k.s.gone ≤ s.gone ∧ s.gone ≤ wrap64 (8 * k.came)) = true) (dC : decide (0 ≤ s.queued ∧ s.queued ≤ c.slots) = true) (dD : decide (0 ≤ s.frames ∧ s.frames ≤ c.quota) = false) :
    Calls Tryz.prog 31 #[.pointer (some ⟨m, 0, none⟩), .int .i64 ((i : Int) + 1), s.val] w fun e w' => e = .returned (.int .i64 2) ∧ Keeps [] w w' := by
  have hC : Hid (∀ w', Keeps [] w w' → _) := Lib.hid fun w' (hk : Keeps [] w w') => rm_refuses (h.on hk) ((i : Int) + 1)
  rw [hr] at hC
  have H := Lib.hid h
  have hk0 := Lib.hid hk
  have hil : i < ks.length := (List.getElem?_eq_some_iff.1 hk).1
  obtain ⟨g, cap, rfl, hb, hg, -, -⟩ := krow_cell h.row hk
  obtain ⟨came, ended, cause, queued, left, free, frames, pictures, gone⟩ := k
  obtain ⟨s0, s1, s2, s3, s4, s5, s6⟩ := s
  simp only at *
  have hx := IntWalk.i64_in (i : Int) (by omega)
  clear h hk
  go_enter Tryz.func31, Tryz.ntmps31
  go_wp2_with (go_at_call 52; refine (hC.out _ (by repeat (first | exact Keeps.refl _ _ | assumption | refine Keeps.drew ?_ | refine Keeps.drewN ?_ _ | refine Keeps.alloc ?_ _ | refine Keeps.setCell ?_ (by simp <;> omega) _ | refine Keeps.trans ?_ (by assumption)))).mono ?_; rintro e w1 ⟨rfl, hk⟩; obtain ⟨b0, hk⟩ := hk.new1 (by simp); obtain ⟨r0, r1, r2, r3, r4, r5, r6⟩ := cells7 b0; (have hlr := ltOf b0); have b0 := Lib.hid b0; (have h1 := H.out.on hk); obtain ⟨p0, p1, p2, p3, p4, p5, p6⟩ := cells7 h1.blk; (have hml := ltOf h1.blk); obtain ⟨g', cap', e, -, hg1, hcell, hfz⟩ := krow_cell h1.row hk0.out; simp only [Value.slice.injEq, Option.some.injEq, Addr.mk.injEq, and_true, true_and] at e; obtain ⟨rfl, rfl⟩ := e; (have c0 : w1.cell? ⟨g, i * 9, none⟩ = _ := hcell 0 _ rfl); (have c1 := hcell 1 _ rfl); (have s2 := hcell 2 _ rfl); (have s3 := hcell 3 _ rfl); (have s4 := hcell 4 _ rfl); (have s5 := hcell 5 _ rfl); (have s6 := hcell 6 _ rfl); (have s7 := hcell 7 _ rfl); (have s8 := hcell 8 _ rfl); have h1 := Lib.hid h1; have hcell := Lib.hid hcell)
  go_quiet ((go_at_call 18; exact Calls.quiet_of_same (rwithin_q _ _ _ _)))
  go_wp2
  go_ret
  exact ⟨rfl, ((hk.alloc _).alloc _).drewN _⟩

set_option maxRecDepth 100000 in
set_option maxHeartbeats 2000000 in
theorem rm_see_e {w : World} {base m t : Nat} {tv lv : Value} {c : Cf} {cs : List Int} {ks : List Kn} (h : RMAt w base m t tv lv c cs ks) {i : Nat} {k : Kn} (hk : ks[i]? = some k) (s : St) (hr : rrefuse cs ((i : Int) + 1) = 0) (hi : i < 1000)
    (dB : decide (k.s.gone ≤ s.gone ∧ s.gone ≤ wrap64 (8 * k.came)) = true) (dC : decide (0 ≤ s.queued ∧ s.queued ≤ c.slots) = true) (dD : decide (0 ≤ s.frames ∧ s.frames ≤ c.quota) = true) (dE : decide (s.pictures < k.s.pictures) = true) :
    Calls Tryz.prog 31 #[.pointer (some ⟨m, 0, none⟩), .int .i64 ((i : Int) + 1), s.val] w fun e w' => e = .returned (.int .i64 2) ∧ Keeps [] w w' := by
  have hC : Hid (∀ w', Keeps [] w w' → _) := Lib.hid fun w' (hk : Keeps [] w w') => rm_refuses (h.on hk) ((i : Int) + 1)
  rw [hr] at hC
  have H := Lib.hid h
  have hk0 := Lib.hid hk
  have hil : i < ks.length := (List.getElem?_eq_some_iff.1 hk).1
  obtain ⟨g, cap, rfl, hb, hg, -, -⟩ := krow_cell h.row hk
  obtain ⟨came, ended, cause, queued, left, free, frames, pictures, gone⟩ := k
  obtain ⟨s0, s1, s2, s3, s4, s5, s6⟩ := s
  simp only at *
  have hx := IntWalk.i64_in (i : Int) (by omega)
  clear h hk
  go_enter Tryz.func31, Tryz.ntmps31
  go_wp2_with (go_at_call 52; refine (hC.out _ (by repeat (first | exact Keeps.refl _ _ | assumption | refine Keeps.drew ?_ | refine Keeps.drewN ?_ _ | refine Keeps.alloc ?_ _ | refine Keeps.setCell ?_ (by simp <;> omega) _ | refine Keeps.trans ?_ (by assumption)))).mono ?_; rintro e w1 ⟨rfl, hk⟩; obtain ⟨b0, hk⟩ := hk.new1 (by simp); obtain ⟨r0, r1, r2, r3, r4, r5, r6⟩ := cells7 b0; (have hlr := ltOf b0); have b0 := Lib.hid b0; (have h1 := H.out.on hk); obtain ⟨p0, p1, p2, p3, p4, p5, p6⟩ := cells7 h1.blk; (have hml := ltOf h1.blk); obtain ⟨g', cap', e, -, hg1, hcell, hfz⟩ := krow_cell h1.row hk0.out; simp only [Value.slice.injEq, Option.some.injEq, Addr.mk.injEq, and_true, true_and] at e; obtain ⟨rfl, rfl⟩ := e; (have c0 : w1.cell? ⟨g, i * 9, none⟩ = _ := hcell 0 _ rfl); (have c1 := hcell 1 _ rfl); (have s2 := hcell 2 _ rfl); (have s3 := hcell 3 _ rfl); (have s4 := hcell 4 _ rfl); (have s5 := hcell 5 _ rfl); (have s6 := hcell 6 _ rfl); (have s7 := hcell 7 _ rfl); (have s8 := hcell 8 _ rfl); have h1 := Lib.hid h1; have hcell := Lib.hid hcell)
  go_quiet ((go_at_call 18; exact Calls.quiet_of_same (rwithin_q _ _ _ _)))
  go_wp2
  go_ret
  exact ⟨rfl, ((hk.alloc _).alloc _).drewN _⟩

set_option maxRecDepth 100000 in
set_option maxHeartbeats 2000000 in
theorem rm_see_f {w : World} {base m t : Nat} {tv lv : Value} {c : Cf} {cs : List Int} {ks : List Kn} (h : RMAt w base m t tv lv c cs ks) {i : Nat} {k : Kn} (hk : ks[i]? = some k) (s : St) (hr : rrefuse cs ((i : Int) + 1) = 0) (hi : i < 1000)
    (dB : decide (k.s.gone ≤ s.gone ∧ s.gone ≤ wrap64 (8 * k.came)) = true) (dC : decide (0 ≤ s.queued ∧ s.queued ≤ c.slots) = true) (dD : decide (0 ≤ s.frames ∧ s.frames ≤ c.quota) = true) (dE : decide (s.pictures < k.s.pictures) = false) (dF : (k.s.cause != 0) = true) (dG : (s.cause != k.s.cause) = true) :
    Calls Tryz.prog 31 #[.pointer (some ⟨m, 0, none⟩), .int .i64 ((i : Int) + 1), s.val] w fun e w' => e = .returned (.int .i64 2) ∧ Keeps [] w w' := by
  have hC : Hid (∀ w', Keeps [] w w' → _) := Lib.hid fun w' (hk : Keeps [] w w') => rm_refuses (h.on hk) ((i : Int) + 1)
  rw [hr] at hC
  have H := Lib.hid h
  have hk0 := Lib.hid hk
  have hil : i < ks.length := (List.getElem?_eq_some_iff.1 hk).1
  obtain ⟨g, cap, rfl, hb, hg, -, -⟩ := krow_cell h.row hk
  obtain ⟨came, ended, cause, queued, left, free, frames, pictures, gone⟩ := k
  obtain ⟨s0, s1, s2, s3, s4, s5, s6⟩ := s
  simp only at *
  have hx := IntWalk.i64_in (i : Int) (by omega)
  clear h hk
  go_enter Tryz.func31, Tryz.ntmps31
  go_wp2_with (go_at_call 52; refine (hC.out _ (by repeat (first | exact Keeps.refl _ _ | assumption | refine Keeps.drew ?_ | refine Keeps.drewN ?_ _ | refine Keeps.alloc ?_ _ | refine Keeps.setCell ?_ (by simp <;> omega) _ | refine Keeps.trans ?_ (by assumption)))).mono ?_; rintro e w1 ⟨rfl, hk⟩; obtain ⟨b0, hk⟩ := hk.new1 (by simp); obtain ⟨r0, r1, r2, r3, r4, r5, r6⟩ := cells7 b0; (have hlr := ltOf b0); have b0 := Lib.hid b0; (have h1 := H.out.on hk); obtain ⟨p0, p1, p2, p3, p4, p5, p6⟩ := cells7 h1.blk; (have hml := ltOf h1.blk); obtain ⟨g', cap', e, -, hg1, hcell, hfz⟩ := krow_cell h1.row hk0.out; simp only [Value.slice.injEq, Option.some.injEq, Addr.mk.injEq, and_true, true_and] at e; obtain ⟨rfl, rfl⟩ := e; (have c0 : w1.cell? ⟨g, i * 9, none⟩ = _ := hcell 0 _ rfl); (have c1 := hcell 1 _ rfl); (have s2 := hcell 2 _ rfl); (have s3 := hcell 3 _ rfl); (have s4 := hcell 4 _ rfl); (have s5 := hcell 5 _ rfl); (have s6 := hcell 6 _ rfl); (have s7 := hcell 7 _ rfl); (have s8 := hcell 8 _ rfl); have h1 := Lib.hid h1; have hcell := Lib.hid hcell)
  go_quiet ((go_at_call 18; exact Calls.quiet_of_same (rwithin_q _ _ _ _)))
  go_wp2
  go_ret
  exact ⟨rfl, ((hk.alloc _).alloc _).drewN _⟩


end Go.Proofs.YthjghcfnopancaaGreat
