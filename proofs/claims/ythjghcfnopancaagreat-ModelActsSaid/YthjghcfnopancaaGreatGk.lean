/-
  Open of the reference's model.
-/
import Derived.Test.YthjghcfnopancaaGreatGj
import Derived.Deep.RegionWith
namespace Go.Proofs.YthjghcfnopancaaGreat
open Go.RowKit Go.Shelf Go.Maps

set_option maxRecDepth 100000 in
set_option maxHeartbeats 1000000 in
theorem rm_open_full {w : World} {base m t : Nat} {tv lv : Value} {c : Cf} {cs : List Int} {ks : List Kn} (h : RMAt w base m t tv lv c cs ks) (hq : 0 ≤ c.quota ∧ c.quota ≤ 64) (hf : c.frames < (((rlive cs cs.length).length : Int) + 1) * c.quota) :
    Calls Tryz.prog 26 #[.pointer (some ⟨m, 0, none⟩)] w fun e w' => e = .returned (.tuple #[.int .i64 0, .int .i64 15]) ∧ Keeps [] w w' := by
  have hL : Hid (∀ w', Keeps [] w w' → _) := Lib.hid fun w' (hk : Keeps [] w w') => rt_live (h.on hk).tbl
  have H := Lib.hid h
  obtain ⟨q0, q1, q2, q3, q4, q5, q6⟩ := cells7 h.blk
  have hle := rlive_le cs cs.length
  have hlim := h.tbl.lim
  obtain ⟨n, hn⟩ : ∃ n, (rlive cs cs.length).length = n := ⟨_, rfl⟩
  have hm1 : 0 ≤ ((n : Int) + 1) * c.quota := Int.mul_nonneg (by omega) hq.1
  have hm2 : ((n : Int) + 1) * c.quota ≤ 1001 * 64 := Int.mul_le_mul (by omega) hq.2 hq.1 (by omega)
  have hx : IntKind.i64.wrap (((n : Int) + 1) * c.quota) = ((n : Int) + 1) * c.quota := IntWalk.i64_in _ (by omega)
  have hx1 : IntKind.i64.wrap ((n : Int) + 1) = (n : Int) + 1 := IntWalk.i64_in _ (by omega)
  rw [hn] at hf
  have d : decide (c.frames < ((n : Int) + 1) * c.quota) = true := decide_eq_true hf
  clear h hf
  go_enter Tryz.func26, Tryz.ntmps26
  go_wp2
  go_region_with (go_at_call 12; refine (hL.out _ (by repeat (first | exact Keeps.refl _ _ | assumption | refine Keeps.drew ?_ | refine Keeps.drewN ?_ _ | refine Keeps.alloc ?_ _ | refine Keeps.setCell ?_ (by simp <;> omega) _ | refine Keeps.trans ?_ (by assumption)))).mono ?_; rintro e w1 ⟨u, rfl, hrow, hk⟩; obtain ⟨ua, uc, rfl⟩ := ownsRow_slice hrow; rw [hn]; obtain ⟨r0, r1, r2, r3, r4, r5, r6⟩ := cells7 (H.out.on (w' := w1) (by repeat (first | exact Keeps.refl _ _ | assumption | refine Keeps.drew ?_ | refine Keeps.drewN ?_ _ | refine Keeps.alloc ?_ _ | refine Keeps.setCell ?_ (by simp <;> omega) _ | refine Keeps.trans ?_ (by assumption)))).blk; clear hrow)
  all_goals go_wp2
  all_goals go_ret2
  all_goals exact ⟨rfl, (by repeat (first | exact Keeps.refl _ _ | assumption | refine Keeps.drew ?_ | refine Keeps.drewN ?_ _ | refine Keeps.alloc ?_ _ | refine Keeps.setCell ?_ (by simp <;> omega) _ | refine Keeps.trans ?_ (by assumption)))⟩

end Go.Proofs.YthjghcfnopancaaGreat

/-
  New of the reference's model.
-/
namespace Go.Proofs.YthjghcfnopancaaGreat
open Go.RowKit Go.Shelf Go.Maps

set_option maxHeartbeats 400000 in
theorem rwithin (n lo hi : Int) (w : World) :
    Calls Tryz.prog 18 #[.int .i64 n, .int .i64 lo, .int .i64 hi] w fun e w' => e = .returned (.bool (decide (lo ≤ n ∧ n ≤ hi))) ∧ w = w' := by
  by_cases h1 : lo ≤ n
  · go_enter Tryz.func18, Tryz.ntmps18
    go_wp2
    go_ret
    simp [h1]
  · go_enter Tryz.func18, Tryz.ntmps18
    go_wp2
    go_ret
    refine ⟨?_, rfl⟩
    congr 2
    simp; omega

set_option maxHeartbeats 400000 in
theorem rt_new (n : Int) (w : World) (h1 : 1 ≤ n) (h2 : n ≤ 64) :
    Calls Tryz.prog 19 #[.int .i64 n] w fun e w' => e = .returned (.tuple #[.pointer (some ⟨w.heap.size, 0, none⟩), .int .i64 0]) ∧ w' = w.alloc (.cells #[.int .i64 n, .slice none 0 0] 77) := by
  go_enter Tryz.func19, Tryz.ntmps19
  go_wp2
  go_ret2
  exact ⟨rfl, rfl⟩

theorem Cf.not_ok' {c : Cf} (h : ¬ c.ok) : ¬ (1 ≤ c.sessions ∧ c.sessions ≤ 64) ∨ ((1 ≤ c.sessions ∧ c.sessions ≤ 64) ∧ ¬ (1 ≤ c.frames ∧ c.frames ≤ 64)) ∨ ((1 ≤ c.sessions ∧ c.sessions ≤ 64) ∧ (1 ≤ c.frames ∧ c.frames ≤ 64) ∧ ¬ (2 ≤ c.quota ∧ c.quota ≤ c.frames)) ∨
    ((1 ≤ c.sessions ∧ c.sessions ≤ 64) ∧ (1 ≤ c.frames ∧ c.frames ≤ 64) ∧ (2 ≤ c.quota ∧ c.quota ≤ c.frames) ∧ ¬ (1024 ≤ c.room ∧ c.room ≤ 1048576)) ∨
    ((1 ≤ c.sessions ∧ c.sessions ≤ 64) ∧ (1 ≤ c.frames ∧ c.frames ≤ 64) ∧ (2 ≤ c.quota ∧ c.quota ≤ c.frames) ∧ (1024 ≤ c.room ∧ c.room ≤ 1048576) ∧ ¬ (1 ≤ c.slots ∧ c.slots ≤ 1000)) := by
  by_cases h0 : 1 ≤ c.sessions ∧ c.sessions ≤ 64
  · by_cases h1 : 1 ≤ c.frames ∧ c.frames ≤ 64
    · by_cases h2 : 2 ≤ c.quota ∧ c.quota ≤ c.frames
      · by_cases h3 : 1024 ≤ c.room ∧ c.room ≤ 1048576
        · by_cases h4 : 1 ≤ c.slots ∧ c.slots ≤ 1000
          · exact absurd ⟨h0, h1, h2, h3, h4⟩ h
          · exact .inr (.inr (.inr (.inr ⟨h0, h1, h2, h3, h4⟩)))
        · exact .inr (.inr (.inr (.inl ⟨h0, h1, h2, h3⟩)))
      · exact .inr (.inr (.inl ⟨h0, h1, h2⟩))
    · exact .inr (.inl ⟨h0, h1⟩)
  · exact .inl h0

set_option maxRecDepth 100000 in
set_option maxHeartbeats 1000000 in
theorem rm_new_no (c : Cf) (w : World) (h : ¬ c.ok) :
    Calls Tryz.prog 5 #[c.val] w fun e w' => e = .returned (.tuple #[.pointer none, .int .i64 3]) ∧ Keeps [] w w' := by
  rcases Cf.not_ok' h with h1 | ⟨h1, h2⟩ | ⟨h1, h2, h3⟩ | ⟨h1, h2, h3, h4⟩ | ⟨h1, h2, h3, h4, h5⟩
  · obtain ⟨s, f, q, r, o⟩ := c
    simp only at *
    have d1 := decide_eq_false h1
    clear h h1
    go_enter Tryz.func5, Tryz.ntmps5
    go_wp2_with (go_at_call 18; refine (rwithin _ _ _ _).mono ?_; rintro e w' ⟨rfl, rfl⟩)
    go_ret2
    exact ⟨rfl, (by repeat (first | exact Keeps.refl _ _ | assumption | refine Keeps.drew ?_ | refine Keeps.drewN ?_ _ | refine Keeps.alloc ?_ _ | refine Keeps.setCell ?_ (by simp <;> omega) _ | refine Keeps.trans ?_ (by assumption)))⟩
  · obtain ⟨s, f, q, r, o⟩ := c
    simp only at *
    have d1 := decide_eq_true h1;   have d2 := decide_eq_false h2
    clear h h1 h2
    go_enter Tryz.func5, Tryz.ntmps5
    go_wp2_with (go_at_call 18; refine (rwithin _ _ _ _).mono ?_; rintro e w' ⟨rfl, rfl⟩)
    go_ret2
    exact ⟨rfl, (by repeat (first | exact Keeps.refl _ _ | assumption | refine Keeps.drew ?_ | refine Keeps.drewN ?_ _ | refine Keeps.alloc ?_ _ | refine Keeps.setCell ?_ (by simp <;> omega) _ | refine Keeps.trans ?_ (by assumption)))⟩
  · obtain ⟨s, f, q, r, o⟩ := c
    simp only at *
    have d1 := decide_eq_true h1;   have d2 := decide_eq_true h2; have d3 := decide_eq_false h3
    clear h h1 h2 h3
    go_enter Tryz.func5, Tryz.ntmps5
    go_wp2_with (go_at_call 18; refine (rwithin _ _ _ _).mono ?_; rintro e w' ⟨rfl, rfl⟩)
    go_ret2
    exact ⟨rfl, (by repeat (first | exact Keeps.refl _ _ | assumption | refine Keeps.drew ?_ | refine Keeps.drewN ?_ _ | refine Keeps.alloc ?_ _ | refine Keeps.setCell ?_ (by simp <;> omega) _ | refine Keeps.trans ?_ (by assumption)))⟩
  · obtain ⟨s, f, q, r, o⟩ := c
    simp only at *
    have d1 := decide_eq_true h1;   have d2 := decide_eq_true h2; have d3 := decide_eq_true h3; have d4 := decide_eq_false h4
    clear h h1 h2 h3 h4
    go_enter Tryz.func5, Tryz.ntmps5
    go_wp2_with (go_at_call 18; refine (rwithin _ _ _ _).mono ?_; rintro e w' ⟨rfl, rfl⟩)
    go_ret2
    exact ⟨rfl, (by repeat (first | exact Keeps.refl _ _ | assumption | refine Keeps.drew ?_ | refine Keeps.drewN ?_ _ | refine Keeps.alloc ?_ _ | refine Keeps.setCell ?_ (by simp <;> omega) _ | refine Keeps.trans ?_ (by assumption)))⟩
  · obtain ⟨s, f, q, r, o⟩ := c
    simp only at *
    have d1 := decide_eq_true h1;   have d2 := decide_eq_true h2; have d3 := decide_eq_true h3; have d4 := decide_eq_true h4; have d5 := decide_eq_false h5
    clear h h1 h2 h3 h4 h5
    go_enter Tryz.func5, Tryz.ntmps5
    go_wp2_with (go_at_call 18; refine (rwithin _ _ _ _).mono ?_; rintro e w' ⟨rfl, rfl⟩)
    go_ret2
    exact ⟨rfl, (by repeat (first | exact Keeps.refl _ _ | assumption | refine Keeps.drew ?_ | refine Keeps.drewN ?_ _ | refine Keeps.alloc ?_ _ | refine Keeps.setCell ?_ (by simp <;> omega) _ | refine Keeps.trans ?_ (by assumption)))⟩

set_option maxRecDepth 100000 in
set_option maxHeartbeats 1000000 in
theorem rm_new (c : Cf) (w : World) (h : c.ok) :
    Calls Tryz.prog 5 #[c.val] w fun e w' => ∃ m t, e = .returned (.tuple #[.pointer (some ⟨m, 0, none⟩), .int .i64 0]) ∧ Keeps [] w w' ∧ RMAt w' w'.heap.size m t (.slice none 0 0) (.slice none 0 0) c [] [] ∧ w.heap.size ≤ m ∧ w.heap.size ≤ t := by
  obtain ⟨s, f, q, r, o⟩ := c
  obtain ⟨h5, h1, h2, h3, h4⟩ := h
  simp only at *
  have d1 := decide_eq_true h1
  have d2 := decide_eq_true h2
  have d3 := decide_eq_true h3
  have d4 := decide_eq_true h4
  have d5 := decide_eq_true h5
  have hT := fun w => rt_new s w h5.1 h5.2
  clear h1 h2 h3 h4 h5
  go_enter Tryz.func5, Tryz.ntmps5
  go_wp2_with (first
    | (go_at_call 18; refine (rwithin _ _ _ _).mono ?_; rintro e w' ⟨rfl, rfl⟩)
    | (go_at_call 19; refine (hT _).mono ?_; rintro e w1 ⟨rfl, rfl⟩))
  go_ret2
  exact ⟨w.heap.size + 1 + 1, w.heap.size + 1, rfl, (by repeat (first | exact Keeps.refl _ _ | assumption | refine Keeps.drew ?_ | refine Keeps.drewN ?_ _ | refine Keeps.alloc ?_ _ | refine Keeps.setCell ?_ (by simp <;> omega) _ | refine Keeps.trans ?_ (by assumption))), ⟨heap_new_at _ (by simp), ⟨(Below.heap_alloc _ _ _ (by simp)).trans (heap_new_at _ (by simp)), World.ownsRow_nil _ _ _ _, by simp, by simp⟩, World.ownsRow_nil _ _ _ _, rfl, by simp⟩, by omega, by omega⟩

end Go.Proofs.YthjghcfnopancaaGreat
