/-
  Pick and tame of the laws on models.
-/
import Derived.Test.YthjghcfnopancaaKnown
import Derived.StillTailTactics
namespace Go.Proofs.Ythjghcfnopancaa
open Go.RowKit Go.Shelf Go.Maps

/-- A number from 0 on below n. -/
def pick (x n : Int) : Int := if x.tmod n < 0 then x.tmod n + n else x.tmod n
theorem pick_lt (x n : Int) (h : 0 < n) : 0 ≤ pick x n ∧ pick x n < n := by
  have h1 := Int.tmod_lt_of_pos x h
  have h2 : -n < x.tmod n := by
    have := Int.tmod_lt_of_pos (-x) h
    rw [Int.neg_tmod] at this
    omega
  unfold pick
  split <;> omega

set_option maxHeartbeats 400000 in
theorem pick_any (x n : Int) (w : World) (h : 0 < n) (h2 : n ≤ 4611686018427387904) :
    Calls Try.prog 19 #[.int .i64 x, .int .i64 n] w fun e w' => e = .returned (.int .i64 (pick x n)) ∧ w' = w := by
  have hm : wrap64 (x.tmod n) = x.tmod n := by
    have := pick_lt x n h
    unfold pick at this
    split at this <;> (unfold wrap64; omega)
  have hn0 : (n == 0) = false := by simp; omega
  obtain ⟨y, hy⟩ : ∃ y, y = x.tmod n := ⟨_, rfl⟩
  have hp := pick_lt x n h
  unfold pick at hp ⊢
  rw [← hy] at hm hp ⊢
  by_cases hneg : y < 0
  · rw [if_pos hneg] at hp ⊢
    have hw : wrap64 (y + n) = y + n := by unfold wrap64; omega
    go_enter Try.func19, Try.ntmps19
    go_wp2
    go_ret
    subst hy
    exact ⟨rfl, rfl⟩
  · rw [if_neg hneg] at hp ⊢
    go_enter Try.func19, Try.ntmps19
    go_wp2
    go_ret
    subst hy
    exact ⟨rfl, rfl⟩

theorem agg_config : Agg Try.prog 36 5 := ⟨fun _ => by kernel_rfl, fun _ => by kernel_rfl⟩

/-- What tame answers of a configuration. -/
def tameC (c : Cf) : Cf :=
  let fr := 2 + pick c.frames 7
  { frames := fr, sessions := 1 + pick c.sessions 4, quota := 2 + pick c.quota (fr - 1), room := 1024 + pick c.room 500, slots := 1 + pick c.slots 4 }

theorem tameC_ok (c : Cf) : (tameC c).ok := by
  have h1 := pick_lt c.frames 7 (by decide)
  have h2 := pick_lt c.sessions 4 (by decide)
  have h3 := pick_lt c.quota (2 + pick c.frames 7 - 1) (by omega)
  have h4 := pick_lt c.room 500 (by decide)
  have h5 := pick_lt c.slots 4 (by decide)
  constructor <;> simp only [tameC] <;> omega

set_option maxHeartbeats 1000000 in
set_option maxRecDepth 100000 in
theorem tame_any (c : Cf) (w : World) : Calls Try.prog 16 #[c.val] w fun e w' => e = .returned (tameC c).val ∧ Keeps [] w w' := by
  obtain ⟨a0, a1, a2, a3, a4⟩ := c
  have h1 := pick_lt a1 7 (by decide)
  have h2 := pick_lt a0 4 (by decide)
  have h3 := pick_lt a2 (2 + pick a1 7 - 1) (by omega)
  have h4 := pick_lt a3 500 (by decide)
  have h5 := pick_lt a4 4 (by decide)
  have hP := fun w => pick_any a1 7 w (by decide) (by decide)
  have hQ := fun w => pick_any a0 4 w (by decide) (by decide)
  have hR := fun w => pick_any a2 (2 + pick a1 7 - 1) w (by omega) (by omega)
  have hS := fun w => pick_any a3 500 w (by decide) (by decide)
  have hT := fun w => pick_any a4 4 w (by decide) (by decide)
  unfold tameC
  simp only
  generalize pick a1 7 = p1 at *
  generalize pick a0 4 = p0 at *
  generalize pick a2 (2 + p1 - 1) = p2 at *
  generalize pick a3 500 = p3 at *
  generalize pick a4 4 = p4 at *
  have e1 := IntWalk.i64_in (2 + p1) (by omega)
  have e2 := IntWalk.i64_in (2 + p1 - 1) (by omega)
  have x0 := IntWalk.i64_in (1 + p0) (by omega)
  have x2 := IntWalk.i64_in (2 + p2) (by omega)
  have x3 := IntWalk.i64_in (1024 + p3) (by omega)
  have x4 := IntWalk.i64_in (1 + p4) (by omega)
  go_enter Try.func16, Try.ntmps16
  go_wp2_with (go_at_call 19; refine (hP _).mono ?_; rintro e w' ⟨rfl, rfl⟩)
  generalize hw1 : ((w.alloc (.cells #[.int .i64 a0, .int .i64 a1, .int .i64 a2, .int .i64 a3, .int .i64 a4] 36)).alloc
      (.cells #[.int .i64 0, .int .i64 0, .int .i64 0, .int .i64 0, .int .i64 0] 36)) = w1
  have hk0 : Keeps [] ((w.alloc (.cells #[.int .i64 a0, .int .i64 a1, .int .i64 a2, .int .i64 a3, .int .i64 a4] 36)).alloc
      (.cells #[.int .i64 0, .int .i64 0, .int .i64 0, .int .i64 0, .int .i64 0] 36)) w1 := by subst hw1; exact Keeps.refl _ _
  obtain ⟨b0, b1, hk⟩ := hk0.new2 (by simp) (by simp)
  clear hk0 hw1
  obtain ⟨r0, r1, r2, r3, r4⟩ := cells5 b0
  have hQ' := hQ w1.drew
  have hR' := hR w1.drew
  have hS' := hS w1.drew
  have hT' := hT w1.drew
  clear hP hQ hR hS hT h1 h2 h3 h4 h5
  simp only [World.drew] at hQ' hR' hS' hT'
  go_still_tail 20, (by kernel_rfl)
  still_call hQ'
  repeat still_step
  still_call hR'
  repeat still_step
  still_call hS'
  repeat still_step
  still_call hT'
  repeat still_step
  refine wpStill_nil ?_
  change wpList _ _ _ _ _ w1.drew
  generalize hw2 : w1.drew = w2
  have b1 : w2.heap[w.heap.size + 1]? = some (.cells #[.int .i64 0, .int .i64 0, .int .i64 0, .int .i64 0, .int .i64 0] 36 (0, 0)) := by subst hw2; exact b1
  have hk : Keeps [] w w2 := by subst hw2; exact hk.drew
  obtain ⟨s0, s1, s2, s3, s4⟩ := cells5 b1
  have fr := frees b1
  clear b0 r0 r1 r2 r3 r4 hQ' hR' hS' hT' hw2
  go_wp2
  have hx : w.heap.size + 1 < w.heap.size → w.heap.size + 1 ∈ ([] : List Nat) := fun h => absurd h (by omega)
  have hb := blk_setCell (blk_setCell (blk_setCell (blk_setCell (blk_setCell b1 0 (.int .i64 (1 + p0))) 1 (.int .i64 (2 + p1))) 2 (.int .i64 (2 + p2))) 3 (.int .i64 (1024 + p3))) 4 (.int .i64 (1 + p4))
  exact bodyPost_ret (res_c rfl agg_config rfl rfl (by simpa using hb)) rfl ⟨rfl, ((((hk.setCell hx _).setCell hx _).setCell hx _).setCell hx _).setCell hx _⟩

end Go.Proofs.Ythjghcfnopancaa
