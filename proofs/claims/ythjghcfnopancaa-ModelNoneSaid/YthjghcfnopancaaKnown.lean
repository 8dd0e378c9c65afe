/-
  The chapter's examples: one, seen, feeds, awake, ModelKnown.
-/
import Derived.Test.YthjghcfnopancaaMine
namespace Go.Proofs.Ythjghcfnopancaa
open Go.RowKit Go.Shelf Go.Maps

def exC : Cf := ⟨2, 5, 2, 1024, 2⟩
theorem exC_ok : exC.ok := ⟨by decide, by decide, by decide, by decide, by decide⟩
def ex1 : MS := (MS.fresh exC).opens.2.2
def ex2 : MS := (ex1.feed 1 1000).2.2
def ex3 : MS := (ex2.feed 1 1000).2.2
def ex4 : MS := (ex3.feed 1 (-1)).2.2
def ex5 : MS := (ex4.drain 1).2
def exS : St := ⟨0, 1, 8184, 1, 2, 1, 8⟩
def ex6 : MS := (ex5.see 1 exS).2
def ex7 : MS := (ex6.feed 1 9).2.2
def ex8 : MS := (ex7.drain 1).2
def ex9 : MS := (ex8.drain 1).2
def exT : St := ⟨0, 1, 8184, 1, 2, 1, 7⟩
def ey8 : MS := (ex7.see 1 exT).2
def ey9 : MS := (ey8.stop 1).2
def ey10 : MS := (ey9.feed 1 1).2.2
def ey11 : MS := (ey10.out 1 21).2
def ey12 : MS := (ey11.drain 1).2

theorem e1 : (MS.fresh exC).opens.1 = 1 ∧ (MS.fresh exC).opens.2.1 = 0 := ⟨by kernel_rfl, by kernel_rfl⟩
theorem e2 : (ex1.feed 1 1000).1 = 1000 ∧ (ex1.feed 1 1000).2.1 = 0 := ⟨by kernel_rfl, by kernel_rfl⟩
theorem e3 : (ex2.feed 1 1000).1 = 24 ∧ (ex2.feed 1 1000).2.1 = 0 := ⟨by kernel_rfl, by kernel_rfl⟩
theorem e4 : (ex3.feed 1 (-1)).1 = 0 ∧ (ex3.feed 1 (-1)).2.1 = 3 := ⟨by kernel_rfl, by kernel_rfl⟩
theorem e5 : (ex4.drain 1).1 = 16 := by kernel_rfl
theorem e6 : (ex5.see 1 exS).1 = 0 := by kernel_rfl
theorem e7 : (ex6.feed 1 9).1 = 1 ∧ (ex6.feed 1 9).2.1 = 0 := ⟨by kernel_rfl, by kernel_rfl⟩
theorem e8 : (ex7.drain 1).1 = 0 := by kernel_rfl
theorem e9 : (ex8.drain 1).1 = 16 := by kernel_rfl
theorem e10 : ex9.free = 3 := by kernel_rfl
theorem f8 : (ex7.see 1 exT).1 = 2 := by kernel_rfl
theorem f9 : (ey8.stop 1).1 = 0 := by kernel_rfl
theorem f10 : (ey9.feed 1 1).1 = 0 ∧ (ey9.feed 1 1).2.1 = 20 := ⟨by kernel_rfl, by kernel_rfl⟩
theorem f11 : (ey10.out 1 21).1 = 0 := by kernel_rfl
theorem f12 : (ey11.drain 1).1 = 21 := by kernel_rfl
theorem f13 : ey12.free = 5 := by kernel_rfl
theorem f14 : (liveIds ey12.l).length = 0 := by kernel_rfl

set_option maxHeartbeats 800000 in
theorem feeds_true {w0 w : World} {m t tb lb : Nat} {S : MS} (h : Mine w0 w m t tb lb S) (id n want err : Int) (h1 : (S.feed id n).1 = want) (h2 : (S.feed id n).2.1 = err) :
    Calls Try.prog 9 #[.pointer (some ⟨m, 0, none⟩), .int .i64 id, .int .i64 n, .int .i64 want, .int .i64 err] w fun e w' => e = .returned (.bool true) ∧ Mine w0 w' m t tb lb (S.feed id n).2.2 := by
  have hF := Lib.hid (h.feed id n)
  rw [h1, h2] at hF
  clear h h1 h2
  go_enter Try.func9, Try.ntmps9
  go_wp2_with (go_at_call 20; refine (hF.out).mono ?_; rintro e w1 ⟨rfl, hM⟩)
  go_ret
  exact ⟨rfl, hM⟩

theorem seen_calls (w : World) : Calls Try.prog 8 #[] w fun e w' => e = .returned exS.val ∧ Keeps [] w w' := by
  go_enter Try.func8, Try.ntmps8
  go_wp2
  exact bodyPost_ret (res_c rfl agg_status rfl rfl (heap_new_at _ (by simp))) rfl ⟨rfl, (by repeat (first | exact Keeps.refl _ _ | assumption | refine Keeps.drew ?_ | refine Keeps.drewN ?_ _ | refine Keeps.alloc ?_ _ | refine Keeps.setCell ?_ (by simp <;> omega) _ | refine Keeps.trans ?_ (by assumption)))⟩

set_option maxHeartbeats 1000000 in
theorem one_calls (w : World) : Calls Try.prog 6 #[] w fun e w' => ∃ m t tb lb, e = .returned (.pointer (some ⟨m, 0, none⟩)) ∧ Mine w w' m t tb lb ex5 := by
  have hN := Lib.hid (Mine.new exC exC_ok w)
  go_enter Try.func6, Try.ntmps6
  go_wp2_with fail
  refine (hN.out).mono ?_
  rintro e w1 ⟨m, t, tb, lb, rfl, hM⟩
  go_wp2_with fail
  have hO := hM.opens (by decide)
  rw [e1.1, e1.2] at hO
  refine hO.mono ?_
  rintro e w2 ⟨rfl, hM1⟩
  clear hM hO
  go_wp2_with fail
  refine (feeds_true hM1 1 1000 1000 0 e2.1 e2.2).mono ?_
  rintro e w3 ⟨rfl, hM2⟩
  clear hM1
  go_wp2_with fail
  refine (feeds_true hM2 1 1000 24 0 e3.1 e3.2).mono ?_
  rintro e w4 ⟨rfl, hM3⟩
  clear hM2
  go_wp2_with fail
  refine (feeds_true hM3 1 (-1) 0 3 e4.1 e4.2).mono ?_
  rintro e w5 ⟨rfl, hM4⟩
  clear hM3
  go_wp2_with fail
  have hD := Mine.drain (S := ex4) hM4 1
  rw [e5] at hD
  refine hD.mono ?_
  rintro e w6 ⟨rfl, hM5⟩
  clear hM4 hD
  go_wp2
  go_ret
  exact ⟨m, t, tb, lb, rfl, hM5⟩

set_option maxHeartbeats 1000000 in
theorem awake_calls (w : World) : Calls Try.prog 12 #[] w fun e w' => e = .returned (.bool true) ∧ Keeps [] w w' := by
  go_enter Try.func12, Try.ntmps12
  go_wp2_with fail
  refine (one_calls w).mono ?_
  rintro e w1 ⟨m, t, tb, lb, rfl, hM⟩
  go_wp2_with fail
  refine (seen_calls _).mono ?_
  rintro e w2 ⟨rfl, hk⟩
  have hM1 := hM.on hk
  clear hM hk
  go_wp2_with fail
  have hS := hM1.see 1 exS
  rw [e6] at hS
  refine hS.mono ?_
  rintro e w3 ⟨rfl, hM2⟩
  clear hM1 hS
  go_wp2_with fail
  refine (feeds_true (S := ex6) hM2 1 9 1 0 e7.1 e7.2).mono ?_
  rintro e w4 ⟨rfl, hM3⟩
  clear hM2
  go_wp2_with fail
  have hD := Mine.drain (S := ex7) hM3 1
  rw [e8] at hD
  refine hD.mono ?_
  rintro e w5 ⟨rfl, hM4⟩
  clear hM3 hD
  go_wp2_with fail
  have hD := Mine.drain (S := ex8) hM4 1
  rw [e9] at hD
  refine hD.mono ?_
  rintro e w6 ⟨rfl, hM5⟩
  clear hM4 hD
  go_wp2_with fail
  have hF := Mine.free (S := ex9) hM5
  rw [e10] at hF
  refine hF.mono ?_
  rintro e w7 ⟨rfl, hM6⟩
  clear hM5 hF
  go_wp2
  go_ret
  exact ⟨rfl, hM6.kept⟩

set_option maxRecDepth 100000 in
set_option maxHeartbeats 1000000 in
theorem known_calls (w : World) : Calls Try.prog 3 #[] w fun e w' => e = .returned (.bool true) ∧ Keeps [] w w' := by
  go_enter Try.func3, Try.ntmps3
  go_wp2_with fail
  refine (one_calls w).mono ?_
  rintro e w1 ⟨m, t, tb, lb, rfl, hM⟩
  go_wp2_with fail
  refine (seen_calls _).mono ?_
  rintro e w2 ⟨rfl, hk⟩
  have hM1 := hM.on hk
  clear hM hk
  go_wp2_with fail
  have hS := hM1.see 1 exS
  rw [e6] at hS
  refine hS.mono ?_
  rintro e w3 ⟨rfl, hM2⟩
  clear hM1 hS
  go_wp2_with fail
  refine (feeds_true (S := ex6) hM2 1 9 1 0 e7.1 e7.2).mono ?_
  rintro e w4 ⟨rfl, hM3⟩
  clear hM2
  go_wp2_with fail
  refine (seen_calls _).mono ?_
  rintro e w5 ⟨rfl, hk⟩
  have hM4 := hM3.on hk
  clear hM3 hk
  go_wp2_with fail
  have hM5 := hM4.on ((Keeps.refl _ _).alloc (.cells #[.int .i64 0, .int .i64 1, .int .i64 8184, .int .i64 1, .int .i64 2, .int .i64 1, .int .i64 7] 27))
  have hS := Mine.see (S := ex7) hM5 1 exT
  rw [f8] at hS
  refine hS.mono ?_
  rintro e w6 ⟨rfl, hM6⟩
  clear hM4 hM5 hS
  go_wp2_with fail
  have hS := Mine.stop (S := ey8) hM6 1
  rw [f9] at hS
  refine hS.mono ?_
  rintro e w7 ⟨rfl, hM7⟩
  clear hM6 hS
  go_wp2_with fail
  refine (feeds_true (S := ey9) hM7 1 1 0 20 f10.1 f10.2).mono ?_
  rintro e w8 ⟨rfl, hM8⟩
  clear hM7
  go_wp2_with fail
  have hS := Mine.close (S := ey10) hM8 1
  rw [f11] at hS
  refine hS.mono ?_
  rintro e w9 ⟨rfl, hM9⟩
  clear hM8 hS
  go_wp2_with fail
  refine (awake_calls _).mono ?_
  rintro e w10 ⟨rfl, hk⟩
  have hM10 := hM9.on hk
  clear hM9 hk
  go_wp2_with fail
  have hD := Mine.drain (S := ey11) hM10 1
  rw [f12] at hD
  refine hD.mono ?_
  rintro e w11 ⟨rfl, hM11⟩
  clear hM10 hD
  go_wp2_with fail
  have hF := Mine.free (S := ey12) hM11
  rw [f13] at hF
  refine hF.mono ?_
  rintro e w12 ⟨rfl, hM12⟩
  clear hM11 hF
  go_wp2_with fail
  have hL := Mine.lives (S := ey12) hM12
  rw [f14] at hL
  refine hL.mono ?_
  rintro e w13 ⟨v, rfl, hrow, hM13⟩
  obtain ⟨a, cap, rfl⟩ := ownsRow_slice hrow
  clear hM12 hL hrow
  go_wp2
  go_ret
  exact ⟨rfl, hM13.kept⟩

end Go.Proofs.Ythjghcfnopancaa
