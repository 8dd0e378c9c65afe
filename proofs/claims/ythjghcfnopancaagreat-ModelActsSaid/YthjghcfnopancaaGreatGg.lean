/-
  A model of the caller's own, and what each call makes of it.
-/
import Derived.Test.YthjghcfnopancaaGreatGf
import Derived.Test.YthjghcfnopancaaGreatGe
namespace Go.Proofs.YthjghcfnopancaaGreat
open Go.RowKit Go.Shelf Go.Maps

theorem Known.set {S : MS} (h : Known S) (id : Int) (k : Kn) (h1 : 0 ≤ k.s.queued) (h2 : 0 ≤ k.s.frames ∧ k.s.frames ≤ S.c.quota) : Known (S.set id k) := by
  constructor <;>
  · intro p hp
    simp only [MS.set, List.mem_map] at hp
    obtain ⟨q, hq, rfl⟩ := hp
    by_cases e : q.1 = id
    · simp [e, MS.set]; first | exact h1 | exact h2
    · simp [e, MS.set]; first | exact h.queued q hq | exact h.frames q hq
theorem Known.over {S : MS} (h : Known S) (id c : Int) : Known (S.over id c) :=
  ⟨fun p hp => h.queued p (List.mem_filter.1 hp).1, fun p hp => h.frames p (List.mem_filter.1 hp).1⟩

theorem MS.get_mem {S : MS} {id : Int} {k : Kn} (h : S.get id = some k) : (id, k) ∈ S.live := by
  unfold MS.get at h
  obtain ⟨p, hp, rfl⟩ := Option.map_eq_some_iff.1 h
  have h1 := List.mem_of_find?_eq_some hp
  have h2 : p.1 = id := by simpa using List.find?_some hp
  rw [← h2]; exact h1

theorem keep_feed {S : MS} (hV : Valid S) (hN : Known S) (id n : Int) : Valid (S.feed id n).2.2 ∧ Known (S.feed id n).2.2 := by
  unfold MS.feed
  split
  · exact ⟨hV, hN⟩
  · split
    · exact ⟨hV, hN⟩
    · rename_i k hk
      have hm := MS.get_mem hk
      split
      · exact ⟨hV, hN⟩
      · split
        · exact ⟨hV, hN⟩
        · exact ⟨hV.set _ _, hN.set _ _ (hN.queued _ hm) (hN.frames _ hm)⟩

theorem keep_stop {S : MS} (hV : Valid S) (hN : Known S) (id : Int) : Valid (S.stop id).2 ∧ Known (S.stop id).2 := by
  unfold MS.stop
  split
  · exact ⟨hV, hN⟩
  · split
    · exact ⟨hV, hN⟩
    · rename_i k hk
      have hm := MS.get_mem hk
      split
      · exact ⟨hV, hN⟩
      · exact ⟨hV.set _ _, hN.set _ _ (hN.queued _ hm) (hN.frames _ hm)⟩

theorem keep_see {S : MS} (hV : Valid S) (hN : Known S) (id : Int) (s : St) : Valid (S.see id s).2 ∧ Known (S.see id s).2 := by
  unfold MS.see
  split
  · exact ⟨hV, hN⟩
  · split
    · exact ⟨hV, hN⟩
    · rename_i k hk
      split
      · rename_i hm
        simp only [Kn.may, Bool.and_eq_true, decide_eq_true_eq] at hm
        obtain ⟨⟨⟨⟨⟨h1, h2⟩, h3⟩, h4⟩, h5⟩, h6⟩ := hm
        exact ⟨hV.set _ _, hN.set _ _ h3.1 h4⟩
      · exact ⟨hV, hN⟩

theorem keep_out {S : MS} (hV : Valid S) (hN : Known S) (id c : Int) (hc : c ≠ 0) : Valid (S.out id c).2 ∧ Known (S.out id c).2 := by
  unfold MS.out
  split
  · exact ⟨hV, hN⟩
  · exact ⟨hV.over _ _ hc, hN.over _ _⟩

theorem keep_drain {S : MS} (hV : Valid S) (hN : Known S) (id : Int) : Valid (S.drain id).2 ∧ Known (S.drain id).2 := by
  unfold MS.drain
  split
  · exact ⟨hV, hN⟩
  · split
    · exact ⟨hV, hN⟩
    · rename_i k hk
      have hm := MS.get_mem hk
      split
      · exact ⟨hV, hN⟩
      · rename_i he
        split
        · exact ⟨hV.set _ _, hN.set _ _ (by simp only; omega) (hN.frames _ hm)⟩
        · rename_i hq
          rw [over_set]
          have := hN.queued _ hm
          exact ⟨hV.over _ _ (fun e => he ⟨by simp only at this; omega, e⟩), hN.over _ _⟩

/-- A model that the caller has made. -/
structure Mine (w0 w : World) (m t tb lb : Nat) (S : MS) : Prop where
  kept : Keeps [] w0 w
  at_ : ModelAt w m t tb lb S
  mb : w0.heap.size ≤ m
  tbb : w0.heap.size ≤ t
  tbbb : w0.heap.size ≤ tb
  lbb : w0.heap.size ≤ lb
  valid : Valid S
  known : Known S

theorem Mine.left {w0 w w' : World} {m t tb lb : Nat} {S S' : MS} (h : Mine w0 w m t tb lb S) (hl : Left lb w w' m t tb S') (hV : Valid S' ∧ Known S') : Mine w0 w' m t tb lb S' :=
  ⟨h.kept.trans' hl.1 (fun i hi h1 => by have := h.lbb; simp at hi; omega), hl.2, h.mb, h.tbb, h.tbbb, h.lbb, hV.1, hV.2⟩
theorem Mine.ends {w0 w w' : World} {m t tb lb : Nat} {S S' : MS} (h : Mine w0 w m t tb lb S) (hl : Ends tb lb w w' m t S') (hV : Valid S' ∧ Known S') : Mine w0 w' m t tb lb S' :=
  ⟨h.kept.trans' hl.1 (fun i hi h1 => by have := h.lbb; have := h.tbbb; simp at hi; omega), hl.2, h.mb, h.tbb, h.tbbb, h.lbb, hV.1, hV.2⟩
theorem Mine.on {w0 w w' : World} {m t tb lb : Nat} {S : MS} (h : Mine w0 w m t tb lb S) (hk : Keeps [] w w') : Mine w0 w' m t tb lb S :=
  ⟨h.kept.trans hk, h.at_.keep hk (by simp) (by simp) (by simp) (by simp), h.mb, h.tbb, h.tbbb, h.lbb, h.valid, h.known⟩

theorem Mine.feed {w0 w : World} {m t tb lb : Nat} {S : MS} (h : Mine w0 w m t tb lb S) (id n : Int) :
    Calls Tryz.prog 27 #[.pointer (some ⟨m, 0, none⟩), .int .i64 id, .int .i64 n] w fun e w' => e = .returned (.tuple #[.int .i64 (S.feed id n).1, .int .i64 (S.feed id n).2.1]) ∧ Mine w0 w' m t tb lb (S.feed id n).2.2 :=
  (feed_any h.at_ h.valid id n).mono fun _ _ ⟨he, hl⟩ => ⟨he, h.left hl (keep_feed h.valid h.known id n)⟩
theorem Mine.stop {w0 w : World} {m t tb lb : Nat} {S : MS} (h : Mine w0 w m t tb lb S) (id : Int) :
    Calls Tryz.prog 29 #[.pointer (some ⟨m, 0, none⟩), .int .i64 id] w fun e w' => e = .returned (.int .i64 (S.stop id).1) ∧ Mine w0 w' m t tb lb (S.stop id).2 :=
  (stop_any h.at_ h.valid id).mono fun _ _ ⟨he, hl⟩ => ⟨he, h.left hl (keep_stop h.valid h.known id)⟩
theorem Mine.see {w0 w : World} {m t tb lb : Nat} {S : MS} (h : Mine w0 w m t tb lb S) (id : Int) (s : St) :
    Calls Tryz.prog 21 #[.pointer (some ⟨m, 0, none⟩), .int .i64 id, s.val] w fun e w' => e = .returned (.int .i64 (S.see id s).1) ∧ Mine w0 w' m t tb lb (S.see id s).2 :=
  (see_any h.at_ h.valid id s).mono fun _ _ ⟨he, hl⟩ => ⟨he, h.left hl (keep_see h.valid h.known id s)⟩
theorem Mine.drain {w0 w : World} {m t tb lb : Nat} {S : MS} (h : Mine w0 w m t tb lb S) (id : Int) :
    Calls Tryz.prog 24 #[.pointer (some ⟨m, 0, none⟩), .int .i64 id] w fun e w' => e = .returned (.int .i64 (S.drain id).1) ∧ Mine w0 w' m t tb lb (S.drain id).2 :=
  (drain_any h.at_ h.valid h.known id).mono fun _ _ ⟨he, hl⟩ => ⟨he, h.ends hl (keep_drain h.valid h.known id)⟩
theorem Mine.close {w0 w : World} {m t tb lb : Nat} {S : MS} (h : Mine w0 w m t tb lb S) (id : Int) :
    Calls Tryz.prog 33 #[.pointer (some ⟨m, 0, none⟩), .int .i64 id] w fun e w' => e = .returned (.int .i64 (S.out id 21).1) ∧ Mine w0 w' m t tb lb (S.out id 21).2 :=
  (Close_any h.at_ h.valid id).mono fun _ _ ⟨he, hl⟩ => ⟨he, h.ends hl (keep_out h.valid h.known id 21 (by decide))⟩
theorem Mine.evict {w0 w : World} {m t tb lb : Nat} {S : MS} (h : Mine w0 w m t tb lb S) (id : Int) :
    Calls Tryz.prog 35 #[.pointer (some ⟨m, 0, none⟩), .int .i64 id] w fun e w' => e = .returned (.int .i64 (S.out id 22).1) ∧ Mine w0 w' m t tb lb (S.out id 22).2 :=
  (Evict_any h.at_ h.valid id).mono fun _ _ ⟨he, hl⟩ => ⟨he, h.ends hl (keep_out h.valid h.known id 22 (by decide))⟩
theorem Mine.free {w0 w : World} {m t tb lb : Nat} {S : MS} (h : Mine w0 w m t tb lb S) :
    Calls Tryz.prog 13 #[.pointer (some ⟨m, 0, none⟩)] w fun e w' => e = .returned (.int .i64 S.free) ∧ Mine w0 w' m t tb lb S :=
  (free_any h.at_ h.valid h.known).mono fun _ _ ⟨he, hl⟩ => ⟨he, h.on hl⟩
theorem Mine.lives {w0 w : World} {m t tb lb : Nat} {S : MS} (h : Mine w0 w m t tb lb S) :
    Calls Tryz.prog 10 #[.pointer (some ⟨m, 0, none⟩)] w fun e w' => ∃ v, e = .returned v ∧ w'.ownsRow w0.heap.size 3 1 v (liveIds S.l).length ((liveIds S.l).map (Value.int .i64)) ∧ Mine w0 w' m t tb lb S :=
  (mlive_any h.at_ h.valid).mono fun _ _ ⟨v, he, h1, _, hk⟩ => ⟨v, he, ownsRow_base_a h1 h.kept.size, h.on hk⟩

theorem Known.more {S : MS} (h : Known S) (hq : 0 ≤ S.c.quota) : Known S.more := by
  constructor <;>
  · intro p hp
    simp only [MS.more, List.mem_append, List.mem_singleton] at hp
    rcases hp with hp | rfl
    · first | exact h.queued p hp | exact h.frames p hp
    · simp [MS.more]; try exact hq

/-- Open: what it answers, what it leaves. -/
theorem keep_opens {S : MS} (hV : Valid S) (hN : Known S) (hlim : S.l.length < 1000) : Valid S.opens.2.2 ∧ Known S.opens.2.2 := by
  unfold MS.opens
  split
  · exact ⟨hV, hN⟩
  · split
    · exact ⟨hV, hN⟩
    · rename_i h1 h2
      have := hV.few
      exact ⟨hV.more (by omega) hlim, hN.more (by have := hV.ok.q; omega)⟩

theorem Mine.opens {w0 w : World} {m t tb lb : Nat} {S : MS} (h : Mine w0 w m t tb lb S) (hlim : S.l.length < 1000) :
    Calls Tryz.prog 25 #[.pointer (some ⟨m, 0, none⟩)] w fun e w' => e = .returned (.tuple #[.int .i64 S.opens.1, .int .i64 S.opens.2.1]) ∧ Mine w0 w' m t tb lb S.opens.2.2 := by
  have hk := keep_opens h.valid h.known hlim
  by_cases h1 : S.c.frames < ((S.live.length : Int) + 1) * S.c.quota
  · have e : S.opens = (0, 15, S) := by simp only [MS.opens, if_pos h1]
    rw [e] at hk ⊢
    exact (opens_full h.at_ h.valid h1).mono fun _ _ ⟨he, hl⟩ => ⟨he, h.on hl⟩
  · by_cases h2 : ((liveIds S.l).length : Int) = S.c.sessions
    · have e : S.opens = (0, 15, S) := by simp only [MS.opens, if_neg h1, if_pos h2]
      rw [e] at hk ⊢
      exact (opens_busy h.at_ h.valid h1 h2).mono fun _ _ ⟨he, hl⟩ => ⟨he, h.on hl⟩
    · have e : S.opens = (S.last + 1, 0, S.more) := by simp only [MS.opens, if_neg h1, if_neg h2, MS.more]
      rw [e] at hk ⊢
      have := h.valid.few
      refine (opens_yes h.at_ h.valid h1 (by omega) hlim).mono fun _ _ ⟨he, hl, hM⟩ => ⟨he, h.kept.trans' hl (fun i hi h3 => ?_), hM, h.mb, h.tbb, h.tbbb, h.lbb, hk.1, hk.2⟩
      have := h.lbb; have := h.tbbb; have := h.tbb
      simp at hi; omega

theorem Known.fresh (c : Cf) : Known (MS.fresh c) := ⟨by simp [MS.fresh], by simp [MS.fresh]⟩
theorem Mine.new (c : Cf) (h : c.ok) (w : World) :
    Calls Tryz.prog 4 #[c.val] w fun e w' => ∃ m t tb lb, e = .returned (.tuple #[.pointer (some ⟨m, 0, none⟩), .int .i64 0]) ∧ Mine w w' m t tb lb (MS.fresh c) :=
  (new_yes c w h).mono fun _ _ ⟨m, t, tb, lb, he, hk, hM, h1, h2, h3, h4⟩ => ⟨m, t, tb, lb, he, hk, hM, h1, h2, h3, h4, Valid.fresh h, Known.fresh c⟩

end Go.Proofs.YthjghcfnopancaaGreat

/-
  The chapter's examples: one, seen, feeds, awake, ModelKnown.
-/
namespace Go.Proofs.YthjghcfnopancaaGreat
open Go.RowKit Go.Shelf Go.Maps

def exC : Cf := ⟨2, 5, 2, 1024, 2⟩
theorem exC_ok : exC.ok := ⟨by decide, by decide, by decide, by decide, by decide⟩
def ex1 : MS := (MS.fresh exC).opens.2.2
def ex2 : MS := (ex1.feed 1 1000).2.2
def ex3 : MS := (ex2.feed 1 1000).2.2
def ex4 : MS := (ex3.feed 1 (-1)).2.2
def ex5 : MS := (ex4.drain 1).2
def exS : St := ⟨0, 1, 8184, 1, 2, 1, 8⟩
def ex6 : MS := (ex5.see 1 exS).2
def ex7 : MS := (ex6.feed 1 9).2.2
def ex8 : MS := (ex7.drain 1).2
def ex9 : MS := (ex8.drain 1).2
def exT : St := ⟨0, 1, 8184, 1, 2, 1, 7⟩
def ey8 : MS := (ex7.see 1 exT).2
def ey9 : MS := (ey8.stop 1).2
def ey10 : MS := (ey9.feed 1 1).2.2
def ey11 : MS := (ey10.out 1 21).2
def ey12 : MS := (ey11.drain 1).2

theorem e1 : (MS.fresh exC).opens.1 = 1 ∧ (MS.fresh exC).opens.2.1 = 0 := ⟨by kernel_rfl, by kernel_rfl⟩
theorem e2 : (ex1.feed 1 1000).1 = 1000 ∧ (ex1.feed 1 1000).2.1 = 0 := ⟨by kernel_rfl, by kernel_rfl⟩
theorem e3 : (ex2.feed 1 1000).1 = 24 ∧ (ex2.feed 1 1000).2.1 = 0 := ⟨by kernel_rfl, by kernel_rfl⟩
theorem e4 : (ex3.feed 1 (-1)).1 = 0 ∧ (ex3.feed 1 (-1)).2.1 = 3 := ⟨by kernel_rfl, by kernel_rfl⟩
theorem e5 : (ex4.drain 1).1 = 16 := by kernel_rfl
theorem e6 : (ex5.see 1 exS).1 = 0 := by kernel_rfl
theorem e7 : (ex6.feed 1 9).1 = 1 ∧ (ex6.feed 1 9).2.1 = 0 := ⟨by kernel_rfl, by kernel_rfl⟩
theorem e8 : (ex7.drain 1).1 = 0 := by kernel_rfl
theorem e9 : (ex8.drain 1).1 = 16 := by kernel_rfl
theorem e10 : ex9.free = 3 := by kernel_rfl
theorem f8 : (ex7.see 1 exT).1 = 2 := by kernel_rfl
theorem f9 : (ey8.stop 1).1 = 0 := by kernel_rfl
theorem f10 : (ey9.feed 1 1).1 = 0 ∧ (ey9.feed 1 1).2.1 = 20 := ⟨by kernel_rfl, by kernel_rfl⟩
theorem f11 : (ey10.out 1 21).1 = 0 := by kernel_rfl
theorem f12 : (ey11.drain 1).1 = 21 := by kernel_rfl
theorem f13 : ey12.free = 5 := by kernel_rfl
theorem f14 : (liveIds ey12.l).length = 0 := by kernel_rfl

set_option maxHeartbeats 800000 in
theorem feeds_true {w0 w : World} {m t tb lb : Nat} {S : MS} (h : Mine w0 w m t tb lb S) (id n want err : Int) (h1 : (S.feed id n).1 = want) (h2 : (S.feed id n).2.1 = err) :
    Calls Tryz.prog 23 #[.pointer (some ⟨m, 0, none⟩), .int .i64 id, .int .i64 n, .int .i64 want, .int .i64 err] w fun e w' => e = .returned (.bool true) ∧ Mine w0 w' m t tb lb (S.feed id n).2.2 := by
  have hF := Lib.hid (h.feed id n)
  rw [h1, h2] at hF
  clear h h1 h2
  go_enter Tryz.func23, Tryz.ntmps23
  go_wp2_with (go_at_call 27; refine (hF.out).mono ?_; rintro e w1 ⟨rfl, hM⟩)
  go_ret
  exact ⟨rfl, hM⟩

theorem seen_calls (w : World) : Calls Tryz.prog 22 #[] w fun e w' => e = .returned exS.val ∧ Keeps [] w w' := by
  go_enter Tryz.func22, Tryz.ntmps22
  go_wp2
  exact bodyPost_ret (res_c rfl agg_status rfl rfl (heap_new_at _ (by simp))) rfl ⟨rfl, (by repeat (first | exact Keeps.refl _ _ | assumption | refine Keeps.drew ?_ | refine Keeps.drewN ?_ _ | refine Keeps.alloc ?_ _ | refine Keeps.setCell ?_ (by simp <;> omega) _ | refine Keeps.trans ?_ (by assumption)))⟩

set_option maxHeartbeats 1000000 in
theorem one_calls (w : World) : Calls Tryz.prog 20 #[] w fun e w' => ∃ m t tb lb, e = .returned (.pointer (some ⟨m, 0, none⟩)) ∧ Mine w w' m t tb lb ex5 := by
  have hN := Lib.hid (Mine.new exC exC_ok w)
  go_enter Tryz.func20, Tryz.ntmps20
  go_wp2_with fail
  refine (hN.out).mono ?_
  rintro e w1 ⟨m, t, tb, lb, rfl, hM⟩
  go_wp2_with fail
  have hO := hM.opens (by decide)
  rw [e1.1, e1.2] at hO
  refine hO.mono ?_
  rintro e w2 ⟨rfl, hM1⟩
  clear hM hO
  go_wp2_with fail
  refine (feeds_true hM1 1 1000 1000 0 e2.1 e2.2).mono ?_
  rintro e w3 ⟨rfl, hM2⟩
  clear hM1
  go_wp2_with fail
  refine (feeds_true hM2 1 1000 24 0 e3.1 e3.2).mono ?_
  rintro e w4 ⟨rfl, hM3⟩
  clear hM2
  go_wp2_with fail
  refine (feeds_true hM3 1 (-1) 0 3 e4.1 e4.2).mono ?_
  rintro e w5 ⟨rfl, hM4⟩
  clear hM3
  go_wp2_with fail
  have hD := Mine.drain (S := ex4) hM4 1
  rw [e5] at hD
  refine hD.mono ?_
  rintro e w6 ⟨rfl, hM5⟩
  clear hM4 hD
  go_wp2
  go_ret
  exact ⟨m, t, tb, lb, rfl, hM5⟩

set_option maxHeartbeats 1000000 in
theorem awake_calls (w : World) : Calls Tryz.prog 6 #[] w fun e w' => e = .returned (.bool true) ∧ Keeps [] w w' := by
  go_enter Tryz.func6, Tryz.ntmps6
  go_wp2_with fail
  refine (one_calls w).mono ?_
  rintro e w1 ⟨m, t, tb, lb, rfl, hM⟩
  go_wp2_with fail
  refine (seen_calls _).mono ?_
  rintro e w2 ⟨rfl, hk⟩
  have hM1 := hM.on hk
  clear hM hk
  go_wp2_with fail
  have hS := hM1.see 1 exS
  rw [e6] at hS
  refine hS.mono ?_
  rintro e w3 ⟨rfl, hM2⟩
  clear hM1 hS
  go_wp2_with fail
  refine (feeds_true (S := ex6) hM2 1 9 1 0 e7.1 e7.2).mono ?_
  rintro e w4 ⟨rfl, hM3⟩
  clear hM2
  go_wp2_with fail
  have hD := Mine.drain (S := ex7) hM3 1
  rw [e8] at hD
  refine hD.mono ?_
  rintro e w5 ⟨rfl, hM4⟩
  clear hM3 hD
  go_wp2_with fail
  have hD := Mine.drain (S := ex8) hM4 1
  rw [e9] at hD
  refine hD.mono ?_
  rintro e w6 ⟨rfl, hM5⟩
  clear hM4 hD
  go_wp2_with fail
  have hF := Mine.free (S := ex9) hM5
  rw [e10] at hF
  refine hF.mono ?_
  rintro e w7 ⟨rfl, hM6⟩
  clear hM5 hF
  go_wp2
  go_ret
  exact ⟨rfl, hM6.kept⟩

end Go.Proofs.YthjghcfnopancaaGreat

/-
  Whom to drive out, in plain words: no program in sight.
-/
namespace Go.Proofs.YthjghcfnopancaaGreat
namespace PL

/-- Is one the next victim ahead of another one? -/
def hlt (a b : Int × Int) : Bool := decide (b.2 < a.2) || (decide (a.2 = b.2) && decide (a.1 < b.1))

theorem hlt_iff (a b : Int × Int) : hlt a b = true ↔ b.2 < a.2 ∨ (a.2 = b.2 ∧ a.1 < b.1) := by simp [hlt]
theorem hlt_not (a b : Int × Int) : hlt a b = false ↔ ¬ (b.2 < a.2 ∨ (a.2 = b.2 ∧ a.1 < b.1)) := by
  rw [← hlt_iff]; simp
theorem hlt_anti {a b : Int × Int} (h : hlt a b = false) (k : hlt b a = false) : a = b := by
  rw [hlt_not] at h k
  refine Prod.ext ?_ ?_ <;> omega

/-- The victims, the next one first. -/
def srt (l : List (Int × Int)) : List (Int × Int) := l.mergeSort (fun a b => !hlt b a)

theorem srt_perm (l : List (Int × Int)) : (srt l).Perm l := List.mergeSort_perm _ _
theorem srt_sorted (l : List (Int × Int)) : (srt l).Pairwise (fun a b => hlt b a = false) := by
  have h := List.pairwise_mergeSort (le := fun a b => !hlt b a) (fun a b c h1 h2 => ?_) (fun a b => ?_) l
  · exact h.imp fun {a b} h => by simpa using h
  · simp only [Bool.not_eq_true', hlt_not] at h1 h2 ⊢
    omega
  · simp only [Bool.or_eq_true, Bool.not_eq_true', hlt_not]
    omega
theorem srt_eq {l m : List (Int × Int)} (h : m.Perm l) (k : m.Pairwise (fun a b => hlt b a = false)) : srt l = m :=
  List.Perm.eq_of_pairwise (le := fun a b => hlt b a = false) (fun _ _ _ _ h k => hlt_anti k h) (srt_sorted l) k ((srt_perm l).trans h.symm)
theorem srt_congr {l m : List (Int × Int)} (h : l.Perm m) : srt l = srt m := srt_eq ((srt_perm m).trans h.symm) (srt_sorted m)
theorem srt_cons {l xs : List (Int × Int)} {m : Int × Int} (h : (m :: xs).Perm l) (k : ∀ x ∈ xs, hlt x m = false) : srt l = m :: srt xs :=
  srt_eq (((srt_perm xs).cons m).trans h) (List.pairwise_cons.2 ⟨fun x hx => k x ((srt_perm xs).subset hx), srt_sorted xs⟩)
theorem srt_nil : srt [] = [] := by simp [srt]

/-- Who is evicted, of sorted victims. -/
def plan (want : Int) : List (Int × Int) → Int → List Int
  | [], _ => []
  | m :: t, free => if want ≤ free then [] else m.1 :: plan want t (free + m.2)
/-- .. and how many frames are free then. -/
def planF (want : Int) : List (Int × Int) → Int → Int
  | [], free => free
  | m :: t, free => if want ≤ free then free else planF want t (free + m.2)

theorem plan_full {want free : Int} (h : want ≤ free) : ∀ l, plan want l free = []
  | [] => rfl
  | _ :: _ => by simp [plan, h]
theorem planF_full {want free : Int} (h : want ≤ free) : ∀ l, planF want l free = free
  | [] => rfl
  | _ :: _ => by simp [planF, h]

/-- Those that hold something. -/
def some' (l : List (Int × Int)) : List (Int × Int) := l.filter fun p => decide (0 < p.2)

theorem mem_some {l : List (Int × Int)} {p : Int × Int} : p ∈ some' l ↔ p ∈ l ∧ 0 < p.2 := by simp [some']

/-- Nothing is left of the i-th one. -/
theorem some_set : ∀ {l : List (Int × Int)} {i : Nat} {p : Int × Int}, l[i]? = some p → 0 < p.2 → (p :: some' (l.set i (p.1, 0))).Perm (some' l)
  | [], i, p, h, _ => by simp at h
  | a :: t, 0, p, h, hp => by
    simp only [List.getElem?_cons_zero, Option.some.injEq] at h
    subst h
    simp [some', hp]
  | a :: t, i + 1, p, h, hp => by
    simp only [List.getElem?_cons_succ] at h
    have ih := some_set h hp
    simp only [List.set_cons_succ, some', List.filter_cons] at ih ⊢
    split
    · exact (List.Perm.swap _ _ _).trans (ih.cons a)
    · exact ih

theorem some_len_set {l : List (Int × Int)} {i : Nat} {p : Int × Int} (h : l[i]? = some p) (hp : 0 < p.2) : (some' (l.set i (p.1, 0))).length + 1 = (some' l).length := by
  have := (some_set h hp).length_eq
  simpa using this

/-- Where the next victim stands among the first k. -/
def firstB (l : List (Int × Int)) : Nat → Option Nat
  | 0 => none
  | k + 1 => match firstB l k with
    | none => if 0 < (l.getD k (0, 0)).2 then some k else none
    | some i => if 0 < (l.getD k (0, 0)).2 ∧ hlt (l.getD k (0, 0)) (l.getD i (0, 0)) = true then some k else some i

theorem firstB_none {l : List (Int × Int)} : ∀ {k : Nat}, firstB l k = none → ∀ j, j < k → ¬ 0 < (l.getD j (0, 0)).2
  | 0, _, j, hj => by omega
  | k + 1, h, j, hj => by
    simp only [firstB] at h
    split at h
    · rename_i h1
      split at h
      · cases h
      · rename_i h2
        by_cases e : j = k
        · subst e; exact h2
        · exact firstB_none h1 j (by omega)
    · split at h <;> cases h
theorem firstB_some {l : List (Int × Int)} : ∀ {k i : Nat}, firstB l k = some i → i < k ∧ 0 < (l.getD i (0, 0)).2 ∧ ∀ j, j < k → 0 < (l.getD j (0, 0)).2 → hlt (l.getD j (0, 0)) (l.getD i (0, 0)) = false
  | 0, i, h => by simp [firstB] at h
  | k + 1, i, h => by
    simp only [firstB] at h
    split at h
    · rename_i h1
      split at h
      · rename_i h2
        obtain rfl : k = i := by simpa using h
        refine ⟨by omega, h2, fun j hj hp => ?_⟩
        by_cases e : j = k
        · subst e; rw [hlt_not]; omega
        · exact absurd hp (firstB_none h1 j (by omega))
      · cases h
    · rename_i m h1
      obtain ⟨a, b, c⟩ := firstB_some h1
      split at h
      · rename_i h2
        obtain rfl : k = i := by simpa using h
        refine ⟨by omega, h2.1, fun j hj hp => ?_⟩
        by_cases e : j = k
        · subst e; rw [hlt_not]; omega
        · have h3 := c j (by omega) hp
          have h4 := h2.2
          rw [hlt_iff] at h4
          rw [hlt_not] at h3 ⊢
          omega
      · rename_i h2
        obtain rfl : m = i := by simpa using h
        refine ⟨by omega, b, fun j hj hp => ?_⟩
        by_cases e : j = k
        · subst e
          cases h5 : hlt (l.getD j (0, 0)) (l.getD m (0, 0))
          · rfl
          · exact absurd ⟨hp, h5⟩ h2
        · exact c j (by omega) hp

theorem srt_none {l : List (Int × Int)} (h : firstB l l.length = none) : srt (some' l) = [] := by
  have : some' l = [] := by
    rw [some', List.filter_eq_nil_iff]
    intro p hp
    obtain ⟨j, hj, rfl⟩ := List.getElem_of_mem hp
    have := firstB_none h j hj
    simpa [List.getD_eq_getElem?_getD, List.getElem?_eq_getElem hj] using this
  rw [this]; exact srt_nil
theorem srt_first {l : List (Int × Int)} {i : Nat} (h : firstB l l.length = some i) : ∃ p, l[i]? = some p ∧ 0 < p.2 ∧ srt (some' l) = p :: srt (some' (l.set i (p.1, 0))) := by
  obtain ⟨h1, h2, h3⟩ := firstB_some h
  have e : l.getD i (0, 0) = l[i] := by simp [List.getD_eq_getElem?_getD, List.getElem?_eq_getElem h1]
  rw [e] at h2 h3
  refine ⟨l[i], List.getElem?_eq_getElem h1, h2, srt_cons (some_set (List.getElem?_eq_getElem h1) h2) fun x hx => ?_⟩
  have hx' : x ∈ some' l := (some_set (List.getElem?_eq_getElem h1) h2).subset (List.mem_cons_of_mem _ hx)
  obtain ⟨hm, hp⟩ := mem_some.1 hx'
  obtain ⟨j, hj, rfl⟩ := List.getElem_of_mem hm
  have := h3 j hj
  simp only [List.getD_eq_getElem?_getD, List.getElem?_eq_getElem hj, Option.getD_some] at this
  exact this hp

theorem plan_mem (want : Int) : ∀ (l : List (Int × Int)) (free : Int), plan want l free <+: l.map (·.1)
  | [], _ => by simp [plan]
  | m :: t, free => by
    by_cases h : want ≤ free
    · simp [plan, h]
    · simp only [plan, h, if_false, List.map_cons]
      exact (List.prefix_cons_inj _).2 (plan_mem want t _)

end PL
end Go.Proofs.YthjghcfnopancaaGreat

/-
  Press, told by the state: whom it evicts, and what it leaves. No program in sight.
-/
namespace Go.Proofs.YthjghcfnopancaaGreat
open Go.RowKit

/-- Who holds how many frames. -/
def MS.hold (S : MS) : List (Int × Int) := S.live.map fun p => (p.1, p.2.s.frames)
/-- Some are evicted, one behind the other. -/
def MS.evicts (S : MS) (ids : List Int) : MS := ids.foldl (fun S id => S.over id 22) S
/-- Whom Press evicts. -/
def MS.victims (S : MS) (want : Int) : List Int := PL.plan want (PL.srt (PL.some' S.hold)) (max S.free 0)
/-- Press. -/
def MS.press (S : MS) (want : Int) : List Int × Int × MS :=
  if 0 ≤ want ∧ want ≤ S.c.frames then (S.victims want, 0, S.evicts (S.victims want)) else ([], 3, S)

theorem MS.evicts_snoc (S : MS) (ids : List Int) (id : Int) : S.evicts (ids ++ [id]) = (S.evicts ids).over id 22 := by simp [MS.evicts]
theorem MS.evicts_c (S : MS) : ∀ ids, (S.evicts ids).c = S.c := by
  intro ids
  unfold MS.evicts
  induction ids generalizing S with
  | nil => rfl
  | cons a t ih => simp only [List.foldl_cons]; rw [ih]; rfl

theorem keep_evicts {S : MS} (hV : Valid S) (hN : Known S) : ∀ ids, Valid (S.evicts ids) ∧ Known (S.evicts ids) := by
  intro ids
  unfold MS.evicts
  induction ids generalizing S with
  | nil => exact ⟨hV, hN⟩
  | cons a t ih => simp only [List.foldl_cons]; exact ih (hV.over a 22 (by decide)) (hN.over a 22)

theorem keep_press {S : MS} (hV : Valid S) (hN : Known S) (want : Int) : Valid (S.press want).2.2 ∧ Known (S.press want).2.2 := by
  unfold MS.press
  split
  · exact keep_evicts hV hN _
  · exact ⟨hV, hN⟩

theorem mem_ended {l : List (Int × Int)} {id a c : Int} (h : (id, 0) ∈ l) (hn : id ≠ a) : (id, 0) ∈ ended l a c := by
  unfold ended
  exact List.mem_map.2 ⟨(id, 0), h, by simp [hn]⟩

theorem MS.evicts_mem {S : MS} {id : Int} : ∀ {ids : List Int}, (id, 0) ∈ S.l → id ∉ ids → (id, 0) ∈ (S.evicts ids).l := by
  intro ids
  unfold MS.evicts
  induction ids generalizing S with
  | nil => intro h _; exact h
  | cons a t ih =>
    intro h hn
    simp only [List.foldl_cons]
    simp only [List.mem_cons, not_or] at hn
    exact ih (mem_ended h hn.1) hn.2

theorem Valid.live_mem {S : MS} (h : Valid S) {id : Int} (hm : id ∈ S.live.map (·.1)) : (id, 0) ∈ S.l := by
  rw [h.live] at hm
  unfold liveIds at hm
  obtain ⟨p, hp, rfl⟩ := List.mem_map.1 hm
  obtain ⟨h1, h2⟩ := List.mem_filter.1 hp
  have : p.2 = 0 := by simpa using h2
  rw [← this]; exact h1

theorem MS.victims_pre (S : MS) (want : Int) : S.victims want <+: (PL.srt (PL.some' S.hold)).map (·.1) := PL.plan_mem _ _ _
theorem MS.hold_keys (S : MS) : S.hold.map (·.1) = S.live.map (·.1) := by simp [MS.hold]
theorem MS.victims_mem {S : MS} {want id : Int} (h : id ∈ S.victims want) : id ∈ S.live.map (·.1) := by
  have h1 := (S.victims_pre want).subset h
  have h2 := ((PL.srt_perm (PL.some' S.hold)).map (·.1)).subset h1
  rw [← MS.hold_keys]
  obtain ⟨p, hp, rfl⟩ := List.mem_map.1 h2
  exact List.mem_map.2 ⟨p, (PL.mem_some.1 hp).1, rfl⟩
theorem Valid.victims_nodup {S : MS} (h : Valid S) (want : Int) : (S.victims want).Nodup := by
  have h1 := h.nodup
  rw [← MS.hold_keys] at h1
  have h2 : ((PL.some' S.hold).map (·.1)).Nodup := h1.sublist (List.Sublist.map _ List.filter_sublist)
  have h3 : ((PL.srt (PL.some' S.hold)).map (·.1)).Nodup := (((PL.srt_perm (PL.some' S.hold)).map (·.1)).nodup_iff).2 h2
  exact h3.sublist (S.victims_pre want).sublist

/-- The next one to be evicted is live. -/
theorem Valid.victim_live {S : MS} (h : Valid S) {want id : Int} {pre post : List Int} (e : S.victims want = pre ++ id :: post) : (id, 0) ∈ (S.evicts pre).l := by
  have hn := h.victims_nodup want
  rw [e] at hn
  refine MS.evicts_mem (h.live_mem (MS.victims_mem (want := want) (by rw [e]; simp))) ?_
  intro hm
  exact (List.nodup_append.1 hn).2.2 id hm id (by simp) rfl

end Go.Proofs.YthjghcfnopancaaGreat
