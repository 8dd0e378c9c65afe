/-
  Drain of a model: contract.
-/
import Derived.Test.YthjghcfnopancaaOver
namespace Go.Proofs.Ythjghcfnopancaa
open Go.RowKit Go.Shelf Go.Maps

def St.zero : St := ⟨0, 0, 0, 0, 0, 0, 0⟩
/-- One picture fewer waits. -/
def Kn.less (k : Kn) : Kn := { k with s := { k.s with queued := max (wrap64 (k.s.queued - 1)) 0 } }

set_option maxHeartbeats 800000 in
theorem drain1_empty (k : Kn) (w : World) (h1 : k.s.queued = 0) (h2 : k.s.cause = 0) :
    Calls Try.prog 31 #[k.val] w fun e w' => e = .returned (.tuple #[k.val, St.zero.val, .int .i64 16]) ∧ Keeps [] w w' := by
  obtain ⟨a1, x, a2, a3, a4, a5, a6, a7, a8⟩ := k
  simp only at h1 h2
  subst h1; subst h2
  go_enter Try.func31, Try.ntmps31
  go_wp2
  exact bodyPost_ret (res_cct rfl agg_known agg_status rfl rfl rfl rfl rfl ((Below.heap_alloc _ _ _ (by simp)).trans (heap_new_at _ (by simp))) (heap_new_at _ (by simp))) rfl ⟨rfl, (by repeat (first | exact Keeps.refl _ _ | assumption | refine Keeps.drew ?_ | refine Keeps.drewN ?_ _ | refine Keeps.alloc ?_ _ | refine Keeps.setCell ?_ (by simp <;> omega) _ | refine Keeps.trans ?_ (by assumption)))⟩

set_option maxHeartbeats 800000 in
theorem drain1_yes (k : Kn) (w : World) (h1 : ¬ (k.s.queued = 0 ∧ k.s.cause = 0)) :
    Calls Try.prog 31 #[k.val] w fun e w' => e = .returned (.tuple #[k.less.val, k.s.val, .int .i64 0]) ∧ Keeps [] w w' := by
  obtain ⟨a1, x, a2, a3, a4, a5, a6, a7, a8⟩ := k
  simp only at h1
  by_cases hq : a3 = 0
  · have hz : (a2 == 0) = false := by simpa using fun e => h1 ⟨hq, e⟩
    subst hq
    clear h1
    go_enter Try.func31, Try.ntmps31
    go_wp2
    go_region
    go_wp2
    exact bodyPost_ret (res_cct rfl agg_known agg_status rfl rfl rfl rfl rfl (Keeps.new4 ((Keeps.refl [] _).drew) (by simp) (by simp) (by simp) (by simp)).2.1 (Keeps.new4 ((Keeps.refl [] _).drew) (by simp) (by simp) (by simp) (by simp)).2.2.1) rfl ⟨by simp only [Kn.less, show wrap64 (0 - 1) = -1 from by unfold wrap64; omega]; rfl, (by repeat (first | exact Keeps.refl _ _ | assumption | refine Keeps.drew ?_ | refine Keeps.drewN ?_ _ | refine Keeps.alloc ?_ _ | refine Keeps.setCell ?_ (by simp <;> omega) _ | refine Keeps.trans ?_ (by assumption)))⟩
  · have hz : (a3 == 0) = false := by simpa using hq
    clear h1 hq
    go_enter Try.func31, Try.ntmps31
    go_wp2
    go_region
    go_wp2
    exact bodyPost_ret (res_cct rfl agg_known agg_status rfl rfl rfl rfl rfl (Keeps.new4 ((Keeps.refl [] _).drew) (by simp) (by simp) (by simp) (by simp)).2.1 (Keeps.new4 ((Keeps.refl [] _).drew) (by simp) (by simp) (by simp) (by simp)).2.2.1) rfl ⟨rfl, (by repeat (first | exact Keeps.refl _ _ | assumption | refine Keeps.drew ?_ | refine Keeps.drewN ?_ _ | refine Keeps.alloc ?_ _ | refine Keeps.setCell ?_ (by simp <;> omega) _ | refine Keeps.trans ?_ (by assumption)))⟩

/-- Drain: where a cause, or pictures, are known, neither is less than nothing. -/
structure Known (S : MS) : Prop where
  queued : ∀ p ∈ S.live, 0 ≤ p.2.s.queued
  frames : ∀ p ∈ S.live, 0 ≤ p.2.s.frames ∧ p.2.s.frames ≤ S.c.quota

theorem over_set {S : MS} (id c : Int) (k : Kn) : (S.set id k).over id c = S.over id c := by
  simp only [MS.over, MS.set, MS.mk.injEq, true_and]
  rw [List.filter_map]
  refine (List.map_congr_left fun p hp => ?_).trans ((List.map_id _).trans ?_)
  · have := (List.mem_filter.1 hp).2
    by_cases h : p.1 = id
    · simp [h] at this
    · simp [h]
  · refine List.filter_congr fun p _ => ?_
    by_cases h : p.1 = id <;> simp [h]

set_option maxHeartbeats 1000000 in
theorem drain_any {m t tb lb : Nat} {S : MS} {w : World} (h : ModelAt w m t tb lb S) (hV : Valid S) (hN : Known S) (id : Int) :
    Calls Try.prog 13 #[.pointer (some ⟨m, 0, none⟩), .int .i64 id] w fun e w' => e = .returned (.int .i64 (S.drain id).1) ∧ Ends tb lb w w' m t (S.drain id).2 := by
  rcases hV.cases id with hr | ⟨hr, k, hk, hl, hcc⟩
  · have hs : S.drain id = (refusal S.l id, S) := by simp [MS.drain, hr]
    rw [hs]
    have hA := Lib.hid (askst_refused h hV.s1 id St.zero (.func (.func 31) #[] #[]) hr)
    have hr' : (refusal S.l id == 0) = false := by simpa using hr
    have hr2 : (refusal S.l id != 0) = true := by simpa using hr
    have H := Lib.hid h
    clear hs hr hV h hN
    go_enter Try.func13, Try.ntmps13
    go_wp2_with (go_at_call 30; refine (hA.out).mono ?_; rintro e w1 ⟨rfl, hk⟩)
    go_ret
    exact ⟨rfl, (Left.same H.out (hk.alloc _)).ends⟩
  · have hg := MS.get_of hV.nodup hk
    by_cases he : k.s.queued = 0 ∧ k.s.cause = 0
    · have hs : S.drain id = (16, S) := by simp [MS.drain, hr, hg, he]
      rw [hs]
      have key : Calls Try.prog 30 #[.pointer (some ⟨m, 0, none⟩), .int .i64 id, St.zero.val, .func (.func 31) #[] #[]] w fun e w' =>
          e = .returned (.tuple #[St.zero.val, .int .i64 16]) ∧ Keeps [] w w' := by
        refine (askst_no h hV.s1 id St.zero k hV.nodup hk hcc 31 _ (enters_of Try.func31 (by kernel_rfl) rfl) k St.zero 16 (by decide) ?_)
        exact fun w1 _ => drain1_empty k w1 he.1 he.2
      have hA := Lib.hid key
      have H := Lib.hid h
      clear key hs hr hV h hN hk hl hcc hg he
      go_enter Try.func13, Try.ntmps13
      go_wp2_with (go_at_call 30; refine (hA.out).mono ?_; rintro e w1 ⟨rfl, hk⟩)
      go_ret
      exact ⟨rfl, (Left.same H.out (hk.alloc _)).ends⟩
    · have key : Calls Try.prog 30 #[.pointer (some ⟨m, 0, none⟩), .int .i64 id, St.zero.val, .func (.func 31) #[] #[]] w fun e w' =>
          e = .returned (.tuple #[k.s.val, .int .i64 0]) ∧ Left lb w w' m t tb (S.set id k.less) := by
        refine (askst_yes h hV.s1 id St.zero k hV.nodup hk hcc 31 _ (enters_of Try.func31 (by kernel_rfl) rfl) k.less k.s ?_).mono ?_
        · exact fun w1 _ => drain1_yes k w1 he
        · rintro e w' ⟨rfl, hk1, hI⟩
          exact ⟨rfl, Left.put h hV hk hk1 hI⟩
      by_cases hq : 0 < k.s.queued
      · have hs : S.drain id = (0, S.set id k.less) := by simp [MS.drain, hr, hg, he, hq, Kn.less]
        rw [hs]
        have hA := Lib.hid key
        generalize k.s = ks at hA hq
        obtain ⟨q0, q1, q2, q3, q4, q5, q6⟩ := ks
        simp only at hq
        clear key hs hr hV hN hk hl hcc hg he
        go_enter Try.func13, Try.ntmps13
        go_wp2_with (go_at_call 30; refine (hA.out).mono ?_; rintro e w1 ⟨rfl, hk⟩)
        go_ret
        exact ⟨rfl, Left.ends ⟨hk.1.alloc _, hk.2.keep ((Keeps.refl [] _).alloc _) (by simp) (by simp) (by simp) (by simp)⟩⟩
      · have hq0 := hN.queued _ hk
        have hq1 : k.s.queued = 0 := by simp only at hq0; omega
        have hc0 : k.s.cause ≠ 0 := fun e => he ⟨hq1, e⟩
        have hs : S.drain id = (k.s.cause, S.over id k.s.cause) := by
          simp only [MS.drain, hr, ne_eq, not_true_eq_false, if_false, hg, if_neg he, if_neg hq, over_set]
        rw [hs]
        have hA := Lib.hid key
        have hO : Hid (∀ w0 w1, Left lb w0 w1 m t tb (S.set id k.less) → Calls Try.prog 32 #[.pointer (some ⟨m, 0, none⟩), .int .i64 id, .int .i64 k.s.cause] w1 fun e w' => e = .returned (.tuple #[]) ∧ Ends tb lb w0 w' m t (S.over id k.s.cause) ∧ Keeps [tb, lb] w1 w') := Lib.hid fun w0 w1 hL => by
          refine (over_any hL.2 (hV.set id k.less) id k.s.cause hc0 hl).mono ?_
          rintro e w' ⟨rfl, hE⟩
          rw [over_set] at hE
          exact ⟨rfl, ⟨(hL.1.mono (by simp)).trans hE.1, hE.2⟩, hE.1⟩
        generalize k.s = ks at hA hq hO
        obtain ⟨q0, q1, q2, q3, q4, q5, q6⟩ := ks
        simp only at hq hO
        clear key hs hr hV hN hk hl hcc hg he hc0 hq1 hq0
        go_enter Try.func13, Try.ntmps13
        go_wp2_with (first
          | (go_at_call 30; refine (hA.out).mono ?_; rintro e w1 ⟨rfl, hk⟩)
          | (go_at_call 32; refine (hO.out w _ ⟨hk.1.alloc _, hk.2.keep ((Keeps.refl [] _).alloc _) (by simp) (by simp) (by simp) (by simp)⟩).mono ?_; rintro e w2 ⟨rfl, hE, hE2⟩
             have g1 := hk.2.tbl.map.lt
             have g2 := hk.2.live.lt
             have c0 : w2.cell? ⟨w1.heap.size, 0, none⟩ = some (.int .i64 q0) := cellOf (hE2.blk (heap_new w1 _) (by simp; omega)) 0 rfl))
        go_ret
        exact ⟨rfl, hE⟩

end Go.Proofs.Ythjghcfnopancaa
