/-
  End, Close, Evict, Drain of a model: contracts.
-/
import Derived.Test.YthjghcfnopancaaGreatGc
namespace Go.Proofs.YthjghcfnopancaaGreat
open Go.RowKit Go.Shelf Go.Maps

set_option maxHeartbeats 400000 in
theorem end1_no (k : Kn) (w : World) (he : k.ended = true) :
    Calls Tryz.prog 54 #[k.val] w fun e w' => e = .returned (.tuple #[k.val, .int .i64 0, .int .i64 20]) ∧ Keeps [] w w' := by
  obtain ⟨a1, x, a2, a3, a4, a5, a6, a7, a8⟩ := k
  simp only at he
  subst he
  go_enter Tryz.func54, Tryz.ntmps54
  go_wp2
  exact bodyPost_ret (res_ctt rfl agg_known rfl rfl rfl rfl (heap_new_at _ (by simp))) rfl ⟨rfl, (by repeat (first | exact Keeps.refl _ _ | assumption | refine Keeps.drew ?_ | refine Keeps.drewN ?_ _ | refine Keeps.alloc ?_ _ | refine Keeps.setCell ?_ (by simp <;> omega) _ | refine Keeps.trans ?_ (by assumption)))⟩

set_option maxHeartbeats 400000 in
theorem end1_yes (k : Kn) (w : World) (he : k.ended = false) :
    Calls Tryz.prog 54 #[k.val] w fun e w' => e = .returned (.tuple #[({ k with ended := true } : Kn).val, .int .i64 0, .int .i64 0]) ∧ Keeps [] w w' := by
  obtain ⟨a1, x, a2, a3, a4, a5, a6, a7, a8⟩ := k
  simp only at he
  subst he
  go_enter Tryz.func54, Tryz.ntmps54
  go_wp2
  exact bodyPost_ret (res_ctt rfl agg_known rfl rfl rfl rfl (heap_new_at _ (by simp))) rfl ⟨rfl, (by repeat (first | exact Keeps.refl _ _ | assumption | refine Keeps.drew ?_ | refine Keeps.drewN ?_ _ | refine Keeps.alloc ?_ _ | refine Keeps.setCell ?_ (by simp <;> omega) _ | refine Keeps.trans ?_ (by assumption)))⟩

set_option maxHeartbeats 800000 in
theorem stop_any {m t tb lb : Nat} {S : MS} {w : World} (h : ModelAt w m t tb lb S) (hV : Valid S) (id : Int) :
    Calls Tryz.prog 29 #[.pointer (some ⟨m, 0, none⟩), .int .i64 id] w fun e w' => e = .returned (.int .i64 (S.stop id).1) ∧ Left lb w w' m t tb (S.stop id).2 := by
  have key : Calls Tryz.prog 43 #[.pointer (some ⟨m, 0, none⟩), .int .i64 id, .int .i64 0, .func (.func 54) #[] #[]] w fun e w' =>
      e = .returned (.tuple #[.int .i64 0, .int .i64 (S.stop id).1]) ∧ Left lb w w' m t tb (S.stop id).2 := by
    rcases hV.cases id with hr | ⟨hr, k, hk, -, hc⟩
    · have hs : S.stop id = (refusal S.l id, S) := by simp [MS.stop, hr]
      refine (askint_refused h hV.s1 id 0 _ hr).mono ?_
      rintro e w' ⟨rfl, hk1⟩
      exact ⟨by rw [hs], by rw [hs]; exact Left.same h hk1⟩
    · have hg := MS.get_of hV.nodup hk
      by_cases he : k.ended = true
      · have hs : S.stop id = (20, S) := by simp [MS.stop, hr, hg, he]
        refine (askint_no h hV.s1 id 0 k hV.nodup hk hc 54 _ (enters_of Tryz.func54 (by kernel_rfl) rfl) k 0 20 (by decide) ?_).mono ?_
        · exact fun w1 _ => end1_no k w1 he
        rintro e w' ⟨rfl, hk1⟩
        exact ⟨by rw [hs], by rw [hs]; exact Left.same h hk1⟩
      · have he' : k.ended = false := by simpa using he
        have hs : S.stop id = (0, S.set id { k with ended := true }) := by simp [MS.stop, hr, hg, he']
        refine (askint_yes h hV.s1 id 0 k hV.nodup hk hc 54 _ (enters_of Tryz.func54 (by kernel_rfl) rfl) { k with ended := true } 0 ?_).mono ?_
        · exact fun w1 _ => end1_yes k w1 he'
        rintro e w' ⟨rfl, hk1, hI⟩
        exact ⟨by rw [hs], by rw [hs]; exact Left.put h hV hk hk1 hI⟩
  have HK := Lib.hid key
  clear key hV h
  go_enter Tryz.func29, Tryz.ntmps29
  go_wp2_with (go_at_call 43; refine (HK.out).mono ?_; rintro e w1 ⟨rfl, hk⟩)
  go_ret
  exact ⟨rfl, hk⟩

set_option maxHeartbeats 400000 in
theorem out1_any (k : Kn) (w : World) :
    Calls Tryz.prog 64 #[k.val] w fun e w' => e = .returned (.tuple #[k.val, .int .i64 0, .int .i64 0]) ∧ Keeps [] w w' := by
  obtain ⟨a1, x, a2, a3, a4, a5, a6, a7, a8⟩ := k
  go_enter Tryz.func64, Tryz.ntmps64
  go_wp2
  exact bodyPost_ret (res_ctt rfl agg_known rfl rfl rfl rfl (heap_new_at _ (by simp))) rfl ⟨rfl, (by repeat (first | exact Keeps.refl _ _ | assumption | refine Keeps.drew ?_ | refine Keeps.drewN ?_ _ | refine Keeps.alloc ?_ _ | refine Keeps.setCell ?_ (by simp <;> omega) _ | refine Keeps.trans ?_ (by assumption)))⟩

/-- What a call that ends a number leaves. -/
def Ends (tb lb : Nat) (w w' : World) (m t : Nat) (S : MS) : Prop := Keeps [tb, lb] w w' ∧ ModelAt w' m t tb lb S
theorem Left.ends {lb : Nat} {w w' : World} {m t tb : Nat} {S : MS} (h : Left lb w w' m t tb S) : Ends tb lb w w' m t S := ⟨h.1.mono (by simp), h.2⟩

set_option maxHeartbeats 800000 in
theorem over_any {m t tb lb : Nat} {S : MS} {w : World} (h : ModelAt w m t tb lb S) (hV : Valid S) (id c : Int) (hc : c ≠ 0) (hl : (id, 0) ∈ S.l) :
    Calls Tryz.prog 48 #[.pointer (some ⟨m, 0, none⟩), .int .i64 id, .int .i64 c] w fun e w' => e = .returned (.tuple #[]) ∧ Ends tb lb w w' m t (S.over id c) := by
  have c5 : w.cell? ⟨m, 5, none⟩ = some (.pointer (some ⟨t, 0, none⟩)) := cellOf h.blk 5 rfl
  have hE := Lib.hid (tend_live h.tbl hV.s1 hV.rise.nodup id c hc hl)
  have h1 := map_ne h.blk h.tbl.map
  have h2 := map_ne h.blk h.live
  have h3 := map_ne h.tbl.blk h.live
  have hd := Lib.hid (del_lmap (id := id) hV.nodup)
  have H := Lib.hid h
  clear h hV hc hl
  go_enter Tryz.func48, Tryz.ntmps48
  go_wp2_with (first
    | (go_at_call 62; refine (hE.out).mono ?_; clear hE; rintro e w1 ⟨rfl, hk, hT⟩
       have hb := Lib.hid (hk.blk H.out.blk (by simpa using h1))
       have c6 : w1.cell? ⟨m, 6, none⟩ = some (.map (some lb)) := cellOf hb.out 6 rfl
       have hL := H.out.live.keep hk (by simpa using fun e => H.out.ne e.symm)
       obtain ⟨w2, hr, hM, hk2⟩ := run_delete (P := Tryz.prog) (ty := 0) (ts := #[54, 3]) Tryz.underlying54 Tryz.underlying3 hL id rfl
       have hT' := Lib.hid hT
       clear hT))
  go_end0
  rw [hd.out] at hM
  have hK : Keeps [tb, lb] w w2 := (hk.mono (by simp)).trans (hk2.mono (by simp))
  have h4 := H.out.ne
  exact ⟨rfl, hK, hK.blk H.out.blk (by simp; exact ⟨h1, h2⟩), hT'.out.keep hk2 (by simpa using h3) (by simpa using h4), hM, h4⟩

set_option maxHeartbeats 800000 in
theorem out_any {m t tb lb : Nat} {S : MS} {w : World} (h : ModelAt w m t tb lb S) (hV : Valid S) (id c : Int) (hc : c ≠ 0) :
    Calls Tryz.prog 56 #[.pointer (some ⟨m, 0, none⟩), .int .i64 id, .int .i64 c] w fun e w' => e = .returned (.int .i64 (S.out id c).1) ∧ Ends tb lb w w' m t (S.out id c).2 := by
  rcases hV.cases id with hr | ⟨hr, k, hk, hl, hcc⟩
  · have hs : S.out id c = (refusal S.l id, S) := by simp [MS.out, hr]
    rw [hs]
    have hA := Lib.hid (askint_refused h hV.s1 id 0 (.func (.func 64) #[] #[]) hr)
    have hr' : (refusal S.l id == 0) = false := by simpa using hr
    have H := Lib.hid h
    clear hs hr hc hV h
    go_enter Tryz.func56, Tryz.ntmps56
    go_wp2_with (go_at_call 43; refine (hA.out).mono ?_; rintro e w1 ⟨rfl, hk⟩)
    go_ret
    exact ⟨rfl, (Left.same H.out hk).ends⟩
  · have hs : S.out id c = (0, S.over id c) := by simp [MS.out, hr]
    rw [hs]
    have key : Calls Tryz.prog 43 #[.pointer (some ⟨m, 0, none⟩), .int .i64 id, .int .i64 0, .func (.func 64) #[] #[]] w fun e w' =>
        e = .returned (.tuple #[.int .i64 0, .int .i64 0]) ∧ Left lb w w' m t tb (S.set id k) := by
      refine (askint_yes h hV.s1 id 0 k hV.nodup hk hcc 64 _ (enters_of Tryz.func64 (by kernel_rfl) rfl) k 0 ?_).mono ?_
      · exact fun w1 _ => out1_any k w1
      · rintro e w' ⟨rfl, hk1, hI⟩
        exact ⟨rfl, Left.put h hV hk hk1 hI⟩
    have hA := Lib.hid key
    have hO : Hid (∀ w1, Left lb w w1 m t tb (S.set id k) → Calls Tryz.prog 48 #[.pointer (some ⟨m, 0, none⟩), .int .i64 id, .int .i64 c] w1 fun e w' => e = .returned (.tuple #[]) ∧ Ends tb lb w w' m t (S.over id c)) := Lib.hid fun w1 hL => by
      refine (over_any hL.2 (hV.set id k) id c hc hl).mono ?_
      rintro e w' ⟨rfl, hE⟩
      have hse : (S.set id k).over id c = S.over id c := by
        simp only [MS.over, MS.set, MS.mk.injEq, true_and]
        rw [List.filter_map]
        refine (List.map_congr_left fun p hp => ?_).trans ((List.map_id _).trans ?_)
        · have := (List.mem_filter.1 hp).2
          by_cases h : p.1 = id
          · simp [h] at this
          · simp [h]
        · refine List.filter_congr fun p _ => ?_
          by_cases h : p.1 = id <;> simp [h]
      rw [hse] at hE
      exact ⟨rfl, (hL.1.mono (by simp)).trans hE.1, hE.2⟩
    clear key hs hr hk hl hcc hc hV h
    go_enter Tryz.func56, Tryz.ntmps56
    go_wp2_with (first
      | (go_at_call 43; refine (hA.out).mono ?_; rintro e w1 ⟨rfl, hk⟩)
      | (go_at_call 48; refine (hO.out _ hk).mono ?_; rintro e w2 ⟨rfl, hE⟩))
    go_ret
    exact ⟨rfl, hE⟩

theorem Close_any {m t tb lb : Nat} {S : MS} {w : World} (h : ModelAt w m t tb lb S) (hV : Valid S) (id : Int) :
    Calls Tryz.prog 33 #[.pointer (some ⟨m, 0, none⟩), .int .i64 id] w fun e w' => e = .returned (.int .i64 (S.out id 21).1) ∧ Ends tb lb w w' m t (S.out id 21).2 := by
  have hO := Lib.hid (out_any h hV id 21 (by decide))
  clear h hV
  go_enter Tryz.func33, Tryz.ntmps33
  go_wp2_with (go_at_call 56; refine (hO.out).mono ?_; rintro e w1 ⟨rfl, hE⟩)
  go_ret
  exact ⟨rfl, hE⟩

theorem Evict_any {m t tb lb : Nat} {S : MS} {w : World} (h : ModelAt w m t tb lb S) (hV : Valid S) (id : Int) :
    Calls Tryz.prog 35 #[.pointer (some ⟨m, 0, none⟩), .int .i64 id] w fun e w' => e = .returned (.int .i64 (S.out id 22).1) ∧ Ends tb lb w w' m t (S.out id 22).2 := by
  have hO := Lib.hid (out_any h hV id 22 (by decide))
  clear h hV
  go_enter Tryz.func35, Tryz.ntmps35
  go_wp2_with (go_at_call 56; refine (hO.out).mono ?_; rintro e w1 ⟨rfl, hE⟩)
  go_ret
  exact ⟨rfl, hE⟩


end Go.Proofs.YthjghcfnopancaaGreat

/-
  Drain of a model: contract.
-/
namespace Go.Proofs.YthjghcfnopancaaGreat
open Go.RowKit Go.Shelf Go.Maps

def St.zero : St := ⟨0, 0, 0, 0, 0, 0, 0⟩
/-- One picture fewer waits. -/
def Kn.less (k : Kn) : Kn := { k with s := { k.s with queued := max (wrap64 (k.s.queued - 1)) 0 } }

set_option maxHeartbeats 800000 in
theorem drain1_empty (k : Kn) (w : World) (h1 : k.s.queued = 0) (h2 : k.s.cause = 0) :
    Calls Tryz.prog 47 #[k.val] w fun e w' => e = .returned (.tuple #[k.val, St.zero.val, .int .i64 16]) ∧ Keeps [] w w' := by
  obtain ⟨a1, x, a2, a3, a4, a5, a6, a7, a8⟩ := k
  simp only at h1 h2
  subst h1; subst h2
  go_enter Tryz.func47, Tryz.ntmps47
  go_wp2
  exact bodyPost_ret (res_cct rfl agg_known agg_status rfl rfl rfl rfl rfl ((Below.heap_alloc _ _ _ (by simp)).trans (heap_new_at _ (by simp))) (heap_new_at _ (by simp))) rfl ⟨rfl, (by repeat (first | exact Keeps.refl _ _ | assumption | refine Keeps.drew ?_ | refine Keeps.drewN ?_ _ | refine Keeps.alloc ?_ _ | refine Keeps.setCell ?_ (by simp <;> omega) _ | refine Keeps.trans ?_ (by assumption)))⟩

set_option maxHeartbeats 800000 in
theorem drain1_yes (k : Kn) (w : World) (h1 : ¬ (k.s.queued = 0 ∧ k.s.cause = 0)) :
    Calls Tryz.prog 47 #[k.val] w fun e w' => e = .returned (.tuple #[k.less.val, k.s.val, .int .i64 0]) ∧ Keeps [] w w' := by
  obtain ⟨a1, x, a2, a3, a4, a5, a6, a7, a8⟩ := k
  simp only at h1
  by_cases hq : a3 = 0
  · have hz : (a2 == 0) = false := by simpa using fun e => h1 ⟨hq, e⟩
    subst hq
    clear h1
    go_enter Tryz.func47, Tryz.ntmps47
    go_wp2
    go_region
    go_wp2
    exact bodyPost_ret (res_cct rfl agg_known agg_status rfl rfl rfl rfl rfl (Keeps.new4 ((Keeps.refl [] _).drew) (by simp) (by simp) (by simp) (by simp)).2.1 (Keeps.new4 ((Keeps.refl [] _).drew) (by simp) (by simp) (by simp) (by simp)).2.2.1) rfl ⟨by simp only [Kn.less, show wrap64 (0 - 1) = -1 from by unfold wrap64; omega]; rfl, (by repeat (first | exact Keeps.refl _ _ | assumption | refine Keeps.drew ?_ | refine Keeps.drewN ?_ _ | refine Keeps.alloc ?_ _ | refine Keeps.setCell ?_ (by simp <;> omega) _ | refine Keeps.trans ?_ (by assumption)))⟩
  · have hz : (a3 == 0) = false := by simpa using hq
    clear h1 hq
    go_enter Tryz.func47, Tryz.ntmps47
    go_wp2
    go_region
    go_wp2
    exact bodyPost_ret (res_cct rfl agg_known agg_status rfl rfl rfl rfl rfl (Keeps.new4 ((Keeps.refl [] _).drew) (by simp) (by simp) (by simp) (by simp)).2.1 (Keeps.new4 ((Keeps.refl [] _).drew) (by simp) (by simp) (by simp) (by simp)).2.2.1) rfl ⟨rfl, (by repeat (first | exact Keeps.refl _ _ | assumption | refine Keeps.drew ?_ | refine Keeps.drewN ?_ _ | refine Keeps.alloc ?_ _ | refine Keeps.setCell ?_ (by simp <;> omega) _ | refine Keeps.trans ?_ (by assumption)))⟩

/-- Drain: where a cause, or pictures, are known, neither is less than nothing. -/
structure Known (S : MS) : Prop where
  queued : ∀ p ∈ S.live, 0 ≤ p.2.s.queued
  frames : ∀ p ∈ S.live, 0 ≤ p.2.s.frames ∧ p.2.s.frames ≤ S.c.quota

theorem over_set {S : MS} (id c : Int) (k : Kn) : (S.set id k).over id c = S.over id c := by
  simp only [MS.over, MS.set, MS.mk.injEq, true_and]
  rw [List.filter_map]
  refine (List.map_congr_left fun p hp => ?_).trans ((List.map_id _).trans ?_)
  · have := (List.mem_filter.1 hp).2
    by_cases h : p.1 = id
    · simp [h] at this
    · simp [h]
  · refine List.filter_congr fun p _ => ?_
    by_cases h : p.1 = id <;> simp [h]

set_option maxHeartbeats 1000000 in
theorem drain_any {m t tb lb : Nat} {S : MS} {w : World} (h : ModelAt w m t tb lb S) (hV : Valid S) (hN : Known S) (id : Int) :
    Calls Tryz.prog 24 #[.pointer (some ⟨m, 0, none⟩), .int .i64 id] w fun e w' => e = .returned (.int .i64 (S.drain id).1) ∧ Ends tb lb w w' m t (S.drain id).2 := by
  rcases hV.cases id with hr | ⟨hr, k, hk, hl, hcc⟩
  · have hs : S.drain id = (refusal S.l id, S) := by simp [MS.drain, hr]
    rw [hs]
    have hA := Lib.hid (askst_refused h hV.s1 id St.zero (.func (.func 47) #[] #[]) hr)
    have hr' : (refusal S.l id == 0) = false := by simpa using hr
    have hr2 : (refusal S.l id != 0) = true := by simpa using hr
    have H := Lib.hid h
    clear hs hr hV h hN
    go_enter Tryz.func24, Tryz.ntmps24
    go_wp2_with (go_at_call 46; refine (hA.out).mono ?_; rintro e w1 ⟨rfl, hk⟩)
    go_ret
    exact ⟨rfl, (Left.same H.out (hk.alloc _)).ends⟩
  · have hg := MS.get_of hV.nodup hk
    by_cases he : k.s.queued = 0 ∧ k.s.cause = 0
    · have hs : S.drain id = (16, S) := by simp [MS.drain, hr, hg, he]
      rw [hs]
      have key : Calls Tryz.prog 46 #[.pointer (some ⟨m, 0, none⟩), .int .i64 id, St.zero.val, .func (.func 47) #[] #[]] w fun e w' =>
          e = .returned (.tuple #[St.zero.val, .int .i64 16]) ∧ Keeps [] w w' := by
        refine (askst_no h hV.s1 id St.zero k hV.nodup hk hcc 47 _ (enters_of Tryz.func47 (by kernel_rfl) rfl) k St.zero 16 (by decide) ?_)
        exact fun w1 _ => drain1_empty k w1 he.1 he.2
      have hA := Lib.hid key
      have H := Lib.hid h
      clear key hs hr hV h hN hk hl hcc hg he
      go_enter Tryz.func24, Tryz.ntmps24
      go_wp2_with (go_at_call 46; refine (hA.out).mono ?_; rintro e w1 ⟨rfl, hk⟩)
      go_ret
      exact ⟨rfl, (Left.same H.out (hk.alloc _)).ends⟩
    · have key : Calls Tryz.prog 46 #[.pointer (some ⟨m, 0, none⟩), .int .i64 id, St.zero.val, .func (.func 47) #[] #[]] w fun e w' =>
          e = .returned (.tuple #[k.s.val, .int .i64 0]) ∧ Left lb w w' m t tb (S.set id k.less) := by
        refine (askst_yes h hV.s1 id St.zero k hV.nodup hk hcc 47 _ (enters_of Tryz.func47 (by kernel_rfl) rfl) k.less k.s ?_).mono ?_
        · exact fun w1 _ => drain1_yes k w1 he
        · rintro e w' ⟨rfl, hk1, hI⟩
          exact ⟨rfl, Left.put h hV hk hk1 hI⟩
      by_cases hq : 0 < k.s.queued
      · have hs : S.drain id = (0, S.set id k.less) := by simp [MS.drain, hr, hg, he, hq, Kn.less]
        rw [hs]
        have hA := Lib.hid key
        generalize k.s = ks at hA hq
        obtain ⟨q0, q1, q2, q3, q4, q5, q6⟩ := ks
        simp only at hq
        clear key hs hr hV hN hk hl hcc hg he
        go_enter Tryz.func24, Tryz.ntmps24
        go_wp2_with (go_at_call 46; refine (hA.out).mono ?_; rintro e w1 ⟨rfl, hk⟩)
        go_ret
        exact ⟨rfl, Left.ends ⟨hk.1.alloc _, hk.2.keep ((Keeps.refl [] _).alloc _) (by simp) (by simp) (by simp) (by simp)⟩⟩
      · have hq0 := hN.queued _ hk
        have hq1 : k.s.queued = 0 := by simp only at hq0; omega
        have hc0 : k.s.cause ≠ 0 := fun e => he ⟨hq1, e⟩
        have hs : S.drain id = (k.s.cause, S.over id k.s.cause) := by
          simp only [MS.drain, hr, ne_eq, not_true_eq_false, if_false, hg, if_neg he, if_neg hq, over_set]
        rw [hs]
        have hA := Lib.hid key
        have hO : Hid (∀ w0 w1, Left lb w0 w1 m t tb (S.set id k.less) → Calls Tryz.prog 48 #[.pointer (some ⟨m, 0, none⟩), .int .i64 id, .int .i64 k.s.cause] w1 fun e w' => e = .returned (.tuple #[]) ∧ Ends tb lb w0 w' m t (S.over id k.s.cause) ∧ Keeps [tb, lb] w1 w') := Lib.hid fun w0 w1 hL => by
          refine (over_any hL.2 (hV.set id k.less) id k.s.cause hc0 hl).mono ?_
          rintro e w' ⟨rfl, hE⟩
          rw [over_set] at hE
          exact ⟨rfl, ⟨(hL.1.mono (by simp)).trans hE.1, hE.2⟩, hE.1⟩
        generalize k.s = ks at hA hq hO
        obtain ⟨q0, q1, q2, q3, q4, q5, q6⟩ := ks
        simp only at hq hO
        clear key hs hr hV hN hk hl hcc hg he hc0 hq1 hq0
        go_enter Tryz.func24, Tryz.ntmps24
        go_wp2_with (first
          | (go_at_call 46; refine (hA.out).mono ?_; rintro e w1 ⟨rfl, hk⟩)
          | (go_at_call 48; refine (hO.out w _ ⟨hk.1.alloc _, hk.2.keep ((Keeps.refl [] _).alloc _) (by simp) (by simp) (by simp) (by simp)⟩).mono ?_; rintro e w2 ⟨rfl, hE, hE2⟩
             have g1 := hk.2.tbl.map.lt
             have g2 := hk.2.live.lt
             have c0 : w2.cell? ⟨w1.heap.size, 0, none⟩ = some (.int .i64 q0) := cellOf (hE2.blk (heap_new w1 _) (by simp; omega)) 0 rfl))
        go_ret
        exact ⟨rfl, hE⟩

end Go.Proofs.YthjghcfnopancaaGreat

/-
  New, Open, Live, Free, Status of a model: contracts.
-/
namespace Go.Proofs.YthjghcfnopancaaGreat
open Go.RowKit Go.Shelf Go.Maps

set_option maxRecDepth 100000 in
set_option maxHeartbeats 1000000 in
theorem opens_full {m t tb lb : Nat} {S : MS} {w : World} (h : ModelAt w m t tb lb S) (hV : Valid S) (hf : S.c.frames < ((S.live.length : Int) + 1) * S.c.quota) :
    Calls Tryz.prog 25 #[.pointer (some ⟨m, 0, none⟩)] w fun e w' => e = .returned (.tuple #[.int .i64 0, .int .i64 15]) ∧ Keeps [] w w' := by
  have c1 : w.cell? ⟨m, 1, none⟩ = some (.int .i64 S.c.frames) := cellOf h.blk 1 rfl
  have c2 : w.cell? ⟨m, 2, none⟩ = some (.int .i64 S.c.quota) := cellOf h.blk 2 rfl
  have c6 : w.cell? ⟨m, 6, none⟩ = some (.map (some lb)) := cellOf h.blk 6 rfl
  have hN := Lib.hid (mnone_at h)
  have hlen : ∀ n, (Builtin.len_ #[54] 3 #[.map (some lb)]).run Tryz.prog (w.drewN n) = .ok (.int .i64 S.live.length) (w.drewN n) := fun n => by
    have := run_len_map (P := Tryz.prog) (ty := 3) Tryz.underlying54 (w := w.drewN n) (⟨h.live.ex⟩ : IMap (w.drewN n) lb (lmap S.live))
    simpa [lmap] using this
  have hl := hlen 1
  have hcnt := hV.count
  have hs := hV.ok.s
  have hq := hV.ok.q
  have hfr := hV.ok.f
  generalize S.c.quota = q at *
  generalize S.c.frames = f at *
  generalize S.live.length = n at *
  have p1 : ((n : Int) + 1) * q ≤ 65 * 64 := by
    have h1 : (n : Int) + 1 ≤ 65 := by omega
    have h2 : q ≤ 64 := by omega
    have h3 : 0 ≤ q := by omega
    calc ((n : Int) + 1) * q ≤ 65 * q := Int.mul_le_mul_of_nonneg_right h1 h3
      _ ≤ 65 * 64 := by omega
  have w1 : IntKind.i64.wrap ((n : Int) + 1) = (n : Int) + 1 := IntWalk.i64_in _ (by omega)
  have w2 : IntKind.i64.wrap (((n : Int) + 1) * q) = ((n : Int) + 1) * q := IntWalk.i64_in _ (by have : 0 ≤ ((n : Int) + 1) * q := Int.mul_nonneg (by omega) (by omega); omega)
  clear h hV hl
  go_enter Tryz.func25, Tryz.ntmps25
  go_wp2_with (go_at_call 39; refine (hN.out).mono ?_; rintro e w' ⟨rfl, rfl⟩)
  go_quiet (fail)
  go_wp2
  go_ret2
  exact ⟨rfl, (by repeat (first | exact Keeps.refl _ _ | assumption | refine Keeps.drew ?_ | refine Keeps.drewN ?_ _ | refine Keeps.alloc ?_ _ | refine Keeps.setCell ?_ (by simp <;> omega) _ | refine Keeps.trans ?_ (by assumption)))⟩

set_option maxRecDepth 100000 in
set_option maxHeartbeats 1000000 in
theorem opens_busy {m t tb lb : Nat} {S : MS} {w : World} (h : ModelAt w m t tb lb S) (hV : Valid S) (hf : ¬ S.c.frames < ((S.live.length : Int) + 1) * S.c.quota) (hb : ((liveIds S.l).length : Int) = S.c.sessions) :
    Calls Tryz.prog 25 #[.pointer (some ⟨m, 0, none⟩)] w fun e w' => e = .returned (.tuple #[.int .i64 0, .int .i64 15]) ∧ Keeps [] w w' := by
  have c5 : w.cell? ⟨m, 5, none⟩ = some (.pointer (some ⟨t, 0, none⟩)) := cellOf h.blk 5 rfl
  have hT : Hid (∀ w', Keeps [] w w' → _) := Lib.hid fun w' (hk : Keeps [] w w') => topen_full (h.tbl.keep hk (by simp) (by simp)) hV.s1 hV.s2 hV.rise hb
  clear hb
  have c1 : w.cell? ⟨m, 1, none⟩ = some (.int .i64 S.c.frames) := cellOf h.blk 1 rfl
  have c2 : w.cell? ⟨m, 2, none⟩ = some (.int .i64 S.c.quota) := cellOf h.blk 2 rfl
  have c6 : w.cell? ⟨m, 6, none⟩ = some (.map (some lb)) := cellOf h.blk 6 rfl
  have hN := Lib.hid (mnone_at h)
  have hlen : ∀ n, (Builtin.len_ #[54] 3 #[.map (some lb)]).run Tryz.prog (w.drewN n) = .ok (.int .i64 S.live.length) (w.drewN n) := fun n => by
    have := run_len_map (P := Tryz.prog) (ty := 3) Tryz.underlying54 (w := w.drewN n) (⟨h.live.ex⟩ : IMap (w.drewN n) lb (lmap S.live))
    simpa [lmap] using this
  have hl := hlen 1
  have hcnt := hV.count
  have hs := hV.ok.s
  have hq := hV.ok.q
  have hfr := hV.ok.f
  generalize S.c.quota = q at *
  generalize S.c.frames = f at *
  generalize S.live.length = n at *
  have p1 : ((n : Int) + 1) * q ≤ 65 * 64 := by
    have h1 : (n : Int) + 1 ≤ 65 := by omega
    have h2 : q ≤ 64 := by omega
    have h3 : 0 ≤ q := by omega
    calc ((n : Int) + 1) * q ≤ 65 * q := Int.mul_le_mul_of_nonneg_right h1 h3
      _ ≤ 65 * 64 := by omega
  have w1 : IntKind.i64.wrap ((n : Int) + 1) = (n : Int) + 1 := IntWalk.i64_in _ (by omega)
  have w2 : IntKind.i64.wrap (((n : Int) + 1) * q) = ((n : Int) + 1) * q := IntWalk.i64_in _ (by have : 0 ≤ ((n : Int) + 1) * q := Int.mul_nonneg (by omega) (by omega); omega)
  clear h hV hl
  go_enter Tryz.func25, Tryz.ntmps25
  go_wp2_with (go_at_call 39; refine (hN.out).mono ?_; rintro e w' ⟨rfl, rfl⟩)
  go_quiet (fail)
  go_wp2_with (go_at_call 49; refine (hT.out _ (by repeat (first | exact Keeps.refl _ _ | assumption | refine Keeps.drew ?_ | refine Keeps.drewN ?_ _ | refine Keeps.alloc ?_ _ | refine Keeps.setCell ?_ (by simp <;> omega) _ | refine Keeps.trans ?_ (by assumption)))).mono ?_; rintro e w3 ⟨rfl, hk⟩)
  go_ret2
  exact ⟨rfl, (by repeat (first | exact Keeps.refl _ _ | assumption | refine Keeps.drew ?_ | refine Keeps.drewN ?_ _ | refine Keeps.alloc ?_ _ | refine Keeps.setCell ?_ (by simp <;> omega) _ | refine Keeps.trans ?_ (by assumption)))⟩

set_option maxRecDepth 100000 in
set_option maxHeartbeats 1000000 in
theorem opens_yes {m t tb lb : Nat} {S : MS} {w : World} (h : ModelAt w m t tb lb S) (hV : Valid S) (hf : ¬ S.c.frames < ((S.live.length : Int) + 1) * S.c.quota) (hb : ((liveIds S.l).length : Int) < S.c.sessions) (hlim : S.l.length < 1000) :
    Calls Tryz.prog 25 #[.pointer (some ⟨m, 0, none⟩)] w fun e w' => e = .returned (.tuple #[.int .i64 (S.last + 1), .int .i64 0]) ∧ Keeps [t, tb, lb] w w' ∧ ModelAt w' m t tb lb S.more := by
  have c5 : w.cell? ⟨m, 5, none⟩ = some (.pointer (some ⟨t, 0, none⟩)) := cellOf h.blk 5 rfl
  have hlast := hV.last
  have hT : Hid (∀ w', Keeps [] w w' → _) := Lib.hid fun w' (hk : Keeps [] w w') => topen_yes (h.tbl.keep hk (by simp) (by simp)) hV.s1 hV.s2 hV.rise hb (by omega) (by omega) (fun p hp => (hV.bound p hp).2)
  have H := Lib.hid h
  have e1 := map_ne h.blk h.tbl.map
  have e2 := map_ne h.blk h.live
  have e3 := map_ne h.tbl.blk h.live
  have e4 : m ≠ t := by intro e; have h1 := h.blk; rw [e, h.tbl.blk] at h1; simp at h1
  have hput : Hid (put (lmap S.live) (S.last + 1) (.agg #[.int .i64 0, .bool false, .int .i64 0, .int .i64 0, .int .i64 0, .int .i64 S.c.room, .int .i64 0, .int .i64 0, .int .i64 0]) = lmap S.more.live) := Lib.hid (by
    rw [put_new]
    · simp [lmap, MS.more]
    · intro p hp e
      obtain ⟨q, hq, rfl⟩ := List.mem_map.1 hp
      have hm : q.1 ∈ liveIds S.l := by rw [← hV.live]; exact List.mem_map.2 ⟨q, hq, rfl⟩
      obtain ⟨r, hr, hr2⟩ := List.mem_map.1 hm
      have := (hV.bound r (List.mem_filter.1 hr).1).2
      simp only at e; omega)
  clear hb hlim hlast
  have c1 : w.cell? ⟨m, 1, none⟩ = some (.int .i64 S.c.frames) := cellOf h.blk 1 rfl
  have c2 : w.cell? ⟨m, 2, none⟩ = some (.int .i64 S.c.quota) := cellOf h.blk 2 rfl
  have c6 : w.cell? ⟨m, 6, none⟩ = some (.map (some lb)) := cellOf h.blk 6 rfl
  have hN := Lib.hid (mnone_at h)
  have hlen : ∀ n, (Builtin.len_ #[54] 3 #[.map (some lb)]).run Tryz.prog (w.drewN n) = .ok (.int .i64 S.live.length) (w.drewN n) := fun n => by
    have := run_len_map (P := Tryz.prog) (ty := 3) Tryz.underlying54 (w := w.drewN n) (⟨h.live.ex⟩ : IMap (w.drewN n) lb (lmap S.live))
    simpa [lmap] using this
  have hl := hlen 1
  have hcnt := hV.count
  have hs := hV.ok.s
  have hq := hV.ok.q
  have hfr := hV.ok.f
  generalize S.c.quota = q at *
  generalize S.c.frames = f at *
  generalize S.live.length = n at *
  have p1 : ((n : Int) + 1) * q ≤ 65 * 64 := by
    have h1 : (n : Int) + 1 ≤ 65 := by omega
    have h2 : q ≤ 64 := by omega
    have h3 : 0 ≤ q := by omega
    calc ((n : Int) + 1) * q ≤ 65 * q := Int.mul_le_mul_of_nonneg_right h1 h3
      _ ≤ 65 * 64 := by omega
  have w1 : IntKind.i64.wrap ((n : Int) + 1) = (n : Int) + 1 := IntWalk.i64_in _ (by omega)
  have w2 : IntKind.i64.wrap (((n : Int) + 1) * q) = ((n : Int) + 1) * q := IntWalk.i64_in _ (by have : 0 ≤ ((n : Int) + 1) * q := Int.mul_nonneg (by omega) (by omega); omega)
  clear h hV hl
  go_enter Tryz.func25, Tryz.ntmps25
  go_wp2_with (go_at_call 39; refine (hN.out).mono ?_; rintro e w' ⟨rfl, rfl⟩)
  go_quiet (fail)
  go_wp2_with (first
    | (go_at_call 49; refine (hT.out _ (by repeat (first | exact Keeps.refl _ _ | assumption | refine Keeps.drew ?_ | refine Keeps.drewN ?_ _ | refine Keeps.alloc ?_ _ | refine Keeps.setCell ?_ (by simp <;> omega) _ | refine Keeps.trans ?_ (by assumption)))).mono ?_; rintro e w3 ⟨rfl, hk, hT3⟩
       have hk3 : Keeps [t, tb] w w3 := (Keeps.drewN (Keeps.refl _ _) _).trans hk
       have hbk := Lib.hid (hk3.blk H.out.blk (by simp; exact ⟨e4, e1⟩))
       have k6 : w3.cell? ⟨m, 6, none⟩ = some (.map (some lb)) := cellOf hbk.out 6 rfl
       have k3 : w3.cell? ⟨m, 3, none⟩ = some (.int .i64 S.c.room) := cellOf hbk.out 3 rfl
       have hI := (H.out.live.keep hk3 (by simp; exact ⟨fun e => e3 e.symm, fun e => H.out.ne e.symm⟩)).drew
       obtain ⟨w4, hrun, hM, hk4⟩ := run_update (P := Tryz.prog) Tryz.underlying54 Tryz.underlying3 hI (S.last + 1) (.agg #[.int .i64 0, .bool false, .int .i64 0, .int .i64 0, .int .i64 0, .int .i64 S.c.room, .int .i64 0, .int .i64 0, .int .i64 0])
       have hM' := Lib.hid hM
       have hT4 := Lib.hid hT3
       clear hI hM hT3))
  go_region
  go_wp2
  go_ret2
  have hK : Keeps [t, tb, lb] w w4 := ((hk3.mono (by simp)).drew).trans (hk4.mono (by simp))
  have hM2 := hM'.out
  rw [hput.out] at hM2
  exact ⟨rfl, hK, hK.blk H.out.blk (by simp; exact ⟨e4, e1, e2⟩), ⟨hk4.blk hT4.out.blk (by simpa using e3), hT4.out.map.drew.keep hk4 (by simpa using H.out.ne)⟩, hM2, H.out.ne⟩

end Go.Proofs.YthjghcfnopancaaGreat

/-
  New, Live, Free, Status, See of a model: contracts.
-/
namespace Go.Proofs.YthjghcfnopancaaGreat
open Go.RowKit Go.Shelf Go.Maps

abbrev Cf.val (c : Cf) : Value := .agg #[.int .i64 c.sessions, .int .i64 c.frames, .int .i64 c.quota, .int .i64 c.room, .int .i64 c.slots]

theorem Cf.not_ok {c : Cf} (h : ¬ c.ok) : ¬ (1 ≤ c.frames ∧ c.frames ≤ 64) ∨ ((1 ≤ c.frames ∧ c.frames ≤ 64) ∧ ¬ (2 ≤ c.quota ∧ c.quota ≤ c.frames)) ∨
    ((1 ≤ c.frames ∧ c.frames ≤ 64) ∧ (2 ≤ c.quota ∧ c.quota ≤ c.frames) ∧ ¬ (1024 ≤ c.room ∧ c.room ≤ 1048576)) ∨
    ((1 ≤ c.frames ∧ c.frames ≤ 64) ∧ (2 ≤ c.quota ∧ c.quota ≤ c.frames) ∧ (1024 ≤ c.room ∧ c.room ≤ 1048576) ∧ ¬ (1 ≤ c.slots ∧ c.slots ≤ 1000)) ∨
    ((1 ≤ c.frames ∧ c.frames ≤ 64) ∧ (2 ≤ c.quota ∧ c.quota ≤ c.frames) ∧ (1024 ≤ c.room ∧ c.room ≤ 1048576) ∧ (1 ≤ c.slots ∧ c.slots ≤ 1000) ∧ (c.sessions < 1 ∨ 64 < c.sessions)) := by
  by_cases h1 : 1 ≤ c.frames ∧ c.frames ≤ 64
  · by_cases h2 : 2 ≤ c.quota ∧ c.quota ≤ c.frames
    · by_cases h3 : 1024 ≤ c.room ∧ c.room ≤ 1048576
      · by_cases h4 : 1 ≤ c.slots ∧ c.slots ≤ 1000
        · refine .inr (.inr (.inr (.inr ⟨h1, h2, h3, h4, ?_⟩)))
          by_cases h5 : 1 ≤ c.sessions ∧ c.sessions ≤ 64
          · exact absurd ⟨h5, h1, h2, h3, h4⟩ h
          · omega
        · exact .inr (.inr (.inr (.inl ⟨h1, h2, h3, h4⟩)))
      · exact .inr (.inr (.inl ⟨h1, h2, h3⟩))
    · exact .inr (.inl ⟨h1, h2⟩)
  · exact .inl h1

set_option maxRecDepth 100000 in
set_option maxHeartbeats 1000000 in
theorem new_no (c : Cf) (w : World) (h : ¬ c.ok) :
    Calls Tryz.prog 4 #[c.val] w fun e w' => e = .returned (.tuple #[.pointer none, .int .i64 3]) ∧ Keeps [] w w' := by
  rcases Cf.not_ok h with h1 | ⟨h1, h2⟩ | ⟨h1, h2, h3⟩ | ⟨h1, h2, h3, h4⟩ | ⟨h1, h2, h3, h4, h5⟩
  · obtain ⟨s, f, q, r, o⟩ := c
    simp only at *
    have d1 := decide_eq_false h1
    clear h h1
    go_enter Tryz.func4, Tryz.ntmps4
    go_wp2_with (first
      | (go_at_call 16; refine (within_any _ _ _ _).mono ?_; rintro e w' ⟨rfl, rfl⟩)
      | (go_at_call 17; refine (hT _).mono ?_; rintro e w' ⟨rfl, rfl⟩))
    go_ret2
    exact ⟨rfl, (by repeat (first | exact Keeps.refl _ _ | assumption | refine Keeps.drew ?_ | refine Keeps.drewN ?_ _ | refine Keeps.alloc ?_ _ | refine Keeps.setCell ?_ (by simp <;> omega) _ | refine Keeps.trans ?_ (by assumption)))⟩
  · obtain ⟨s, f, q, r, o⟩ := c
    simp only at *
    have d1 := decide_eq_true h1;   have d2 := decide_eq_false h2
    clear h h1 h2
    go_enter Tryz.func4, Tryz.ntmps4
    go_wp2_with (first
      | (go_at_call 16; refine (within_any _ _ _ _).mono ?_; rintro e w' ⟨rfl, rfl⟩)
      | (go_at_call 17; refine (hT _).mono ?_; rintro e w' ⟨rfl, rfl⟩))
    go_ret2
    exact ⟨rfl, (by repeat (first | exact Keeps.refl _ _ | assumption | refine Keeps.drew ?_ | refine Keeps.drewN ?_ _ | refine Keeps.alloc ?_ _ | refine Keeps.setCell ?_ (by simp <;> omega) _ | refine Keeps.trans ?_ (by assumption)))⟩
  · obtain ⟨s, f, q, r, o⟩ := c
    simp only at *
    have d1 := decide_eq_true h1;   have d2 := decide_eq_true h2; have d3 := decide_eq_false h3
    clear h h1 h2 h3
    go_enter Tryz.func4, Tryz.ntmps4
    go_wp2_with (first
      | (go_at_call 16; refine (within_any _ _ _ _).mono ?_; rintro e w' ⟨rfl, rfl⟩)
      | (go_at_call 17; refine (hT _).mono ?_; rintro e w' ⟨rfl, rfl⟩))
    go_ret2
    exact ⟨rfl, (by repeat (first | exact Keeps.refl _ _ | assumption | refine Keeps.drew ?_ | refine Keeps.drewN ?_ _ | refine Keeps.alloc ?_ _ | refine Keeps.setCell ?_ (by simp <;> omega) _ | refine Keeps.trans ?_ (by assumption)))⟩
  · obtain ⟨s, f, q, r, o⟩ := c
    simp only at *
    have d1 := decide_eq_true h1;   have d2 := decide_eq_true h2; have d3 := decide_eq_true h3; have d4 := decide_eq_false h4
    clear h h1 h2 h3 h4
    go_enter Tryz.func4, Tryz.ntmps4
    go_wp2_with (first
      | (go_at_call 16; refine (within_any _ _ _ _).mono ?_; rintro e w' ⟨rfl, rfl⟩)
      | (go_at_call 17; refine (hT _).mono ?_; rintro e w' ⟨rfl, rfl⟩))
    go_ret2
    exact ⟨rfl, (by repeat (first | exact Keeps.refl _ _ | assumption | refine Keeps.drew ?_ | refine Keeps.drewN ?_ _ | refine Keeps.alloc ?_ _ | refine Keeps.setCell ?_ (by simp <;> omega) _ | refine Keeps.trans ?_ (by assumption)))⟩
  · obtain ⟨s, f, q, r, o⟩ := c
    simp only at *
    have d1 := decide_eq_true h1;   have d2 := decide_eq_true h2; have d3 := decide_eq_true h3; have d4 := decide_eq_true h4; have hT := fun w => tnew_no s w h5
    clear h h1 h2 h3 h4 h5
    go_enter Tryz.func4, Tryz.ntmps4
    go_wp2_with (first
      | (go_at_call 16; refine (within_any _ _ _ _).mono ?_; rintro e w' ⟨rfl, rfl⟩)
      | (go_at_call 17; refine (hT _).mono ?_; rintro e w' ⟨rfl, rfl⟩))
    go_ret2
    exact ⟨rfl, (by repeat (first | exact Keeps.refl _ _ | assumption | refine Keeps.drew ?_ | refine Keeps.drewN ?_ _ | refine Keeps.alloc ?_ _ | refine Keeps.setCell ?_ (by simp <;> omega) _ | refine Keeps.trans ?_ (by assumption)))⟩

/-- A model that was just made. -/
def MS.fresh (c : Cf) : MS := { c, last := 0, l := [], live := [] }

theorem Valid.fresh {c : Cf} (h : c.ok) : Valid (MS.fresh c) :=
  ⟨h, by simp [MS.fresh, liveIds]; have := h.s; omega, ⟨by simp [MS.fresh], by simp [MS.fresh], by simp [MS.fresh]⟩, rfl, by simp [MS.fresh], by simp [MS.fresh], by simp [MS.fresh, liveIds]⟩

set_option maxRecDepth 100000 in
set_option maxHeartbeats 1000000 in
theorem new_yes (c : Cf) (w : World) (h : c.ok) :
    Calls Tryz.prog 4 #[c.val] w fun e w' => ∃ m t tb lb, e = .returned (.tuple #[.pointer (some ⟨m, 0, none⟩), .int .i64 0]) ∧ Keeps [] w w' ∧ ModelAt w' m t tb lb (MS.fresh c) ∧ w.heap.size ≤ m ∧ w.heap.size ≤ t ∧ w.heap.size ≤ tb ∧ w.heap.size ≤ lb := by
  obtain ⟨s, f, q, r, o⟩ := c
  obtain ⟨h5, h1, h2, h3, h4⟩ := h
  simp only at *
  have d1 := decide_eq_true h1
  have d2 := decide_eq_true h2
  have d3 := decide_eq_true h3
  have d4 := decide_eq_true h4
  have hmm := @run_makeMap Tryz.prog
  have hT := fun w => tnew_yes s w h5.1 h5.2
  clear h1 h2 h3 h4 h5
  go_enter Tryz.func4, Tryz.ntmps4
  go_wp2_with (first
    | (go_at_call 16; refine (within_any _ _ _ _).mono ?_; rintro e w' ⟨rfl, rfl⟩)
    | (go_at_call 17; refine (hT _).mono ?_; rintro e w1 ⟨t, tb, rfl, hk, ht, htb, hT1⟩
       obtain ⟨b0, hk⟩ := hk.new1 (by simp)
       obtain ⟨c0, c1, c2, c3, c4⟩ := cells5 b0))
  go_ret2
  have hk2 : Keeps [] w1 ((w1.alloc (.map #[] 0)).alloc (.cells #[.int .i64 s, .int .i64 f, .int .i64 q, .int .i64 r, .int .i64 o, .pointer (some ⟨t, 0, none⟩), .map (some w1.heap.size)] 56)) := ((Keeps.refl _ _).alloc _).alloc _
  have hs := hk.size
  have htlt := hT1.map.lt
  simp at ht htb
  refine ⟨_, t, tb, w1.heap.size, rfl, hk.trans hk2, ⟨heap_new_at _ (by simp), hT1.keep hk2 (by simp) (by simp), (IMap.made w1).alloc _, by omega⟩, by omega, by omega, by omega, by omega⟩

set_option maxHeartbeats 400000 in
theorem mlive_any {m t tb lb : Nat} {S : MS} {w : World} (h : ModelAt w m t tb lb S) (hV : Valid S) :
    Calls Tryz.prog 10 #[.pointer (some ⟨m, 0, none⟩)] w fun e w' => ∃ v, e = .returned v ∧ w'.ownsRow w.heap.size 3 1 v (liveIds S.l).length ((liveIds S.l).map (Value.int .i64)) ∧
      (v = .slice none 0 0 ↔ liveIds S.l = []) ∧ Keeps [] w w' := by
  have c5 : w.cell? ⟨m, 5, none⟩ = some (.pointer (some ⟨t, 0, none⟩)) := cellOf h.blk 5 rfl
  have hN := Lib.hid (mnone_at h)
  have hL := Lib.hid (live_any h.tbl hV.s1 hV.rise)
  clear h hV
  go_enter Tryz.func10, Tryz.ntmps10
  go_wp2_with (first
    | (go_at_call 39; refine (hN.out).mono ?_; rintro e w' ⟨rfl, rfl⟩)
    | (go_at_call 42; refine (hL.out).mono ?_; rintro e w' ⟨v, rfl, hr⟩; have Hr := Lib.hid hr; clear hr))
  go_ret
  exact ⟨v, rfl, Hr.out⟩

end Go.Proofs.YthjghcfnopancaaGreat
