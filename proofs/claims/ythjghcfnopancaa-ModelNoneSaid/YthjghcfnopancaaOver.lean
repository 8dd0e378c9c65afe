/-
  End, Close, Evict, Drain of a model: contracts.
-/
import Derived.Test.YthjghcfnopancaaFeed
namespace Go.Proofs.Ythjghcfnopancaa
open Go.RowKit Go.Shelf Go.Maps

set_option maxHeartbeats 400000 in
theorem end1_no (k : Kn) (w : World) (he : k.ended = true) :
    Calls Try.prog 28 #[k.val] w fun e w' => e = .returned (.tuple #[k.val, .int .i64 0, .int .i64 20]) ∧ Keeps [] w w' := by
  obtain ⟨a1, x, a2, a3, a4, a5, a6, a7, a8⟩ := k
  simp only at he
  subst he
  go_enter Try.func28, Try.ntmps28
  go_wp2
  exact bodyPost_ret (res_ctt rfl agg_known rfl rfl rfl rfl (heap_new_at _ (by simp))) rfl ⟨rfl, (by repeat (first | exact Keeps.refl _ _ | assumption | refine Keeps.drew ?_ | refine Keeps.drewN ?_ _ | refine Keeps.alloc ?_ _ | refine Keeps.setCell ?_ (by simp <;> omega) _ | refine Keeps.trans ?_ (by assumption)))⟩

set_option maxHeartbeats 400000 in
theorem end1_yes (k : Kn) (w : World) (he : k.ended = false) :
    Calls Try.prog 28 #[k.val] w fun e w' => e = .returned (.tuple #[({ k with ended := true } : Kn).val, .int .i64 0, .int .i64 0]) ∧ Keeps [] w w' := by
  obtain ⟨a1, x, a2, a3, a4, a5, a6, a7, a8⟩ := k
  simp only at he
  subst he
  go_enter Try.func28, Try.ntmps28
  go_wp2
  exact bodyPost_ret (res_ctt rfl agg_known rfl rfl rfl rfl (heap_new_at _ (by simp))) rfl ⟨rfl, (by repeat (first | exact Keeps.refl _ _ | assumption | refine Keeps.drew ?_ | refine Keeps.drewN ?_ _ | refine Keeps.alloc ?_ _ | refine Keeps.setCell ?_ (by simp <;> omega) _ | refine Keeps.trans ?_ (by assumption)))⟩

set_option maxHeartbeats 800000 in
theorem stop_any {m t tb lb : Nat} {S : MS} {w : World} (h : ModelAt w m t tb lb S) (hV : Valid S) (id : Int) :
    Calls Try.prog 10 #[.pointer (some ⟨m, 0, none⟩), .int .i64 id] w fun e w' => e = .returned (.int .i64 (S.stop id).1) ∧ Left lb w w' m t tb (S.stop id).2 := by
  have key : Calls Try.prog 24 #[.pointer (some ⟨m, 0, none⟩), .int .i64 id, .int .i64 0, .func (.func 28) #[] #[]] w fun e w' =>
      e = .returned (.tuple #[.int .i64 0, .int .i64 (S.stop id).1]) ∧ Left lb w w' m t tb (S.stop id).2 := by
    rcases hV.cases id with hr | ⟨hr, k, hk, -, hc⟩
    · have hs : S.stop id = (refusal S.l id, S) := by simp [MS.stop, hr]
      refine (askint_refused h hV.s1 id 0 _ hr).mono ?_
      rintro e w' ⟨rfl, hk1⟩
      exact ⟨by rw [hs], by rw [hs]; exact Left.same h hk1⟩
    · have hg := MS.get_of hV.nodup hk
      by_cases he : k.ended = true
      · have hs : S.stop id = (20, S) := by simp [MS.stop, hr, hg, he]
        refine (askint_no h hV.s1 id 0 k hV.nodup hk hc 28 _ (enters_of Try.func28 (by kernel_rfl) rfl) k 0 20 (by decide) ?_).mono ?_
        · exact fun w1 _ => end1_no k w1 he
        rintro e w' ⟨rfl, hk1⟩
        exact ⟨by rw [hs], by rw [hs]; exact Left.same h hk1⟩
      · have he' : k.ended = false := by simpa using he
        have hs : S.stop id = (0, S.set id { k with ended := true }) := by simp [MS.stop, hr, hg, he']
        refine (askint_yes h hV.s1 id 0 k hV.nodup hk hc 28 _ (enters_of Try.func28 (by kernel_rfl) rfl) { k with ended := true } 0 ?_).mono ?_
        · exact fun w1 _ => end1_yes k w1 he'
        rintro e w' ⟨rfl, hk1, hI⟩
        exact ⟨by rw [hs], by rw [hs]; exact Left.put h hV hk hk1 hI⟩
  have HK := Lib.hid key
  clear key hV h
  go_enter Try.func10, Try.ntmps10
  go_wp2_with (go_at_call 24; refine (HK.out).mono ?_; rintro e w1 ⟨rfl, hk⟩)
  go_ret
  exact ⟨rfl, hk⟩

set_option maxHeartbeats 400000 in
theorem out1_any (k : Kn) (w : World) :
    Calls Try.prog 40 #[k.val] w fun e w' => e = .returned (.tuple #[k.val, .int .i64 0, .int .i64 0]) ∧ Keeps [] w w' := by
  obtain ⟨a1, x, a2, a3, a4, a5, a6, a7, a8⟩ := k
  go_enter Try.func40, Try.ntmps40
  go_wp2
  exact bodyPost_ret (res_ctt rfl agg_known rfl rfl rfl rfl (heap_new_at _ (by simp))) rfl ⟨rfl, (by repeat (first | exact Keeps.refl _ _ | assumption | refine Keeps.drew ?_ | refine Keeps.drewN ?_ _ | refine Keeps.alloc ?_ _ | refine Keeps.setCell ?_ (by simp <;> omega) _ | refine Keeps.trans ?_ (by assumption)))⟩

/-- What a call that ends a number leaves. -/
def Ends (tb lb : Nat) (w w' : World) (m t : Nat) (S : MS) : Prop := Keeps [tb, lb] w w' ∧ ModelAt w' m t tb lb S
theorem Left.ends {lb : Nat} {w w' : World} {m t tb : Nat} {S : MS} (h : Left lb w w' m t tb S) : Ends tb lb w w' m t S := ⟨h.1.mono (by simp), h.2⟩

set_option maxHeartbeats 800000 in
theorem over_any {m t tb lb : Nat} {S : MS} {w : World} (h : ModelAt w m t tb lb S) (hV : Valid S) (id c : Int) (hc : c ≠ 0) (hl : (id, 0) ∈ S.l) :
    Calls Try.prog 32 #[.pointer (some ⟨m, 0, none⟩), .int .i64 id, .int .i64 c] w fun e w' => e = .returned (.tuple #[]) ∧ Ends tb lb w w' m t (S.over id c) := by
  have c5 : w.cell? ⟨m, 5, none⟩ = some (.pointer (some ⟨t, 0, none⟩)) := cellOf h.blk 5 rfl
  have hE := Lib.hid (tend_live h.tbl hV.s1 hV.rise.nodup id c hc hl)
  have h1 := map_ne h.blk h.tbl.map
  have h2 := map_ne h.blk h.live
  have h3 := map_ne h.tbl.blk h.live
  have hd := Lib.hid (del_lmap (id := id) hV.nodup)
  have H := Lib.hid h
  clear h hV hc hl
  go_enter Try.func32, Try.ntmps32
  go_wp2_with (first
    | (go_at_call 41; refine (hE.out).mono ?_; clear hE; rintro e w1 ⟨rfl, hk, hT⟩
       have hb := Lib.hid (hk.blk H.out.blk (by simpa using h1))
       have c6 : w1.cell? ⟨m, 6, none⟩ = some (.map (some lb)) := cellOf hb.out 6 rfl
       have hL := H.out.live.keep hk (by simpa using fun e => H.out.ne e.symm)
       obtain ⟨w2, hr, hM, hk2⟩ := run_delete (P := Try.prog) (ty := 0) (ts := #[47, 3]) Try.underlying47 Try.underlying3 hL id rfl
       have hT' := Lib.hid hT
       clear hT))
  go_end0
  rw [hd.out] at hM
  have hK : Keeps [tb, lb] w w2 := (hk.mono (by simp)).trans (hk2.mono (by simp))
  have h4 := H.out.ne
  exact ⟨rfl, hK, hK.blk H.out.blk (by simp; exact ⟨h1, h2⟩), hT'.out.keep hk2 (by simpa using h3) (by simpa using h4), hM, h4⟩

set_option maxHeartbeats 800000 in
theorem out_any {m t tb lb : Nat} {S : MS} {w : World} (h : ModelAt w m t tb lb S) (hV : Valid S) (id c : Int) (hc : c ≠ 0) :
    Calls Try.prog 29 #[.pointer (some ⟨m, 0, none⟩), .int .i64 id, .int .i64 c] w fun e w' => e = .returned (.int .i64 (S.out id c).1) ∧ Ends tb lb w w' m t (S.out id c).2 := by
  rcases hV.cases id with hr | ⟨hr, k, hk, hl, hcc⟩
  · have hs : S.out id c = (refusal S.l id, S) := by simp [MS.out, hr]
    rw [hs]
    have hA := Lib.hid (askint_refused h hV.s1 id 0 (.func (.func 40) #[] #[]) hr)
    have hr' : (refusal S.l id == 0) = false := by simpa using hr
    have H := Lib.hid h
    clear hs hr hc hV h
    go_enter Try.func29, Try.ntmps29
    go_wp2_with (go_at_call 24; refine (hA.out).mono ?_; rintro e w1 ⟨rfl, hk⟩)
    go_ret
    exact ⟨rfl, (Left.same H.out hk).ends⟩
  · have hs : S.out id c = (0, S.over id c) := by simp [MS.out, hr]
    rw [hs]
    have key : Calls Try.prog 24 #[.pointer (some ⟨m, 0, none⟩), .int .i64 id, .int .i64 0, .func (.func 40) #[] #[]] w fun e w' =>
        e = .returned (.tuple #[.int .i64 0, .int .i64 0]) ∧ Left lb w w' m t tb (S.set id k) := by
      refine (askint_yes h hV.s1 id 0 k hV.nodup hk hcc 40 _ (enters_of Try.func40 (by kernel_rfl) rfl) k 0 ?_).mono ?_
      · exact fun w1 _ => out1_any k w1
      · rintro e w' ⟨rfl, hk1, hI⟩
        exact ⟨rfl, Left.put h hV hk hk1 hI⟩
    have hA := Lib.hid key
    have hO : Hid (∀ w1, Left lb w w1 m t tb (S.set id k) → Calls Try.prog 32 #[.pointer (some ⟨m, 0, none⟩), .int .i64 id, .int .i64 c] w1 fun e w' => e = .returned (.tuple #[]) ∧ Ends tb lb w w' m t (S.over id c)) := Lib.hid fun w1 hL => by
      refine (over_any hL.2 (hV.set id k) id c hc hl).mono ?_
      rintro e w' ⟨rfl, hE⟩
      have hse : (S.set id k).over id c = S.over id c := by
        simp only [MS.over, MS.set, MS.mk.injEq, true_and]
        rw [List.filter_map]
        refine (List.map_congr_left fun p hp => ?_).trans ((List.map_id _).trans ?_)
        · have := (List.mem_filter.1 hp).2
          by_cases h : p.1 = id
          · simp [h] at this
          · simp [h]
        · refine List.filter_congr fun p _ => ?_
          by_cases h : p.1 = id <;> simp [h]
      rw [hse] at hE
      exact ⟨rfl, (hL.1.mono (by simp)).trans hE.1, hE.2⟩
    clear key hs hr hk hl hcc hc hV h
    go_enter Try.func29, Try.ntmps29
    go_wp2_with (first
      | (go_at_call 24; refine (hA.out).mono ?_; rintro e w1 ⟨rfl, hk⟩)
      | (go_at_call 32; refine (hO.out _ hk).mono ?_; rintro e w2 ⟨rfl, hE⟩))
    go_ret
    exact ⟨rfl, hE⟩

theorem Close_any {m t tb lb : Nat} {S : MS} {w : World} (h : ModelAt w m t tb lb S) (hV : Valid S) (id : Int) :
    Calls Try.prog 11 #[.pointer (some ⟨m, 0, none⟩), .int .i64 id] w fun e w' => e = .returned (.int .i64 (S.out id 21).1) ∧ Ends tb lb w w' m t (S.out id 21).2 := by
  have hO := Lib.hid (out_any h hV id 21 (by decide))
  clear h hV
  go_enter Try.func11, Try.ntmps11
  go_wp2_with (go_at_call 29; refine (hO.out).mono ?_; rintro e w1 ⟨rfl, hE⟩)
  go_ret
  exact ⟨rfl, hE⟩

theorem Evict_any {m t tb lb : Nat} {S : MS} {w : World} (h : ModelAt w m t tb lb S) (hV : Valid S) (id : Int) :
    Calls Try.prog 23 #[.pointer (some ⟨m, 0, none⟩), .int .i64 id] w fun e w' => e = .returned (.int .i64 (S.out id 22).1) ∧ Ends tb lb w w' m t (S.out id 22).2 := by
  have hO := Lib.hid (out_any h hV id 22 (by decide))
  clear h hV
  go_enter Try.func23, Try.ntmps23
  go_wp2_with (go_at_call 29; refine (hO.out).mono ?_; rintro e w1 ⟨rfl, hE⟩)
  go_ret
  exact ⟨rfl, hE⟩


end Go.Proofs.Ythjghcfnopancaa
