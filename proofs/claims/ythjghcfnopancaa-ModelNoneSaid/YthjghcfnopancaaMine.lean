/-
  A model of the caller's own, and what each call makes of it.
-/
import Derived.Test.YthjghcfnopancaaSeeM
import Derived.Test.YthjghcfnopancaaFree
namespace Go.Proofs.Ythjghcfnopancaa
open Go.RowKit Go.Shelf Go.Maps

theorem Known.set {S : MS} (h : Known S) (id : Int) (k : Kn) (h1 : 0 ≤ k.s.queued) (h2 : 0 ≤ k.s.frames ∧ k.s.frames ≤ S.c.quota) : Known (S.set id k) := by
  constructor <;>
  · intro p hp
    simp only [MS.set, List.mem_map] at hp
    obtain ⟨q, hq, rfl⟩ := hp
    by_cases e : q.1 = id
    · simp [e, MS.set]; first | exact h1 | exact h2
    · simp [e, MS.set]; first | exact h.queued q hq | exact h.frames q hq
theorem Known.over {S : MS} (h : Known S) (id c : Int) : Known (S.over id c) :=
  ⟨fun p hp => h.queued p (List.mem_filter.1 hp).1, fun p hp => h.frames p (List.mem_filter.1 hp).1⟩

theorem MS.get_mem {S : MS} {id : Int} {k : Kn} (h : S.get id = some k) : (id, k) ∈ S.live := by
  unfold MS.get at h
  obtain ⟨p, hp, rfl⟩ := Option.map_eq_some_iff.1 h
  have h1 := List.mem_of_find?_eq_some hp
  have h2 : p.1 = id := by simpa using List.find?_some hp
  rw [← h2]; exact h1

theorem keep_feed {S : MS} (hV : Valid S) (hN : Known S) (id n : Int) : Valid (S.feed id n).2.2 ∧ Known (S.feed id n).2.2 := by
  unfold MS.feed
  split
  · exact ⟨hV, hN⟩
  · split
    · exact ⟨hV, hN⟩
    · rename_i k hk
      have hm := MS.get_mem hk
      split
      · exact ⟨hV, hN⟩
      · split
        · exact ⟨hV, hN⟩
        · exact ⟨hV.set _ _, hN.set _ _ (hN.queued _ hm) (hN.frames _ hm)⟩

theorem keep_stop {S : MS} (hV : Valid S) (hN : Known S) (id : Int) : Valid (S.stop id).2 ∧ Known (S.stop id).2 := by
  unfold MS.stop
  split
  · exact ⟨hV, hN⟩
  · split
    · exact ⟨hV, hN⟩
    · rename_i k hk
      have hm := MS.get_mem hk
      split
      · exact ⟨hV, hN⟩
      · exact ⟨hV.set _ _, hN.set _ _ (hN.queued _ hm) (hN.frames _ hm)⟩

theorem keep_see {S : MS} (hV : Valid S) (hN : Known S) (id : Int) (s : St) : Valid (S.see id s).2 ∧ Known (S.see id s).2 := by
  unfold MS.see
  split
  · exact ⟨hV, hN⟩
  · split
    · exact ⟨hV, hN⟩
    · rename_i k hk
      split
      · rename_i hm
        simp only [Kn.may, Bool.and_eq_true, decide_eq_true_eq] at hm
        obtain ⟨⟨⟨⟨⟨h1, h2⟩, h3⟩, h4⟩, h5⟩, h6⟩ := hm
        exact ⟨hV.set _ _, hN.set _ _ h3.1 h4⟩
      · exact ⟨hV, hN⟩

theorem keep_out {S : MS} (hV : Valid S) (hN : Known S) (id c : Int) (hc : c ≠ 0) : Valid (S.out id c).2 ∧ Known (S.out id c).2 := by
  unfold MS.out
  split
  · exact ⟨hV, hN⟩
  · exact ⟨hV.over _ _ hc, hN.over _ _⟩

theorem keep_drain {S : MS} (hV : Valid S) (hN : Known S) (id : Int) : Valid (S.drain id).2 ∧ Known (S.drain id).2 := by
  unfold MS.drain
  split
  · exact ⟨hV, hN⟩
  · split
    · exact ⟨hV, hN⟩
    · rename_i k hk
      have hm := MS.get_mem hk
      split
      · exact ⟨hV, hN⟩
      · rename_i he
        split
        · exact ⟨hV.set _ _, hN.set _ _ (by simp only; omega) (hN.frames _ hm)⟩
        · rename_i hq
          rw [over_set]
          have := hN.queued _ hm
          exact ⟨hV.over _ _ (fun e => he ⟨by simp only at this; omega, e⟩), hN.over _ _⟩

/-- A model that the caller has made. -/
structure Mine (w0 w : World) (m t tb lb : Nat) (S : MS) : Prop where
  kept : Keeps [] w0 w
  at_ : ModelAt w m t tb lb S
  mb : w0.heap.size ≤ m
  tbb : w0.heap.size ≤ t
  tbbb : w0.heap.size ≤ tb
  lbb : w0.heap.size ≤ lb
  valid : Valid S
  known : Known S

theorem Mine.left {w0 w w' : World} {m t tb lb : Nat} {S S' : MS} (h : Mine w0 w m t tb lb S) (hl : Left lb w w' m t tb S') (hV : Valid S' ∧ Known S') : Mine w0 w' m t tb lb S' :=
  ⟨h.kept.trans' hl.1 (fun i hi h1 => by have := h.lbb; simp at hi; omega), hl.2, h.mb, h.tbb, h.tbbb, h.lbb, hV.1, hV.2⟩
theorem Mine.ends {w0 w w' : World} {m t tb lb : Nat} {S S' : MS} (h : Mine w0 w m t tb lb S) (hl : Ends tb lb w w' m t S') (hV : Valid S' ∧ Known S') : Mine w0 w' m t tb lb S' :=
  ⟨h.kept.trans' hl.1 (fun i hi h1 => by have := h.lbb; have := h.tbbb; simp at hi; omega), hl.2, h.mb, h.tbb, h.tbbb, h.lbb, hV.1, hV.2⟩
theorem Mine.on {w0 w w' : World} {m t tb lb : Nat} {S : MS} (h : Mine w0 w m t tb lb S) (hk : Keeps [] w w') : Mine w0 w' m t tb lb S :=
  ⟨h.kept.trans hk, h.at_.keep hk (by simp) (by simp) (by simp) (by simp), h.mb, h.tbb, h.tbbb, h.lbb, h.valid, h.known⟩

theorem Mine.feed {w0 w : World} {m t tb lb : Nat} {S : MS} (h : Mine w0 w m t tb lb S) (id n : Int) :
    Calls Try.prog 20 #[.pointer (some ⟨m, 0, none⟩), .int .i64 id, .int .i64 n] w fun e w' => e = .returned (.tuple #[.int .i64 (S.feed id n).1, .int .i64 (S.feed id n).2.1]) ∧ Mine w0 w' m t tb lb (S.feed id n).2.2 :=
  (feed_any h.at_ h.valid id n).mono fun _ _ ⟨he, hl⟩ => ⟨he, h.left hl (keep_feed h.valid h.known id n)⟩
theorem Mine.stop {w0 w : World} {m t tb lb : Nat} {S : MS} (h : Mine w0 w m t tb lb S) (id : Int) :
    Calls Try.prog 10 #[.pointer (some ⟨m, 0, none⟩), .int .i64 id] w fun e w' => e = .returned (.int .i64 (S.stop id).1) ∧ Mine w0 w' m t tb lb (S.stop id).2 :=
  (stop_any h.at_ h.valid id).mono fun _ _ ⟨he, hl⟩ => ⟨he, h.left hl (keep_stop h.valid h.known id)⟩
theorem Mine.see {w0 w : World} {m t tb lb : Nat} {S : MS} (h : Mine w0 w m t tb lb S) (id : Int) (s : St) :
    Calls Try.prog 7 #[.pointer (some ⟨m, 0, none⟩), .int .i64 id, s.val] w fun e w' => e = .returned (.int .i64 (S.see id s).1) ∧ Mine w0 w' m t tb lb (S.see id s).2 :=
  (see_any h.at_ h.valid id s).mono fun _ _ ⟨he, hl⟩ => ⟨he, h.left hl (keep_see h.valid h.known id s)⟩
theorem Mine.drain {w0 w : World} {m t tb lb : Nat} {S : MS} (h : Mine w0 w m t tb lb S) (id : Int) :
    Calls Try.prog 13 #[.pointer (some ⟨m, 0, none⟩), .int .i64 id] w fun e w' => e = .returned (.int .i64 (S.drain id).1) ∧ Mine w0 w' m t tb lb (S.drain id).2 :=
  (drain_any h.at_ h.valid h.known id).mono fun _ _ ⟨he, hl⟩ => ⟨he, h.ends hl (keep_drain h.valid h.known id)⟩
theorem Mine.close {w0 w : World} {m t tb lb : Nat} {S : MS} (h : Mine w0 w m t tb lb S) (id : Int) :
    Calls Try.prog 11 #[.pointer (some ⟨m, 0, none⟩), .int .i64 id] w fun e w' => e = .returned (.int .i64 (S.out id 21).1) ∧ Mine w0 w' m t tb lb (S.out id 21).2 :=
  (Close_any h.at_ h.valid id).mono fun _ _ ⟨he, hl⟩ => ⟨he, h.ends hl (keep_out h.valid h.known id 21 (by decide))⟩
theorem Mine.evict {w0 w : World} {m t tb lb : Nat} {S : MS} (h : Mine w0 w m t tb lb S) (id : Int) :
    Calls Try.prog 23 #[.pointer (some ⟨m, 0, none⟩), .int .i64 id] w fun e w' => e = .returned (.int .i64 (S.out id 22).1) ∧ Mine w0 w' m t tb lb (S.out id 22).2 :=
  (Evict_any h.at_ h.valid id).mono fun _ _ ⟨he, hl⟩ => ⟨he, h.ends hl (keep_out h.valid h.known id 22 (by decide))⟩
theorem Mine.free {w0 w : World} {m t tb lb : Nat} {S : MS} (h : Mine w0 w m t tb lb S) :
    Calls Try.prog 14 #[.pointer (some ⟨m, 0, none⟩)] w fun e w' => e = .returned (.int .i64 S.free) ∧ Mine w0 w' m t tb lb S :=
  (free_any h.at_ h.valid h.known).mono fun _ _ ⟨he, hl⟩ => ⟨he, h.on hl⟩
theorem Mine.lives {w0 w : World} {m t tb lb : Nat} {S : MS} (h : Mine w0 w m t tb lb S) :
    Calls Try.prog 15 #[.pointer (some ⟨m, 0, none⟩)] w fun e w' => ∃ v, e = .returned v ∧ w'.ownsRow w0.heap.size 3 1 v (liveIds S.l).length ((liveIds S.l).map (Value.int .i64)) ∧ Mine w0 w' m t tb lb S :=
  (mlive_any h.at_ h.valid).mono fun _ _ ⟨v, he, h1, _, hk⟩ => ⟨v, he, ownsRow_base_a h1 h.kept.size, h.on hk⟩

theorem Known.more {S : MS} (h : Known S) (hq : 0 ≤ S.c.quota) : Known S.more := by
  constructor <;>
  · intro p hp
    simp only [MS.more, List.mem_append, List.mem_singleton] at hp
    rcases hp with hp | rfl
    · first | exact h.queued p hp | exact h.frames p hp
    · simp [MS.more]; try exact hq

/-- Open: what it answers, what it leaves. -/
theorem keep_opens {S : MS} (hV : Valid S) (hN : Known S) (hlim : S.l.length < 1000) : Valid S.opens.2.2 ∧ Known S.opens.2.2 := by
  unfold MS.opens
  split
  · exact ⟨hV, hN⟩
  · split
    · exact ⟨hV, hN⟩
    · rename_i h1 h2
      have := hV.few
      exact ⟨hV.more (by omega) hlim, hN.more (by have := hV.ok.q; omega)⟩

theorem Mine.opens {w0 w : World} {m t tb lb : Nat} {S : MS} (h : Mine w0 w m t tb lb S) (hlim : S.l.length < 1000) :
    Calls Try.prog 18 #[.pointer (some ⟨m, 0, none⟩)] w fun e w' => e = .returned (.tuple #[.int .i64 S.opens.1, .int .i64 S.opens.2.1]) ∧ Mine w0 w' m t tb lb S.opens.2.2 := by
  have hk := keep_opens h.valid h.known hlim
  by_cases h1 : S.c.frames < ((S.live.length : Int) + 1) * S.c.quota
  · have e : S.opens = (0, 15, S) := by simp only [MS.opens, if_pos h1]
    rw [e] at hk ⊢
    exact (opens_full h.at_ h.valid h1).mono fun _ _ ⟨he, hl⟩ => ⟨he, h.on hl⟩
  · by_cases h2 : ((liveIds S.l).length : Int) = S.c.sessions
    · have e : S.opens = (0, 15, S) := by simp only [MS.opens, if_neg h1, if_pos h2]
      rw [e] at hk ⊢
      exact (opens_busy h.at_ h.valid h1 h2).mono fun _ _ ⟨he, hl⟩ => ⟨he, h.on hl⟩
    · have e : S.opens = (S.last + 1, 0, S.more) := by simp only [MS.opens, if_neg h1, if_neg h2, MS.more]
      rw [e] at hk ⊢
      have := h.valid.few
      refine (opens_yes h.at_ h.valid h1 (by omega) hlim).mono fun _ _ ⟨he, hl, hM⟩ => ⟨he, h.kept.trans' hl (fun i hi h3 => ?_), hM, h.mb, h.tbb, h.tbbb, h.lbb, hk.1, hk.2⟩
      have := h.lbb; have := h.tbbb; have := h.tbb
      simp at hi; omega

theorem Known.fresh (c : Cf) : Known (MS.fresh c) := ⟨by simp [MS.fresh], by simp [MS.fresh]⟩
theorem Mine.new (c : Cf) (h : c.ok) (w : World) :
    Calls Try.prog 17 #[c.val] w fun e w' => ∃ m t tb lb, e = .returned (.tuple #[.pointer (some ⟨m, 0, none⟩), .int .i64 0]) ∧ Mine w w' m t tb lb (MS.fresh c) :=
  (new_yes c w h).mono fun _ _ ⟨m, t, tb, lb, he, hk, hM, h1, h2, h3, h4⟩ => ⟨m, t, tb, lb, he, hk, hM, h1, h2, h3, h4, Valid.fresh h, Known.fresh c⟩

end Go.Proofs.Ythjghcfnopancaa
