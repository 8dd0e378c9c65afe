/-
  Both models side by side: what a step of one leaves of the other.
-/
import Derived.Test.YthjghcfnopancaaGreatGq
import Derived.Test.YthjghcfnopancaaGreatGo
import Derived.Test.YthjghcfnopancaaGreatGa
import Derived.Test.YthjghcfnopancaaGreatRows
import Derived.Deep.QuietTactic
import Derived.BigQuiet
import Derived.Deep.LoopGhost
import Derived.Deep.RegionWith
namespace Go.Proofs.YthjghcfnopancaaGreat
open Go.RowKit Go.Shelf Go.Maps

/-! ### No more than 1,000 pictures wait -/
def Few (S : MS) : Prop := ∀ p ∈ S.live, p.2.s.queued ≤ 1000
theorem Few.fresh (c : Cf) : Few (MS.fresh c) := by simp [Few, MS.fresh]
theorem Few.set {S : MS} (h : Few S) (id : Int) (k : Kn) (hk : k.s.queued ≤ 1000) : Few (S.set id k) := by
  intro p hp
  simp only [MS.set, List.mem_map] at hp
  obtain ⟨q, hq, rfl⟩ := hp
  by_cases e : q.1 = id
  · simp [e]; exact hk
  · simp [e]; exact h q hq
theorem Few.over {S : MS} (h : Few S) (id c : Int) : Few (S.over id c) := fun p hp => h p (List.mem_filter.1 hp).1
theorem Few.more {S : MS} (h : Few S) : Few S.more := by
  intro p hp
  simp only [MS.more, List.mem_append, List.mem_singleton] at hp
  rcases hp with hp | rfl
  · exact h p hp
  · simp
theorem Few.get {S : MS} (h : Few S) {id : Int} {k : Kn} (hk : S.get id = some k) : k.s.queued ≤ 1000 := h _ (MS.get_mem hk)
theorem Few.feed {S : MS} (h : Few S) (id n : Int) : Few (S.feed id n).2.2 := by
  unfold MS.feed
  split
  · exact h
  · split
    · exact h
    · rename_i k hk
      split
      · exact h
      · split
        · exact h
        · exact h.set _ _ (show k.s.queued ≤ 1000 from h.get hk)
theorem Few.stop {S : MS} (h : Few S) (id : Int) : Few (S.stop id).2 := by
  unfold MS.stop
  split
  · exact h
  · split
    · exact h
    · rename_i k hk
      split
      · exact h
      · exact h.set _ _ (show k.s.queued ≤ 1000 from h.get hk)
theorem Few.see {S : MS} (h : Few S) (hV : Valid S) (id : Int) (s : St) : Few (S.see id s).2 := by
  unfold MS.see
  split
  · exact h
  · split
    · exact h
    · rename_i k hk
      split
      · rename_i hm
        simp only [Kn.may, Bool.and_eq_true, decide_eq_true_eq] at hm
        obtain ⟨⟨⟨⟨⟨h1, h2⟩, h3⟩, h4⟩, h5⟩, h6⟩ := hm
        have := hV.ok.o
        exact h.set _ _ (by simp only [Kn.counts]; omega)
      · exact h
theorem Few.out {S : MS} (h : Few S) (id c : Int) : Few (S.out id c).2 := by
  unfold MS.out
  split
  · exact h
  · exact h.over _ _
theorem Few.drain {S : MS} (h : Few S) (hN : Known S) (id : Int) : Few (S.drain id).2 := by
  unfold MS.drain
  split
  · exact h
  · split
    · exact h
    · rename_i k hk
      have h1 := h.get hk
      have h2 := hN.queued _ (MS.get_mem hk)
      simp only at h2
      have h3 : max (wrap64 (k.s.queued - 1)) 0 ≤ 1000 := by
        have : wrap64 (k.s.queued - 1) = k.s.queued - 1 := by unfold wrap64; omega
        rw [this]; omega
      split
      · exact h
      · split
        · exact h.set _ _ h3
        · exact (h.set _ _ h3).over _ _
theorem Few.opens {S : MS} (h : Few S) : Few S.opens.2.2 := by
  unfold MS.opens
  split
  · exact h
  · split
    · exact h
    · exact h.more
theorem Few.evicts {S : MS} (h : Few S) (ids : List Int) : Few (S.evicts ids) := by
  unfold MS.evicts
  induction ids generalizing S with
  | nil => exact h
  | cons a t ih => simp only [List.foldl_cons]; exact ih (h.over a 22)
theorem Few.press {S : MS} (h : Few S) (want : Int) : Few (S.press want).2.2 := by
  unfold MS.press
  split
  · exact h.evicts _
  · exact h

/-! ### How many numbers were given -/
theorem len_set (S : MS) (id : Int) (k : Kn) : (S.set id k).l.length = S.l.length := rfl
theorem len_over (S : MS) (id c : Int) : (S.over id c).l.length = S.l.length := by simp [MS.over, ended]
theorem len_feed (S : MS) (id n : Int) : (S.feed id n).2.2.l.length = S.l.length := by
  unfold MS.feed; split; rfl; split; rfl; split; rfl; split <;> rfl
theorem len_stop (S : MS) (id : Int) : (S.stop id).2.l.length = S.l.length := by
  unfold MS.stop; split; rfl; split; rfl; split <;> rfl
theorem len_see (S : MS) (id : Int) (s : St) : (S.see id s).2.l.length = S.l.length := by
  unfold MS.see; split; rfl; split; rfl; split <;> rfl
theorem len_out (S : MS) (id c : Int) : (S.out id c).2.l.length = S.l.length := by
  unfold MS.out; split; rfl; exact len_over _ _ _
theorem len_drain (S : MS) (id : Int) : (S.drain id).2.l.length = S.l.length := by
  unfold MS.drain; split; rfl; split; rfl; split; rfl; split; rfl; exact (len_over _ _ _).trans rfl
theorem len_opens (S : MS) : S.opens.2.2.l.length ≤ S.l.length + 1 := by
  unfold MS.opens
  split
  · simp
  · split
    · simp
    · simp
theorem len_evicts (S : MS) : ∀ ids, (S.evicts ids).l.length = S.l.length := by
  intro ids
  unfold MS.evicts
  induction ids generalizing S with
  | nil => rfl
  | cons a t ih => simp only [List.foldl_cons]; rw [ih, len_over]
theorem len_press (S : MS) (want : Int) : (S.press want).2.2.l.length = S.l.length := by
  unfold MS.press
  split
  · exact len_evicts _ _
  · rfl

/-! ### Steps -/
/-- The reference's model, behind a step that leaves it alone; X': blocks that are known to be none of its own. -/
theorem MineR.step {lo : Nat} {X X' l : List Nat} {w w' : World} {m t : Nat} {S : MS} (h : MineR ⟨lo, X⟩ w m t S) (k : Keeps l w w') (hl : ∀ b ∈ l, b < lo ∨ b ∈ X ∨ w.heap.size ≤ b) (hX : ∀ b ∈ X', (b ∈ X ∨ w.heap.size ≤ b) ∧ b < w'.heap.size) : MineR ⟨lo, X'⟩ w' m t S := by
  obtain ⟨base, tv, lv, cs, ks, h1, h2, h3, h4, h5, h6⟩ := h
  have hmL := ltOf h1.blk
  have htL := ltOf h1.tbl.blk
  have no : ∀ b, lo ≤ b → b ∉ X → b < w.heap.size → b ∉ l := fun b a1 a2 a3 hm => by
    rcases hl b hm with h | h | h
    · omega
    · exact a2 h
    · omega
  have no2 : ∀ b, b ∉ X → b < w.heap.size → b ∉ X' := fun b a1 a2 hm => by
    rcases (hX b hm).1 with h | h
    · exact a1 h
    · omega
  have hlo : lo ≤ base := h5.1
  refine ⟨base, tv, lv, cs, ks, h1.keep k (no m h3.1 h3.2 hmL) (no t h4.1 h4.2 htL) (fun g hg => ?_) (fun g hg => ?_), h2, ⟨h3.1, no2 m h3.2 hmL⟩, ⟨h4.1, no2 t h4.2 htL⟩, ⟨h5.1, fun g hg => ?_, fun g hg => ?_⟩, ⟨Nat.le_trans h6.le k.size, fun b hb => (hX b hb).2⟩⟩
  · have := h1.tbl.row.lt g hg; exact no g (by omega) (h5.2.1 g hg) this.2
  · have := h1.row.lt g hg; exact no g (by omega) (h5.2.2 g hg) this.2
  · exact no2 g (h5.2.1 g hg) (h1.tbl.row.lt g hg).2
  · exact no2 g (h5.2.2 g hg) (h1.row.lt g hg).2
theorem MineR.size {n0 : Pl} {w : World} {m t : Nat} {S : MS} (h : MineR n0 w m t S) : n0.lo ≤ w.heap.size := by
  obtain ⟨base, tv, lv, cs, ks, h1, h2, h3, h4, h5, h6⟩ := h
  exact Nat.le_trans h5.1 h6.le
theorem MineR.drop {lo : Nat} {X : List Nat} {w : World} {m t : Nat} {S : MS} (h : MineR ⟨lo, X⟩ w m t S) : MineR ⟨lo, []⟩ w m t S := h.step (Keeps.refl [] w) (by simp) (by simp)

/-- Where the program's model lies. -/
structure Under (lo m t tb lb : Nat) : Prop where
  m : m < lo
  t : t < lo
  tb : tb < lo
  lb : lb < lo
theorem Mine.byR {w0 w w' : World} {m t tb lb lo : Nat} {l : List Nat} {S : MS} (h : Mine w0 w m t tb lb S) (u : Under lo m t tb lb) (k : Keeps l w w') (hl : ∀ b ∈ l, lo ≤ b) (h0 : w0.heap.size ≤ lo) : Mine w0 w' m t tb lb S :=
  ⟨h.kept.trans' k (fun i hi h1 => by have := hl i hi; omega), h.at_.keep k (fun hm => by have := hl _ hm; have := u.m; omega) (fun hm => by have := hl _ hm; have := u.t; omega) (fun hm => by have := hl _ hm; have := u.tb; omega) (fun hm => by have := hl _ hm; have := u.lb; omega), h.mb, h.tbb, h.tbbb, h.lbb, h.valid, h.known⟩

theorem Keeps.ofLeft {lb tb t : Nat} {w w' : World} (h : Keeps [lb] w w') : Keeps [t, tb, lb] w w' := h.mono (by simp)
theorem Keeps.ofEnds {lb tb t : Nat} {w w' : World} (h : Keeps [tb, lb] w w') : Keeps [t, tb, lb] w w' := h.mono (by simp)

theorem Mine.feedK {w0 w : World} {m t tb lb : Nat} {S : MS} (h : Mine w0 w m t tb lb S) (id n : Int) :
    Calls Tryz.prog 27 #[.pointer (some ⟨m, 0, none⟩), .int .i64 id, .int .i64 n] w fun e w' => e = .returned (.tuple #[.int .i64 (S.feed id n).1, .int .i64 (S.feed id n).2.1]) ∧ Mine w0 w' m t tb lb (S.feed id n).2.2 ∧ Keeps [t, tb, lb] w w' :=
  (feed_any h.at_ h.valid id n).mono fun _ _ ⟨he, hl⟩ => ⟨he, h.left hl (keep_feed h.valid h.known id n), hl.1.ofLeft⟩
theorem Mine.stopK {w0 w : World} {m t tb lb : Nat} {S : MS} (h : Mine w0 w m t tb lb S) (id : Int) :
    Calls Tryz.prog 29 #[.pointer (some ⟨m, 0, none⟩), .int .i64 id] w fun e w' => e = .returned (.int .i64 (S.stop id).1) ∧ Mine w0 w' m t tb lb (S.stop id).2 ∧ Keeps [t, tb, lb] w w' :=
  (stop_any h.at_ h.valid id).mono fun _ _ ⟨he, hl⟩ => ⟨he, h.left hl (keep_stop h.valid h.known id), hl.1.ofLeft⟩
theorem Mine.seeK {w0 w : World} {m t tb lb : Nat} {S : MS} (h : Mine w0 w m t tb lb S) (id : Int) (s : St) :
    Calls Tryz.prog 21 #[.pointer (some ⟨m, 0, none⟩), .int .i64 id, s.val] w fun e w' => e = .returned (.int .i64 (S.see id s).1) ∧ Mine w0 w' m t tb lb (S.see id s).2 ∧ Keeps [t, tb, lb] w w' :=
  (see_any h.at_ h.valid id s).mono fun _ _ ⟨he, hl⟩ => ⟨he, h.left hl (keep_see h.valid h.known id s), hl.1.ofLeft⟩
theorem Mine.drainK {w0 w : World} {m t tb lb : Nat} {S : MS} (h : Mine w0 w m t tb lb S) (id : Int) :
    Calls Tryz.prog 24 #[.pointer (some ⟨m, 0, none⟩), .int .i64 id] w fun e w' => e = .returned (.int .i64 (S.drain id).1) ∧ Mine w0 w' m t tb lb (S.drain id).2 ∧ Keeps [t, tb, lb] w w' :=
  (drain_any h.at_ h.valid h.known id).mono fun _ _ ⟨he, hl⟩ => ⟨he, h.ends hl (keep_drain h.valid h.known id), hl.1.ofEnds⟩
theorem Mine.CloseK {w0 w : World} {m t tb lb : Nat} {S : MS} (h : Mine w0 w m t tb lb S) (id : Int) :
    Calls Tryz.prog 33 #[.pointer (some ⟨m, 0, none⟩), .int .i64 id] w fun e w' => e = .returned (.int .i64 (S.out id 21).1) ∧ Mine w0 w' m t tb lb (S.out id 21).2 ∧ Keeps [t, tb, lb] w w' :=
  (Close_any h.at_ h.valid id).mono fun _ _ ⟨he, hl⟩ => ⟨he, h.ends hl (keep_out h.valid h.known id 21 (by decide)), hl.1.ofEnds⟩
theorem Mine.EvictK {w0 w : World} {m t tb lb : Nat} {S : MS} (h : Mine w0 w m t tb lb S) (id : Int) :
    Calls Tryz.prog 35 #[.pointer (some ⟨m, 0, none⟩), .int .i64 id] w fun e w' => e = .returned (.int .i64 (S.out id 22).1) ∧ Mine w0 w' m t tb lb (S.out id 22).2 ∧ Keeps [t, tb, lb] w w' :=
  (Evict_any h.at_ h.valid id).mono fun _ _ ⟨he, hl⟩ => ⟨he, h.ends hl (keep_out h.valid h.known id 22 (by decide)), hl.1.ofEnds⟩
theorem Mine.pressK {w0 w : World} {m t tb lb : Nat} {S : MS} (h : Mine w0 w m t tb lb S) (want : Int) :
    Calls Tryz.prog 37 #[.pointer (some ⟨m, 0, none⟩), .int .i64 want] w fun e w' => ∃ v, e = .returned (.tuple #[v, .int .i64 (S.press want).2.1]) ∧
      w'.ownsRow w.heap.size 3 1 v (S.press want).1.length ((S.press want).1.map (Value.int .i64)) ∧ Mine w0 w' m t tb lb (S.press want).2.2 ∧ Keeps [t, tb, lb] w w' := by
  have hk := keep_press h.valid h.known want
  by_cases hw : 0 ≤ want ∧ want ≤ S.c.frames
  · have e : S.press want = (S.victims want, 0, S.evicts (S.victims want)) := by simp [MS.press, hw]
    rw [e] at hk ⊢
    exact (mpress_yes h.at_ h.valid h.known want hw).mono fun _ _ ⟨v, h1, h2, h3⟩ => ⟨v, h1, h2, h.ends h3 hk, h3.1.ofEnds⟩
  · have e : S.press want = ([], 3, S) := by simp [MS.press, hw]
    rw [e]
    exact (mpress_no h.at_ want hw).mono fun _ _ ⟨h1, h2⟩ => ⟨_, h1, World.ownsRow_nil _ _ _ _, h.on h2, h2.mono (by simp)⟩
theorem Mine.opensK {w0 w : World} {m t tb lb : Nat} {S : MS} (h : Mine w0 w m t tb lb S) (hlim : S.l.length < 1000) :
    Calls Tryz.prog 25 #[.pointer (some ⟨m, 0, none⟩)] w fun e w' => e = .returned (.tuple #[.int .i64 S.opens.1, .int .i64 S.opens.2.1]) ∧ Mine w0 w' m t tb lb S.opens.2.2 ∧ Keeps [t, tb, lb] w w' := by
  have hk := keep_opens h.valid h.known hlim
  by_cases h1 : S.c.frames < ((S.live.length : Int) + 1) * S.c.quota
  · have e : S.opens = (0, 15, S) := by simp only [MS.opens, if_pos h1]
    rw [e] at hk ⊢
    exact (opens_full h.at_ h.valid h1).mono fun _ _ ⟨he, hl⟩ => ⟨he, h.on hl, hl.mono (by simp)⟩
  · by_cases h2 : ((liveIds S.l).length : Int) = S.c.sessions
    · have e : S.opens = (0, 15, S) := by simp only [MS.opens, if_neg h1, if_pos h2]
      rw [e] at hk ⊢
      exact (opens_busy h.at_ h.valid h1 h2).mono fun _ _ ⟨he, hl⟩ => ⟨he, h.on hl, hl.mono (by simp)⟩
    · have e : S.opens = (S.last + 1, 0, S.more) := by simp only [MS.opens, if_neg h1, if_neg h2, MS.more]
      rw [e] at hk ⊢
      have := h.valid.few
      refine (opens_yes h.at_ h.valid h1 (by omega) hlim).mono fun _ _ ⟨he, hl, hM⟩ => ⟨he, ⟨h.kept.trans' hl (fun i hi h3 => ?_), hM, h.mb, h.tbb, h.tbbb, h.lbb, hk.1, hk.2⟩, hl⟩
      have := h.lbb; have := h.tbbb; have := h.tbb
      simp at hi; omega

/-- Behind a step of the program's model. -/
theorem MineR.byP {lo : Nat} {X : List Nat} {w w' : World} {m t tb lb m' t' : Nat} {S : MS} (h : MineR ⟨lo, X⟩ w m' t' S) (u : Under lo m t tb lb) (k : Keeps [t, tb, lb] w w') (hX : ∀ b ∈ X, b < w.heap.size) : MineR ⟨lo, X⟩ w' m' t' S :=
  h.step k (fun b hb => .inl (by have := u.t; have := u.tb; have := u.lb; simp at hb; omega)) (fun b hb => ⟨.inl hb, Nat.lt_of_lt_of_le (hX b hb) k.size⟩)
/-- Behind a step of the reference's. -/
theorem Mine.byA {w0 w w' : World} {m t tb lb : Nat} {p : Pl} {S : MS} (h : Mine w0 w m t tb lb S) (u : Under p.lo m t tb lb) (k : Above p w w') (h0 : w0.heap.size ≤ p.lo) : Mine w0 w' m t tb lb S := by
  obtain ⟨l, hl, hk⟩ := k
  exact h.byR u hk (fun b hb => (hl b hb).1) h0
theorem Above.blk {p : Pl} {w w' : World} (k : Above p w w') {b : Nat} {o : Obj} (h : w.heap[b]? = some o) (hb : b ∈ p.X) : w'.heap[b]? = some o := by
  obtain ⟨l, hl, hk⟩ := k
  exact hk.blk h (fun hm => (hl b hm).2 hb)
theorem Above.size {p : Pl} {w w' : World} (k : Above p w w') : w.heap.size ≤ w'.heap.size := by
  obtain ⟨l, hl, hk⟩ := k
  exact hk.size
theorem MineR.X {p : Pl} {w : World} {m t : Nat} {S : MS} (h : MineR p w m t S) : ∀ b ∈ p.X, b < w.heap.size := by
  obtain ⟨base, tv, lv, cs, ks, h1, h2, h3, h4, h5, h6⟩ := h
  exact h6.x

end Go.Proofs.YthjghcfnopancaaGreat

/-
  Two lists of ints, held side by side: SameInts.
-/
namespace Go.Proofs.YthjghcfnopancaaGreat
open Go.RowKit Go.Shelf Go.Maps

/-- A slice that reads as a list of ints. -/
structure IntRow (w : World) (a : Option Addr) (xs : List Int) : Prop where
  few : xs.length ≤ 9223372036854775807
  cell : ∀ i x, xs[i]? = some x → ∃ g o, a = some ⟨g, o, none⟩ ∧ w.cell? ⟨g, o + i, none⟩ = some (.int .i64 x)

theorem IntRow.nil (w : World) (a : Option Addr) : IntRow w a [] := ⟨by simp, by simp⟩
theorem IntRow.keep {w w' : World} {a : Option Addr} {xs : List Int} {lst : List Nat} (h : IntRow w a xs) (k : Keeps lst w w') (hn : ∀ g o, a = some ⟨g, o, none⟩ → g ∉ lst) : IntRow w' a xs :=
  ⟨h.few, fun i x hx => by obtain ⟨g, o, rfl, hc⟩ := h.cell i x hx; exact ⟨g, o, rfl, k.cell hc (hn g o rfl)⟩⟩
theorem IntRow.on {w w' : World} {a : Option Addr} {xs : List Int} (h : IntRow w a xs) (k : Keeps [] w w') : IntRow w' a xs := h.keep k (by simp)

theorem introw_of_row {w : World} {base : Nat} {e : TypeId} {v : Value} {n : Nat} {xs : List Int} (h : w.ownsRow base e 1 v n (xs.map (Value.int .i64))) : ∃ a cap, v = .slice a xs.length cap ∧ IntRow w a xs := by
  have hl : n = xs.length := by have := h.1; simpa using this.symm
  subst hl
  by_cases h0 : xs.length = 0
  · obtain rfl : xs = [] := List.length_eq_zero_iff.1 h0
    rcases h.2 with ⟨rfl, -⟩ | ⟨g, cap, cur, rfl, -⟩
    · exact ⟨none, 0, rfl, IntRow.nil _ _⟩
    · exact ⟨_, _, rfl, IntRow.nil _ _⟩
  · obtain ⟨g, cap, cur, rfl, hb, hg, h1, h2, h3⟩ := ownsRow_at h (by omega)
    refine ⟨_, cap, rfl, ⟨by unfold maxLen at h2; omega, fun i x hx => ⟨g, 0, rfl, ?_⟩⟩⟩
    rw [Nat.zero_add]
    exact cellOf hg i (h3 i _ (by simp [hx]))

set_option maxHeartbeats 800000 in
theorem same_ints {w : World} {a b : Option Addr} {xs ys : List Int} {c d : Nat} (hA : IntRow w a xs) (hB : IntRow w b ys) :
    Calls Tryz.prog 11 #[.slice a xs.length c, .slice b ys.length d] w fun e w' => e = .returned (.bool (decide (xs = ys))) ∧ Keeps [] w w' := by
  have h1 := hA.few
  have h2 := hB.few
  have HA := Lib.hid hA
  have HB := Lib.hid hB
  clear hA hB
  by_cases hl : xs.length = ys.length
  · have hl2 : ((xs.length : Int) != (ys.length : Int)) = false := by simp; omega
    have hl3 := Lib.hid hl
    clear hl
    go_enter Tryz.func11, Tryz.ntmps11
    go_wp2
    go_loopg [5] xs.length (fun k z wr => ∃ i : Nat, z = .int .i64 i ∧ k + i = xs.length ∧ xs.take i = ys.take i ∧ Keeps [] w wr)
    case atStart => exact ⟨0, rfl, by omega, by simp, Keeps.refl _ _⟩
    case round =>
      obtain ⟨i, rfl, hki, heq, hk⟩ := hrel
      have heq := Lib.hid heq
      by_cases hi : i < xs.length
      · have hi' : i < ys.length := by have := hl3.out; omega
        have hx : xs[i]? = some xs[i] := List.getElem?_eq_getElem hi
        have hy : ys[i]? = some ys[i] := List.getElem?_eq_getElem hi'
        obtain ⟨g, o, rfl, cx⟩ := HA.out.cell i _ hx
        obtain ⟨g', o', rfl, cy⟩ := HB.out.cell i _ hy
        have cx := hk.cell cx (by simp)
        have cy := hk.cell cy (by simp)
        have i0 : (0 : Int) ≤ (i : Int) := by omega
        have i1 : (i : Int) < (xs.length : Int) := by omega
        have i2 : (i : Int) < (ys.length : Int) := by omega
        have Hx := Lib.hid hx
        have Hy := Lib.hid hy
        clear hx hy
        generalize xs[i] = x at cx Hx
        generalize ys[i] = y at cy Hy
        by_cases hxy : x = y
        · subst hxy
          go_wp2
          go_quiet (fail)
          go_wp2
          go_roundg (gk - 1)
          case measure => omega
          case rel => exact ⟨i + 1, by simp, by omega, by rw [List.take_add_one, List.take_add_one, heq.out, Hx.out, Hy.out], hk.drewN _⟩
        · have d : (x != y) = true := by simpa using hxy
          have dd : decide (xs = ys) = false := decide_eq_false (fun e => hxy (by have h1 := Hx.out; rw [e, Hy.out] at h1; exact (Option.some.inj h1).symm))
          have Hd := Lib.hid dd
          clear hxy dd
          go_wp2
          go_quiet (fail)
          go_wp2
          go_ret
          exact ⟨by rw [Hd.out]; rfl, hk.drewN _⟩
      · have hie : i = xs.length := by omega
        have dd : decide (xs = ys) = true := decide_eq_true (by
          have h1 := heq.out
          rw [List.take_of_length_le (by omega), List.take_of_length_le (by have := hl3.out; omega)] at h1
          exact h1)
        have Hd := Lib.hid dd
        have hge : (xs.length : Int) ≤ (i : Int) := by omega
        clear hie dd hki
        go_wp2
        go_ret
        exact ⟨by rw [Hd.out]; rfl, hk⟩
  · have hne : decide (xs = ys) = false := decide_eq_false (fun e => hl (by rw [e]))
    rw [hne]
    have hl2 : ((xs.length : Int) != (ys.length : Int)) = true := by simp; omega
    clear hl hne
    go_enter Tryz.func11, Tryz.ntmps11
    go_wp2
    go_ret
    exact ⟨rfl, (by repeat (first | exact Keeps.refl _ _ | assumption | refine Keeps.drew ?_ | refine Keeps.drewN ?_ _ | refine Keeps.alloc ?_ _ | refine Keeps.setCell ?_ (by simp <;> omega) _ | refine Keeps.trans ?_ (by assumption)))⟩

end Go.Proofs.YthjghcfnopancaaGreat

/-
  One act, asked of both models.
-/
namespace Go.Proofs.YthjghcfnopancaaGreat
open Go.RowKit Go.Shelf Go.Maps

theorem cellsA {w : World} {b : Nat} {T : TypeId} {z : Nat × Nat} {a0 a1 a2 a3 a4 a5 a6 a7 a8 a9 : Value} (h : w.heap[b]? = some (.cells #[a0, a1, a2, a3, a4, a5, a6, a7, a8, a9] T z)) :
    w.cell? ⟨b, 0, none⟩ = some a0 ∧ w.cell? ⟨b, 1, none⟩ = some a1 ∧ w.cell? ⟨b, 2, none⟩ = some a2 ∧ w.cell? ⟨b, 3, none⟩ = some a3 ∧ w.cell? ⟨b, 4, none⟩ = some a4 ∧ w.cell? ⟨b, 5, none⟩ = some a5 ∧ w.cell? ⟨b, 6, none⟩ = some a6 ∧ w.cell? ⟨b, 7, none⟩ = some a7 ∧ w.cell? ⟨b, 8, none⟩ = some a8 ∧ w.cell? ⟨b, 9, none⟩ = some a9 :=
  ⟨cellOf h 0 rfl, cellOf h 1 rfl, cellOf h 2 rfl, cellOf h 3 rfl, cellOf h 4 rfl, cellOf h 5 rfl, cellOf h 6 rfl, cellOf h 7 rfl, cellOf h 8 rfl, cellOf h 9 rfl⟩

set_option maxRecDepth 100000 in
set_option maxHeartbeats 1000000 in
theorem over_ints {w : World} {base : Nat} {v : Value} {xs : List Int} (h : w.ownsRow base 3 1 v xs.length (xs.map (Value.int .i64))) (hl : xs.length ≤ 1000) :
    Calls Tryz.prog 15 #[v] w fun e w' => e = .returned (.tuple #[]) ∧ Keeps v.ownBlock.toList w w' := by
  obtain ⟨a, cap, rfl⟩ := ownsRow_slice h
  have H := Lib.hid h
  clear h
  go_enter Tryz.func15, Tryz.ntmps15
  go_wp2
  go_loopg [2] xs.length (fun k s2 wr => ∃ (j : Nat) (zs : List Int), s2 = .int .i64 j ∧ k + j = xs.length ∧ zs.length = xs.length ∧ wr.ownsRow base 3 1 (.slice a xs.length cap) zs.length (zs.map (Value.int .i64)) ∧ Keeps (Value.slice a xs.length cap).ownBlock.toList w wr)
  case atStart => exact ⟨0, xs, rfl, by omega, rfl, H.out, Keeps.refl _ _⟩
  case round =>
    obtain ⟨j, zs, rfl, hkj, hz, hrow, hk⟩ := hrel
    by_cases hj : j < xs.length
    · obtain ⟨g, cap', e, -, -, hc⟩ := row_cell hrow (i := j) (by omega)
      simp only [Value.slice.injEq] at e
      obtain ⟨rfl, -, rfl⟩ := e
      obtain ⟨hset, hfz⟩ := row_set hrow (k := j) (by omega) (-77)
      have hset := Lib.hid hset
      have hz := Lib.hid hz
      clear hrow
      go_wp2
      go_roundg (gk - 1)
      case measure => omega
      case rel => exact ⟨j + 1, zs.set j (-77), by simp, by omega, by rw [List.length_set]; exact hz.out, by simpa using hset.out, hk.setCell (by simp [Value.ownBlock]) _⟩
    · have hjl : ((xs.length : Int) ≤ (j : Int)) := by omega
      have hz := Lib.hid hz
      clear hrow
      go_wp2
      go_end0
      exact ⟨rfl, hk⟩

/-- Both models hold the state S; the reference's lies in blocks from lo on, the program's below. -/
structure Both (w0 : World) (lo : Nat) (w : World) (m t tb lb m' t' : Nat) (S : MS) : Prop where
  p : Mine w0 w m t tb lb S
  r : MineR ⟨lo, []⟩ w m' t' S
  few : Few S
  u : Under lo m t tb lb
  lo : w0.heap.size ≤ lo

/-- What an act answers, and leaves. -/
def Acted (w0 : World) (lo m t tb lb m' t' : Nat) (S : MS) (e : Ending) (w' : World) : Prop :=
  e = .returned (.bool true) ∧ ∃ S', Both w0 lo w' m t tb lb m' t' S' ∧ S'.l.length ≤ S.l.length + 1

/-- An act. -/
def actVal (k id n : Int) (s : St) : Value := .agg #[.int .i64 k, .int .i64 id, .int .i64 n, .int .i64 s.cause, .int .i64 s.queued, .int .i64 s.left, .int .i64 s.free, .int .i64 s.frames, .int .i64 s.pictures, .int .i64 s.gone]
def actObj (k id n : Int) (s : St) : Obj := .cells #[.int .i64 k, .int .i64 id, .int .i64 n, .int .i64 s.cause, .int .i64 s.queued, .int .i64 s.left, .int .i64 s.free, .int .i64 s.frames, .int .i64 s.pictures, .int .i64 s.gone] 37

/-- Behind the act's box. -/
theorem Both.boxed {w0 : World} {lo : Nat} {w : World} {m t tb lb m' t' : Nat} {S : MS} (h : Both w0 lo w m t tb lb m' t' S) (o : Obj) :
    Mine w0 (w.alloc o) m t tb lb S ∧ MineR ⟨lo, [w.heap.size]⟩ (w.alloc o) m' t' S ∧ (w.alloc o).heap[w.heap.size]? = some o ∧ lo ≤ w.heap.size :=
  ⟨h.p.on ((Keeps.refl _ _).alloc _), h.r.step ((Keeps.refl [] _).alloc _) (by simp) (by simp), heap_new _ _, h.r.size⟩

set_option maxRecDepth 100000 in
set_option maxHeartbeats 1000000 in
theorem acted_open {w0 : World} {lo : Nat} {w : World} {m t tb lb m' t' : Nat} {S : MS} (h : Both w0 lo w m t tb lb m' t' S) (hlim : S.l.length < 1000) (id n : Int) (s : St) :
    Calls Tryz.prog 7 #[.pointer (some ⟨m, 0, none⟩), .pointer (some ⟨m', 0, none⟩), actVal 0 id n s] w (Acted w0 lo m t tb lb m' t' S) := by
  obtain ⟨hM1, hR1, hA, hlo⟩ := h.boxed (actObj 0 id n s)
  have hlen := len_opens S
  have HB := Lib.hid h
  obtain ⟨W, hW⟩ : ∃ W, w.alloc (actObj 0 id n s) = W := ⟨_, rfl⟩
  rw [hW] at hM1 hR1 hA
  have hW' := Lib.hid hW
  obtain ⟨s0, s1, s2, s3, s4, s5, s6⟩ := s
  unfold actVal
  unfold actObj at hW' hA
  simp only at *
  clear h hW
  go_enter Tryz.func7, Tryz.ntmps7
  go_wp2_with fail
  rw [hW'.out]
  refine (hM1.opensK hlim).mono ?_
  rintro e w2 ⟨rfl, hM2, hk2⟩
  have hR2 := hR1.byP HB.out.u hk2 hR1.X
  go_wp2_with fail
  refine (hR2.opens HB.out.p.valid hlim).mono ?_
  rintro e w3 ⟨rfl, hR3, ha3⟩
  go_wp2
  go_ret
  exact ⟨rfl, _, ⟨hM2.byA (p := ⟨lo, [w.heap.size]⟩) HB.out.u ha3 HB.out.lo, hR3.drop, HB.out.few.opens, HB.out.u, HB.out.lo⟩, hlen⟩


set_option maxRecDepth 100000 in
set_option maxHeartbeats 1000000 in
theorem acted_feed {w0 : World} {lo : Nat} {w : World} {m t tb lb m' t' : Nat} {S : MS} (h : Both w0 lo w m t tb lb m' t' S) (id n : Int) (s : St) :
    Calls Tryz.prog 7 #[.pointer (some ⟨m, 0, none⟩), .pointer (some ⟨m', 0, none⟩), actVal 1 id n s] w (Acted w0 lo m t tb lb m' t' S) := by
  have hlen := len_feed S id n
  obtain ⟨hM1, hR1, hA, hlo⟩ := h.boxed (actObj 1 id n s)
  have HB := Lib.hid h
  have hnA : ∀ b ∈ [t, tb, lb], w.heap.size ≠ b := fun b hb => by have := h.u.t; have := h.u.tb; have := h.u.lb; simp at hb; omega
  have hnA := Lib.hid hnA
  obtain ⟨W, hW⟩ : ∃ W, w.alloc (actObj 1 id n s) = W := ⟨_, rfl⟩
  rw [hW] at hM1 hR1 hA
  have hW' := Lib.hid hW
  obtain ⟨s0, s1, s2, s3, s4, s5, s6⟩ := s
  unfold actVal
  unfold actObj at hW' hA
  simp only at *
  clear h hW
  go_enter Tryz.func7, Tryz.ntmps7
  go_wp2_with fail
  rw [hW'.out]
  refine (hM1.feedK id n).mono ?_
  rintro e w2 ⟨rfl, hM2, hk2⟩
  have hR2 := hR1.byP HB.out.u hk2 hR1.X
  have hA2 := hk2.blk hA (fun hm => hnA.out _ hm rfl)
  obtain ⟨c0, c1, c2, c3, c4, c5, c6, c7, c8, c9⟩ := cellsA hA2
  have hA2 := Lib.hid hA2
  clear hA
  go_wp2_with fail
  refine (hR2.feed HB.out.p.valid id n).mono ?_
  rintro e w3 ⟨rfl, hR3, ha3⟩
  clear c0 c1 c2 c3 c4 c5 c6 c7 c8 c9
  have hlen := Lib.hid hlen
  go_wp2
  go_ret
  exact ⟨rfl, _, ⟨hM2.byA (p := ⟨lo, [w.heap.size]⟩) HB.out.u ha3 HB.out.lo, hR3.drop, HB.out.few.feed id n, HB.out.u, HB.out.lo⟩, by have := hlen.out; omega⟩

set_option maxRecDepth 100000 in
set_option maxHeartbeats 1000000 in
theorem acted_press {w0 : World} {lo : Nat} {w : World} {m t tb lb m' t' : Nat} {S : MS} (h : Both w0 lo w m t tb lb m' t' S) (id n : Int) (s : St) :
    Calls Tryz.prog 7 #[.pointer (some ⟨m, 0, none⟩), .pointer (some ⟨m', 0, none⟩), actVal 7 id n s] w (Acted w0 lo m t tb lb m' t' S) := by
  have hlen := len_press S n
  have hvl : (S.press n).1.length ≤ 1000 := by
    unfold MS.press
    split
    · have h1 := (S.victims_pre n).length_le
      have h2 := (PL.srt_perm (PL.some' S.hold)).length_eq
      have h3 : (PL.some' S.hold).length ≤ S.hold.length := List.length_filter_le _ _
      have h4 : S.hold.length = S.live.length := by simp [MS.hold]
      have h5 := h.p.valid.count
      have h6 := h.p.valid.ok.s
      simp only [List.length_map] at h1
      simp only; omega
    · simp
  obtain ⟨hM1, hR1, hA, hlo⟩ := h.boxed (actObj 7 id n s)
  have HB := Lib.hid h
  have hnA : ∀ b ∈ [t, tb, lb], w.heap.size ≠ b := fun b hb => by have := h.u.t; have := h.u.tb; have := h.u.lb; simp at hb; omega
  have hnA := Lib.hid hnA
  obtain ⟨W, hW⟩ : ∃ W, w.alloc (actObj 7 id n s) = W := ⟨_, rfl⟩
  rw [hW] at hM1 hR1 hA
  have hW' := Lib.hid hW
  obtain ⟨s0, s1, s2, s3, s4, s5, s6⟩ := s
  unfold actVal
  unfold actObj at hW' hA
  simp only at *
  clear h hW
  go_enter Tryz.func7, Tryz.ntmps7
  go_wp2_with fail
  rw [hW'.out]
  refine (hM1.pressK n).mono ?_
  rintro e w2 ⟨v, rfl, hrow, hM2, hk2⟩
  have hA2 := hk2.blk hA (fun hm => hnA.out _ hm rfl)
  obtain ⟨c0, c1, c2, c3, c4, c5, c6, c7, c8, c9⟩ := cellsA hA2
  have hAl := ltOf hA2
  have hvb : ∀ g, v.ownBlock = some g → W.heap.size ≤ g ∧ g < w2.heap.size := fun g hg => hrow.lt g hg
  have hR2 : MineR ⟨lo, v.ownBlock.toList⟩ w2 m' t' S := hR1.step hk2 (fun b hb => .inl (by have := HB.out.u.t; have := HB.out.u.tb; have := HB.out.u.lb; simp at hb; omega)) (fun b hb => by have := hvb b (by simpa using hb); exact ⟨.inr this.1, this.2⟩)
  have hrow := Lib.hid hrow
  have hWl := hR1.size
  clear hA hA2
  go_wp2_with fail
  refine (hR2.press HB.out.p.valid HB.out.p.known n).mono ?_
  rintro e w3 ⟨u, rfl, hrow2, hR3, ha3⟩
  have hM3 := hM2.byA (p := ⟨lo, v.ownBlock.toList⟩) HB.out.u ha3 HB.out.lo
  have hrow3 : w3.ownsRow W.heap.size 3 1 v (S.press n).1.length ((S.press n).1.map (Value.int .i64)) := ownsRow_of hrow.out (fun g hg => by
    obtain ⟨l, hl, hk⟩ := ha3
    exact hk.block g (hvb g hg).2 (fun hm => (hl g hm).2 (by simpa using hg)))
  clear c0 c1 c2 c3 c4 c5 c6 c7 c8 c9
  obtain ⟨va, vc, rfl, ir1⟩ := introw_of_row hrow3
  obtain ⟨ua, uc, rfl, ir2⟩ := introw_of_row hrow2
  have hsame := Lib.hid (same_ints (c := vc) (d := uc) ir1 ir2)
  have hov : Hid (∀ w', Keeps [] w3 w' → _) := Lib.hid fun w' (hk : Keeps [] w3 w') => over_ints (ownsRow_of hrow3 (fun g hg => hk.block g (hrow3.lt g hg).2 (by simp))) hvl
  have hR3 := Lib.hid hR3
  have hM3 := Lib.hid hM3
  have ha3s := ha3.size
  have hlen := Lib.hid hlen
  have dd : decide ((S.press n).1 = (S.press n).1) = true := by simp
  clear ir1 ir2 hrow2 hrow3 hvl
  go_wp2_with (first
    | (go_at_call 11; refine (hsame.out).mono ?_; rw [dd]; rintro e w4 ⟨rfl, hk4⟩)
    | (go_at_call 15; refine (hov.out w4 hk4).mono ?_; rintro e w5 ⟨rfl, hk5⟩))
  go_ret
  have hR4 := (hR3.out.step (X' := (Value.slice va (S.press n).1.length vc).ownBlock.toList) hk4 (by simp) (fun b hb => ⟨.inl hb, by have := (hvb b (by simpa using hb)).2; have := hk4.size; omega⟩)).step (X' := []) hk5 (fun b hb => .inr (.inl hb)) (by simp)
  exact ⟨rfl, _, ⟨(hM3.out.on hk4).byR HB.out.u hk5 (fun b hb => by have := (hvb b (by simpa using hb)).1; have h3 : lo ≤ W.heap.size := hWl; omega) HB.out.lo, hR4, HB.out.few.press n, HB.out.u, HB.out.lo⟩, by have := hlen.out; omega⟩


end Go.Proofs.YthjghcfnopancaaGreat
