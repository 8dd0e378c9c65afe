/-
  A law for a region that draws its order: runs of operations that leave the world alone, parted by operations (a call that makes memory, a store) that each wait for all ahead of them, and for which all behind them wait.
-/
import Derived.StillTailTactics
import Derived.WalkKit
namespace Go.Proofs.YtkhokdikabopfaaGreatDoor
open Go

section
variable {P : Program} {ops : Array Oper} {md : Region.Mode} {w : World}

/-- All behind the n-th operation wait for it, or for one that does. -/
def behindB (md : Region.Mode) (ops : Array Oper) (n : Nat) : Bool :=
  (List.range ops.size).all fun t => decide (t ≤ n) || (List.range t).any fun u => decide (n ≤ u) && Region.waitsFor md ops t u

theorem mid_waits {n : Nat} {listed : Array Bool} (hs : Region.sinkB md ops n = true) (hc : behindB md ops n = true) (inv : HeadInv md ops n listed) :
    ∀ (d i : Nat), n - i = d → i < n → listed.getD i true = false → ∀ t, n ≤ t → t ∉ Region.ready md ops listed := by
  intro d
  induction d using Nat.strongRecOn with
  | _ d ih =>
    intro i hd hi hun t ht hr
    obtain ⟨_, ot, hot, hall⟩ := mem_ready.1 hr
    have htlt : t < ops.size := (Array.getElem?_eq_some_iff.1 hot).1
    rcases Nat.lt_or_ge n t with h | h
    · have h1 := List.all_eq_true.1 hc t (List.mem_range.2 htlt)
      simp only [Bool.or_eq_true, decide_eq_true_eq] at h1
      rcases h1 with h1 | h1
      · omega
      · obtain ⟨u, hu, hu2⟩ := List.any_eq_true.1 h1
        simp only [Bool.and_eq_true, decide_eq_true_eq] at hu2
        have hut := List.mem_range.1 hu
        obtain ⟨o', ho', e, he, hb, hon⟩ := Region.waitsFor_spec hu2.2
        obtain rfl : o' = ot := Option.some.inj (ho'.symm.trans hot)
        have h2 := hall e he hb
        rw [hon, getD_both (inv.tail u hu2.1 (by omega))] at h2
        cases h2
    · obtain rfl : t = n := by omega
      have h1 := List.all_eq_true.1 hs i (List.mem_range.2 hi)
      obtain ⟨j, hj, hj2⟩ := List.any_eq_true.1 h1
      simp only [Bool.and_eq_true, decide_eq_true_eq] at hj2
      obtain ⟨oj, hoj, e, he, hb, hon⟩ := Region.waitsFor_spec hj2.2
      have hjle : j ≤ t := by have := List.mem_range.1 hj; omega
      rcases Nat.lt_or_ge j t with hjt | hjt
      · cases hl : listed.getD j false with
        | true =>
          have h2 := inv.closed j oj hoj hl e he hb
          rw [hon, getD_both hun] at h2
          cases h2
        | false => exact ih (t - j) (by omega) j rfl hjt (getD_in (by rw [inv.size]; omega) hl) t (Nat.le_refl _) hr
      · obtain rfl : j = t := by omega
        obtain rfl : oj = ot := Option.some.inj (hoj.symm.trans hot)
        have h2 := hall e he hb
        rw [hon, getD_both hun] at h2
        cases h2

theorem mid_first {n i : Nat} {oi : Oper} {v : Value} {L : Array Bool → Act → Prop} (hi : ops[i]? = some oi) (hsel : ∀ (j : Nat) (o : Oper) cs b, ops[j]? = some o → o.op ≠ .select cs b)
    (hs : Region.sinkB md ops n = true) (hc : behindB md ops n = true) (hin : i < n) (hdone : ∀ listed a, L listed a → ∀ j ∈ Region.ready md ops listed, n ≤ j) :
    ∀ (f : Nat) (listed : Array Bool) (a : Act), HeadInv md ops n listed →
      (∀ j oj, ops[j]? = some oj → j ≠ i → listed.getD j true = false → (∀ e ∈ oj.after, Region.binds md e = true → e.on ≠ i) → oi.apart ops oj = true) →
      i ∈ Region.ready md ops listed → YieldsAt P ops w oi v a →
      wpAnyL P md ops w n L f (listed.setIfInBounds i true) (a.put oi.dst v) → wpAnyL P md ops w n L (f + 1) listed a := by
  intro f
  induction f with
  | zero =>
    intro listed a inv _ hr hy H
    refine ⟨fun h => (by rw [h] at hr; cases hr), fun j hj => ?_⟩
    have hjn : j < n := Nat.lt_of_not_le fun h => mid_waits hs hc inv _ i rfl hin (mem_ready.1 hr).1 j h hj
    by_cases hji : j = i
    · subst hji; exact ⟨hjn, hy.stOp hi H⟩
    · have := hdone _ _ H j (ready_mono hj hji)
      omega
  | succ f ih =>
    intro listed a inv hfree hr hy H
    refine ⟨fun h => (by rw [h] at hr; cases hr), fun j hj => ?_⟩
    have hun := (mem_ready.1 hr).1
    have hjn : j < n := Nat.lt_of_not_le fun h => mid_waits hs hc inv _ i rfl hin hun j h hj
    refine ⟨hjn, ?_⟩
    by_cases hji : j = i
    · subst hji; exact hy.stOp hi H
    · obtain ⟨hjun, oj, hoj, hall⟩ := mem_ready.1 hj
      have hnot : ∀ e ∈ oj.after, Region.binds md e = true → e.on ≠ i := fun e he hb heq => by
        have h1 := hall e he hb
        rw [heq, getD_both hun] at h1
        cases h1
      have h2 := stOp_put hoj (hfree j oj hoj hji hjun hnot) (fun cs b => hsel i oi cs b hi) (fun cs b => hsel j oj cs b hoj) hy (H.2 j (ready_mono hj hji)).2
      refine stOp_mono (fun a' h3 => ih (listed.setIfInBounds j true) a' (inv.set hj hjn) (fun k ok hk hki hunk hno => hfree k ok hk hki ?_ hno) (ready_mono hr (Ne.symm hji)) h3.1 ?_) h2
      · by_cases hjk : j = k
        · subst hjk; exact hjun
        · rwa [getD_set_ne true hjk] at hunk
      · rw [Array.setIfInBounds_comm _ _ hji]
        exact h3.2

/-- A run of operations in the order of the list, and a check behind it. -/
def lexSeg (md : Region.Mode) (ops : Array Oper) (fin : Array Bool → Bool) : Nat → Nat → Array Bool → Bool
  | 0, _, listed => fin listed
  | f + 1, k, listed => (Region.ready md ops listed).contains k && Region.free md ops listed k && lexSeg md ops fin f (k + 1) (listed.setIfInBounds k true)

theorem mid_lex {n : Nat} {Lq : Act → Prop} {fin : Array Bool → Bool} (hsel : Region.noSelect ops = true) (hs : Region.sinkB md ops n = true) (hc : behindB md ops n = true)
    (hfin : ∀ listed, fin listed = true → Region.ready md ops listed = [n]) :
    ∀ (l : List Oper) (k : Nat) (listed : Array Bool) (a : Act), (∀ j, j < l.length → l[j]? = ops[k + j]?) → k + l.length = n → HeadInv md ops n listed →
    lexSeg md ops fin l.length k listed = true → wpStill P ops w Lq l a →
    wpAnyL P md ops w n (fun listed' a' => (HeadInv md ops n listed' ∧ fin listed' = true) ∧ Lq a') l.length listed a
  | [], _, _, _, _, _, inv, hB, h => ⟨⟨inv, hB⟩, h⟩
  | o :: l, k, listed, a, hl, hk, inv, hB, h => by
    have h0 : ops[k]? = some o := by simpa using (hl 0 (by simp)).symm
    simp only [List.length_cons, lexSeg, Bool.and_eq_true] at hB
    obtain ⟨⟨hr, hf⟩, hB'⟩ := hB
    simp only [List.length_cons] at hk
    have hr' : k ∈ Region.ready md ops listed := by simpa using hr
    have hst : stOp P ops w k (wpStill P ops w Lq l) a := by unfold stOp; simp only [h0]; exact h
    obtain ⟨v, hy, hK⟩ := yieldsAt_of_stOp h0 hst
    exact mid_first h0 (Region.noSelect_spec hsel) hs hc (by omega) (fun listed' a' hL j hj => by rw [hfin _ hL.1.2] at hj; simp at hj; omega) l.length listed a inv (Region.free_spec h0 hf) hr' hy
      (mid_lex hsel hs hc hfin l (k + 1) _ _ (fun j hj => by have := hl (j + 1) (by simp; omega); simpa [Nat.add_assoc, Nat.add_comm 1 j] using this) (by omega) (inv.set hr' (by omega)) hB' hK)

/-- May the region be walked so? -/
def segB (md : Region.Mode) (ops : Array Oper) : List Nat → Nat → Array Bool → Bool
  | [], k, listed => Region.lexFrom md ops (ops.size - k) k listed
  | b :: bs, k, listed => decide (k ≤ b) && decide (b < ops.size) && (bs.head?.all fun c => decide (b < c)) && Region.sinkB md ops b && behindB md ops b &&
      lexSeg md ops (fun l' => decide (Region.ready md ops l' = [b]) && segB md ops bs (b + 1) (l'.setIfInBounds b true)) (b - k) k listed

theorem wpOp_of_list {b : Nat} {o : Oper} {K : Act → World → Prop} {Q' : Exit → Act → World → Prop} {a : Act} {w : World} (hb : ops[b]? = some o) (h : wpList P ops (Exit.then K Q') [o] a w) : wpOp P ops Q' b K a w := by
  unfold wpOp
  simp only [hb]
  unfold wpList at h
  have key : o.wp P a w K (Exit.then K Q') → o.wp P a w K Q' := by
    intro h
    unfold Oper.wp at *
    generalize (execOp a.eval o).run P w = r at *
    cases r with
    | ok n w' => cases n <;> exact h
    | halt x w' => cases x <;> exact h
  split
  · rename_i hw
    rw [if_pos hw] at h
    rcases h with h | h
    · exact .inl (key h)
    · exact .inr h
  · rename_i hw
    rw [if_neg hw] at h
    exact h

/-- The walk: runs that leave the world alone, and between them operations that may turn it. -/
def wpSeg (P : Program) (ops : Array Oper) (Q' : Exit → Act → World → Prop) : List Nat → Nat → Act → World → Prop
  | [], k, a, w => wpStill P ops w (fun a' => Q' .normal a' w) (ops.toList.drop k) a
  | b :: bs, k, a, w => wpStill P ops w (fun a' => wpList P ops (Exit.then (wpSeg P ops Q' bs (b + 1)) Q') ((ops.toList.drop b).take 1) a' w) ((ops.toList.drop k).take (b - k)) a

theorem headUp {n m : Nat} {listed : Array Bool} (h : HeadInv md ops n listed) (hnm : n ≤ m) : HeadInv md ops m listed := ⟨h.size, h.closed, fun t ht => h.tail t (by omega)⟩

theorem wpAny_of_seg (hsel : Region.noSelect ops = true) {Q' : Exit → Act → World → Prop} : ∀ (bs : List Nat) (k : Nat) (listed : Array Bool) (a : Act) (w : World),
    (∀ b, bs.head? = some b → HeadInv md ops b listed) → segB md ops bs k listed = true → wpSeg P ops Q' bs k a w → wpAny P md ops Q' (ops.size - k) listed a w
  | [], k, listed, a, w, _, hB, h => by
    refine wpAny_of_still (Q := fun a' => Q' .normal a' w) (fun _ h => h) _ _ _ ?_
    have hl : (ops.toList.drop k).length = ops.size - k := by simp
    have := wpAnyS_lex (P := P) (w := w) (md := md) (Q := fun a' => Q' .normal a' w) hsel (ops.toList.drop k) k listed a (fun j => by simp [List.getElem?_drop]) (by rw [hl]; exact hB) h
    rwa [hl] at this
  | b :: bs, k, listed, a, w, hinv, hB, h => by
    simp only [segB, Bool.and_eq_true, decide_eq_true_eq] at hB
    obtain ⟨⟨⟨⟨⟨hkb, hbs⟩, hnext⟩, hs⟩, hc⟩, hseg⟩ := hB
    have inv := hinv b rfl
    have hl : ((ops.toList.drop k).take (b - k)).length = b - k := by simp; omega
    have H := mid_lex (P := P) (w := w) (fin := fun l' => decide (Region.ready md ops l' = [b]) && segB md ops bs (b + 1) (l'.setIfInBounds b true)) (Lq := fun a' => wpList P ops (Exit.then (wpSeg P ops Q' bs (b + 1)) Q') ((ops.toList.drop b).take 1) a' w) hsel hs hc (fun l' hl' => by simp only [Bool.and_eq_true, decide_eq_true_eq] at hl'; exact hl'.1)
      ((ops.toList.drop k).take (b - k)) k listed a (fun j hj => by rw [hl] at hj; simp [hj]) (by rw [hl]; omega) inv (by rw [hl]; exact hseg) h
    rw [hl] at H
    have G := wpAny_of_head (Q' := Q') (g := ops.size - b) (fun listed' a' hL => ?_) _ _ _ H
    · rwa [show b - k + (ops.size - b) = ops.size - k by omega] at G
    · obtain ⟨⟨inv', hf⟩, hop⟩ := hL
      simp only [Bool.and_eq_true, decide_eq_true_eq] at hf
      obtain ⟨hready, hB'⟩ := hf
      rw [show ops.size - b = (ops.size - (b + 1)) + 1 by omega]
      refine ⟨fun h1 => (by rw [hready] at h1; cases h1), fun i hi => ?_⟩
      rw [hready] at hi
      obtain rfl : i = b := by simpa using hi
      have hop2 : (ops.toList.drop i).take 1 = [ops[i]] := by
        rw [List.drop_eq_getElem_cons (by simpa using hbs)]; simp
      rw [hop2] at hop
      refine wpOp_mono (fun a' w' h' => wpAny_of_seg hsel bs (i + 1) _ a' w' (fun c hcb => ?_) hB' h') (wpOp_of_list (Array.getElem?_eq_getElem hbs) hop)
      have hic : i < c := by rw [hcb] at hnext; simpa using hnext
      exact (headUp inv' (by omega)).set (by rw [hready]; simp) hic

/-- THE LAW. -/
theorem wp_region_seg {id : Nat} {Q : Exit → Act → World → Prop} {a : Act} {w : World} {l : List Oper} (bs : List Nat) (hm : P.follows .mixedOrders = true) (hB : (Region.noSelect l.toArray && segB .any l.toArray bs 0 (Array.replicate l.toArray.size false)) = true)
    (h : wpSeg P l.toArray Q bs 0 a { w with drawn := w.drawn + 1 }) : (Code.region id l.toArray true).wp P Q a w := by
  simp only [Bool.and_eq_true] at hB
  refine wp_region_any hm ?_
  have := wpAny_of_seg (md := .any) hB.1 bs 0 (Array.replicate l.toArray.size false) a _ (fun b _ => ⟨by simp, fun j oj _ hl => (by rw [getD_replicate_false] at hl; cases hl), fun t _ ht => getD_in (by simpa using ht) (getD_replicate_false _ _)⟩) hB.2 h
  simpa using this
end
end Go.Proofs.YtkhokdikabopfaaGreatDoor
