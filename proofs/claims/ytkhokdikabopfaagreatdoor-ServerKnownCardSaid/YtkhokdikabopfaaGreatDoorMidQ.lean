/-
  The law of the text Mid, for runs of operations that leave a world of a class (that only draw; or that make memory besides), and yield the same in every world of it.
-/
import Derived.Test.YtkhokdikabopfaaGreatDoorMid
import Derived.Test.YtkhokdikabopfaaGreatDoorHeap
import Derived.Deep.QuietTactic
import Derived.BigQuiet
namespace Go.Proofs.YtkhokdikabopfaaGreatDoor
open Go

section
variable {P : Program} {ops : Array Oper} {md : Region.Mode} {C : World → Prop}

def wpAnyQL (P : Program) (md : Region.Mode) (ops : Array Oper) (C : World → Prop) (n : Nat) (L : Array Bool → Act → Prop) : Nat → Array Bool → Act → Prop
  | 0, listed, a => L listed a
  | f + 1, listed, a => Region.ready md ops listed ≠ [] ∧ ∀ i ∈ Region.ready md ops listed, i < n ∧ qOp P ops C i (wpAnyQL P md ops C n L f (listed.setIfInBounds i true)) a

theorem wpAny_of_headQ {n g : Nat} {L : Array Bool → Act → Prop} {Q' : Exit → Act → World → Prop} (hL : ∀ listed a w, C w → L listed a → wpAny P md ops Q' g listed a w) :
    ∀ (f : Nat) (listed : Array Bool) (a : Act) (w : World), C w → wpAnyQL P md ops C n L f listed a → wpAny P md ops Q' (f + g) listed a w
  | 0, listed, a, w, hw, h => by rw [Nat.zero_add]; exact hL _ _ _ hw h
  | f + 1, listed, a, w, hw, h => by
    rw [show f + 1 + g = (f + g) + 1 by omega]
    exact ⟨fun h0 => absurd h0 h.1, fun i hi => wpOp_of_qOp hw (fun a' w' hw' h' => wpAny_of_headQ hL f _ a' w' hw' h') (h.2 i hi).2⟩

theorem mid_firstQ {n i : Nat} {oi : Oper} {v : Value} {L : Array Bool → Act → Prop} (hi : ops[i]? = some oi) (hsel : ∀ (j : Nat) (o : Oper) cs b, ops[j]? = some o → o.op ≠ .select cs b)
    (hs : Region.sinkB md ops n = true) (hc : behindB md ops n = true) (hin : i < n) (hdone : ∀ listed a, L listed a → ∀ j ∈ Region.ready md ops listed, n ≤ j) :
    ∀ (f : Nat) (listed : Array Bool) (a : Act), HeadInv md ops n listed →
      (∀ j oj, ops[j]? = some oj → j ≠ i → listed.getD j true = false → (∀ e ∈ oj.after, Region.binds md e = true → e.on ≠ i) → oi.apart ops oj = true) →
      i ∈ Region.ready md ops listed → YieldsIn P ops C oi v a →
      wpAnyQL P md ops C n L f (listed.setIfInBounds i true) (a.put oi.dst v) → wpAnyQL P md ops C n L (f + 1) listed a := by
  intro f
  induction f with
  | zero =>
    intro listed a inv _ hr hy H
    refine ⟨fun h => (by rw [h] at hr; cases hr), fun j hj => ?_⟩
    have hjn : j < n := Nat.lt_of_not_le fun h => mid_waits hs hc inv _ i rfl hin (mem_ready.1 hr).1 j h hj
    by_cases hji : j = i
    · subst hji; exact ⟨hjn, hy.qOp hi H⟩
    · have := hdone _ _ H j (ready_mono hj hji)
      omega
  | succ f ih =>
    intro listed a inv hfree hr hy H
    refine ⟨fun h => (by rw [h] at hr; cases hr), fun j hj => ?_⟩
    have hun := (mem_ready.1 hr).1
    have hjn : j < n := Nat.lt_of_not_le fun h => mid_waits hs hc inv _ i rfl hin hun j h hj
    refine ⟨hjn, ?_⟩
    by_cases hji : j = i
    · subst hji; exact hy.qOp hi H
    · obtain ⟨hjun, oj, hoj, hall⟩ := mem_ready.1 hj
      have hnot : ∀ e ∈ oj.after, Region.binds md e = true → e.on ≠ i := fun e he hb heq => by
        have h1 := hall e he hb
        rw [heq, getD_both hun] at h1
        cases h1
      have h2 := qOp_put hoj (hfree j oj hoj hji hjun hnot) (fun cs b => hsel i oi cs b hi) (fun cs b => hsel j oj cs b hoj) hy (H.2 j (ready_mono hj hji)).2
      refine qOp_mono (fun a' h3 => ih (listed.setIfInBounds j true) a' (inv.set hj hjn) (fun k ok hk hki hunk hno => hfree k ok hk hki ?_ hno) (ready_mono hr (Ne.symm hji)) h3.1 ?_) h2
      · by_cases hjk : j = k
        · subst hjk; exact hjun
        · rwa [getD_set_ne true hjk] at hunk
      · rw [Array.setIfInBounds_comm _ _ hji]
        exact h3.2

theorem mid_lexQ {n : Nat} {Lq : Act → Prop} {fin : Array Bool → Bool} (hsel : Region.noSelect ops = true) (hs : Region.sinkB md ops n = true) (hc : behindB md ops n = true)
    (hfin : ∀ listed, fin listed = true → Region.ready md ops listed = [n]) :
    ∀ (l : List Oper) (k : Nat) (listed : Array Bool) (a : Act), (∀ j, j < l.length → l[j]? = ops[k + j]?) → k + l.length = n → HeadInv md ops n listed →
    lexSeg md ops fin l.length k listed = true → wpQuiet P ops C Lq l a →
    wpAnyQL P md ops C n (fun listed' a' => (HeadInv md ops n listed' ∧ fin listed' = true) ∧ Lq a') l.length listed a
  | [], _, _, _, _, _, inv, hB, h => ⟨⟨inv, hB⟩, h⟩
  | o :: l, k, listed, a, hl, hk, inv, hB, h => by
    have h0 : ops[k]? = some o := by simpa using (hl 0 (by simp)).symm
    simp only [List.length_cons, lexSeg, Bool.and_eq_true] at hB
    obtain ⟨⟨hr, hf⟩, hB'⟩ := hB
    simp only [List.length_cons] at hk
    have hr' : k ∈ Region.ready md ops listed := by simpa using hr
    have hst : qOp P ops C k (wpQuiet P ops C Lq l) a := by unfold qOp; simp only [h0]; exact h
    obtain ⟨v, hy, hK⟩ := yieldsIn_of_qOp h0 hst
    exact mid_firstQ h0 (Region.noSelect_spec hsel) hs hc (by omega) (fun listed' a' hL j hj => by rw [hfin _ hL.1.2] at hj; simp at hj; omega) l.length listed a inv (Region.free_spec h0 hf) hr' hy
      (mid_lexQ hsel hs hc hfin l (k + 1) _ _ (fun j hj => by have := hl (j + 1) (by simp; omega); simpa [Nat.add_assoc, Nat.add_comm 1 j] using this) (by omega) (inv.set hr' (by omega)) hB' hK)

/-- The walk: runs in a class, and between them operations that may turn the world. -/
def wpSegQ (P : Program) (ops : Array Oper) (Cl : World → World → Prop) (Q' : Exit → Act → World → Prop) : List Nat → Nat → Act → World → Prop
  | [], k, a, w => wpQuiet P ops (Cl w) (fun a' => ∀ w', Cl w w' → Q' .normal a' w') (ops.toList.drop k) a
  | b :: bs, k, a, w => wpQuiet P ops (Cl w) (fun a' => ∀ w', Cl w w' → wpList P ops (Exit.then (wpSegQ P ops Cl Q' bs (b + 1)) Q') ((ops.toList.drop b).take 1) a' w') ((ops.toList.drop k).take (b - k)) a

theorem wpAny_of_segQ {Cl : World → World → Prop} (hrefl : ∀ w, Cl w w) (hsel : Region.noSelect ops = true) {Q' : Exit → Act → World → Prop} : ∀ (bs : List Nat) (k : Nat) (listed : Array Bool) (a : Act) (w w1 : World), Cl w w1 →
    (∀ b, bs.head? = some b → HeadInv md ops b listed) → segB md ops bs k listed = true → wpSegQ P ops Cl Q' bs k a w → wpAny P md ops Q' (ops.size - k) listed a w1
  | [], k, listed, a, w, w1, hw, _, hB, h => by
    refine wpAny_of_quiet (C := Cl w) (Q := fun a' => ∀ w', Cl w w' → Q' .normal a' w') (fun _ w' hw' h => h w' hw') _ _ _ _ hw ?_
    have hl : (ops.toList.drop k).length = ops.size - k := by simp
    have := wpAnyQ_lex (P := P) (C := Cl w) (md := md) (Q := fun a' => ∀ w', Cl w w' → Q' .normal a' w') hsel (ops.toList.drop k) k listed a (fun j => by simp [List.getElem?_drop]) (by rw [hl]; exact hB) h
    rwa [hl] at this
  | b :: bs, k, listed, a, w, w1, hw, hinv, hB, h => by
    simp only [segB, Bool.and_eq_true, decide_eq_true_eq] at hB
    obtain ⟨⟨⟨⟨⟨hkb, hbs⟩, hnext⟩, hs⟩, hc⟩, hseg⟩ := hB
    have inv := hinv b rfl
    have hl : ((ops.toList.drop k).take (b - k)).length = b - k := by simp; omega
    have H := mid_lexQ (P := P) (C := Cl w) (fin := fun l' => decide (Region.ready md ops l' = [b]) && segB md ops bs (b + 1) (l'.setIfInBounds b true)) (Lq := fun a' => ∀ w', Cl w w' → wpList P ops (Exit.then (wpSegQ P ops Cl Q' bs (b + 1)) Q') ((ops.toList.drop b).take 1) a' w') hsel hs hc (fun l' hl' => by simp only [Bool.and_eq_true, decide_eq_true_eq] at hl'; exact hl'.1)
      ((ops.toList.drop k).take (b - k)) k listed a (fun j hj => by rw [hl] at hj; simp [hj]) (by rw [hl]; omega) inv (by rw [hl]; exact hseg) h
    rw [hl] at H
    have G := wpAny_of_headQ (C := Cl w) (Q' := Q') (g := ops.size - b) (fun listed' a' w2 hw2 hL => ?_) _ _ _ w1 hw H
    · rwa [show b - k + (ops.size - b) = ops.size - k by omega] at G
    · obtain ⟨⟨inv', hf⟩, hop⟩ := hL
      simp only [Bool.and_eq_true, decide_eq_true_eq] at hf
      obtain ⟨hready, hB'⟩ := hf
      rw [show ops.size - b = (ops.size - (b + 1)) + 1 by omega]
      refine ⟨fun h1 => (by rw [hready] at h1; cases h1), fun i hi => ?_⟩
      rw [hready] at hi
      obtain rfl : i = b := by simpa using hi
      have hop2 : (ops.toList.drop i).take 1 = [ops[i]] := by
        rw [List.drop_eq_getElem_cons (by simpa using hbs)]; simp
      have hop := hop w2 hw2
      rw [hop2] at hop
      refine wpOp_mono (fun a' w' h' => wpAny_of_segQ hrefl hsel bs (i + 1) _ a' w' w' (hrefl w') (fun c hcb => ?_) hB' h') (wpOp_of_list (Array.getElem?_eq_getElem hbs) hop)
      have hic : i < c := by rw [hcb] at hnext; simpa using hnext
      exact (headUp inv' (by omega)).set (by rw [hready]; simp) hic

/-- THE LAW. -/
theorem wp_region_segQ {id : Nat} {Q : Exit → Act → World → Prop} {a : Act} {w : World} {l : List Oper} (Cl : World → World → Prop) (hrefl : ∀ w, Cl w w) (hdraw : ∀ w : World, Cl w { w with drawn := w.drawn + 1 }) (bs : List Nat) (hm : P.follows .mixedOrders = true) (hB : (Region.noSelect l.toArray && segB .any l.toArray bs 0 (Array.replicate l.toArray.size false)) = true)
    (h : wpSegQ P l.toArray Cl Q bs 0 a w) : (Code.region id l.toArray true).wp P Q a w := by
  simp only [Bool.and_eq_true] at hB
  refine wp_region_any hm ?_
  have := wpAny_of_segQ (md := .any) hrefl hB.1 bs 0 (Array.replicate l.toArray.size false) a w _ (hdraw w) (fun b _ => ⟨by simp, fun j oj _ hl => (by rw [getD_replicate_false] at hl; cases hl), fun t _ ht => getD_in (by simpa using ht) (getD_replicate_false _ _)⟩) hB.2 h
  simpa using this

/-- Some draws. -/
def Drawn (w w' : World) : Prop := ∃ n, w' = w.drewN n
theorem Drawn.refl (w : World) : Drawn w w := ⟨0, rfl⟩
theorem Drawn.draw (w : World) : Drawn w { w with drawn := w.drawn + 1 } := ⟨1, rfl⟩
end
end Go.Proofs.YtkhokdikabopfaaGreatDoor
