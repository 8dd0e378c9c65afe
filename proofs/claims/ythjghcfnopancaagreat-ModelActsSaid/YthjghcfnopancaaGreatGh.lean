/-
  Rows of ints that a call owns: a cell, a store, and small facts on loads.
-/
import Derived.Test.YthjghcfnopancaaGreatGb
import Derived.OwnWalk
import Derived.StillTailTactics
import Derived.WalkKit
import Derived.Test.YthjghcfnopancaaGreatGa
import Derived.Test.YthjghcfnopancaaGreatRows
import Derived.Deep.LoopGhost
namespace Go.Proofs.YthjghcfnopancaaGreat
open Go.RowKit Go.Shelf Go.Maps

theorem row_cell {w : World} {base : Nat} {e : TypeId} {v : Value} {cs : List Int} (h : w.ownsRow base e 1 v cs.length (cs.map (Value.int .i64))) {i : Nat} (hi : i < cs.length) :
    ∃ g cap, v = .slice (some ⟨g, 0, none⟩) cs.length cap ∧ base ≤ g ∧ g < w.heap.size ∧ w.cell? ⟨g, i, none⟩ = some (.int .i64 (cs.getD i 0)) := by
  obtain ⟨hx, ⟨rfl, hn⟩ | ⟨g, cap, cur, rfl, hb, hg, hnc, hcm, hcs, htake⟩⟩ := id h
  · simp at hn; subst hn; simp at hi
  · refine ⟨g, cap, rfl, hb, ltOf hg, ?_⟩
    have := h.cells (g := g) rfl i (.int .i64 (cs.getD i 0)) (by simp [List.getD, List.getElem?_eq_getElem hi])
    by_cases hi0 : i = 0
    · subst hi0; simpa [Addr.add] using this
    · simpa [Addr.add, hi0] using this

theorem Keeps.grown {l : List Nat} {w0 w w' : World} {v : Value} (h : Keeps l w0 w) (hg : w.grownBy w' v.ownBlock) (hn : ∀ g, v.ownBlock = some g → w0.heap.size ≤ g) : Keeps l w0 w' := by
  obtain ⟨h1, h2, h3, h4, h5⟩ := hg
  exact h.of_old h1 h2 h3 h4 (fun k hk _ => h5 k (by have := h.size; omega) (fun e => by have := hn k e.symm; omega))

theorem blk_setCell_ne {w : World} {b g i : Nat} {o : Obj} {v : Value} (h : w.heap[b]? = some o) (hn : g ≠ b) : (w.setCell ⟨g, i, none⟩ v).heap[b]? = some o :=
  (Below.heap_setCell _ _ _ _ (fun e => hn (by simpa using e.symm))).trans h

theorem row_set {w : World} {base : Nat} {e : TypeId} {g len cap : Nat} {cs : List Int} (h : w.ownsRow base e 1 (.slice (some ⟨g, 0, none⟩) len cap) cs.length (cs.map (Value.int .i64))) {k : Nat} (_ : k < cs.length) (c : Int) :
    (w.setCell ⟨g, k, none⟩ (.int .i64 c)).ownsRow base e 1 (.slice (some ⟨g, 0, none⟩) len cap) (cs.set k c).length ((cs.set k c).map (Value.int .i64)) ∧ w.frozen? ⟨g, k, none⟩ = false := by
  obtain ⟨hx, ⟨h1, hn⟩ | ⟨g', cap', cur, e1, hb, hg, hnc, hcm, hcs, htake⟩⟩ := id h
  · simp at h1
  · simp only [Value.slice.injEq, Option.some.injEq, Addr.mk.injEq, and_true] at e1
    obtain ⟨rfl, rfl, rfl⟩ := e1
    refine ⟨⟨by simp, .inr ⟨_, _, cur.set! k (.int .i64 c), by simp, hb, ?_, by simpa using hnc, hcm, by simpa using hcs, ?_⟩⟩, ?_⟩
    · exact blk_setCell hg k _
    · simp only [Nat.mul_one, List.length_set, Array.set!_eq_setIfInBounds, Array.toList_setIfInBounds, List.take_set, List.map_set] at htake ⊢
      rw [htake]
    · exact freeOf hg k

theorem load_cell {T : TypeId} (hT : ∀ w, (isAgg T).run Tryz.prog w = .ok false w) {w : World} {b i : Nat} {v : Value} (hc : w.cell? ⟨b, i, none⟩ = some v) : (loadVar T ⟨b, i, none⟩).run Tryz.prog w = .ok v w := by
  unfold loadVar
  simp only [Sem.run_bind, hT, Result.andThen_ok]
  simp [run_load_at hc]

theorem run_receiver {T E : TypeId} (hT : (underlying T).run Tryz.prog = fun w => .ok (.pointer E) w) (hE : ∀ w, (isAgg E).run Tryz.prog w = .ok false w) {w : World} {p o : Nat} {v : Value} (h : w.cell? ⟨p, o, none⟩ = some v) (n : Option String) :
    (receiverAt T (.val (.pointer (some ⟨p, o, none⟩))) false n).run Tryz.prog w = .ok v w := by
  unfold receiverAt
  cases n with
  | none => simp [hT, Place.get, asAddr, load_cell hE h]
  | some name =>
    have e : (Builtin.ssaWrapNilChk_ #[T] T #[Value.pointer (some ⟨p, o, none⟩), strVal "", strVal name]).run Tryz.prog w = .ok (.pointer (some ⟨p, o, none⟩)) w := rfl
    simp [hT, Place.get, asAddr, load_cell hE h, e]

theorem run_info_at {t : TypeId} {i : TypeInfo} (hi : Tryz.prog.info? t = some i) (w : World) : (typeInfo t).run Tryz.prog w = .ok i w := by
  unfold typeInfo
  simp [hi]

/-- A method with a value receiver, looked up at a pointer. -/
theorem method_through {n : Nat} {T E : TypeId} {name : String} {f : FuncId} (hm : (Tryz.prog.info? T).bind (fun i => (i.methods.find? (·.name == name)).map fun m => (m.path, m.func)) = some (#[], some (f, false)))
    (hT : (underlying T).run Tryz.prog = fun w => .ok (.pointer E) w) (hE : ∀ w, (isAgg E).run Tryz.prog w = .ok false w) {w : World} {p o : Nat} {v : Value} (h : w.cell? ⟨p, o, none⟩ = some v) :
    (method (n + 1) T (.pointer (some ⟨p, o, none⟩)) name).run Tryz.prog w = .ok (f, v) w := by
  obtain ⟨i, hi, h2⟩ := Option.bind_eq_some_iff.1 hm
  obtain ⟨m, hf, h3⟩ := Option.map_eq_some_iff.1 h2
  simp only [Prod.mk.injEq] at h3
  unfold method
  simp [run_info_at hi, hf, h3.1, h3.2, follow, run_receiver hT hE h]

end Go.Proofs.YthjghcfnopancaaGreat

/-
  A law for a region that draws its order: runs of operations that leave the world alone, parted by operations (a call that makes memory, a store) that each wait for all ahead of them, and for which all behind them wait.
-/
namespace Go.Proofs.YthjghcfnopancaaGreat
open Go

section
variable {P : Program} {ops : Array Oper} {md : Region.Mode} {w : World}

/-- All behind the n-th operation wait for it, or for one that does. -/
def behindB (md : Region.Mode) (ops : Array Oper) (n : Nat) : Bool :=
  (List.range ops.size).all fun t => decide (t ≤ n) || (List.range t).any fun u => decide (n ≤ u) && Region.waitsFor md ops t u

theorem mid_waits {n : Nat} {listed : Array Bool} (hs : Region.sinkB md ops n = true) (hc : behindB md ops n = true) (inv : HeadInv md ops n listed) :
    ∀ (d i : Nat), n - i = d → i < n → listed.getD i true = false → ∀ t, n ≤ t → t ∉ Region.ready md ops listed := by
  intro d
  induction d using Nat.strongRecOn with
  | _ d ih =>
    intro i hd hi hun t ht hr
    obtain ⟨_, ot, hot, hall⟩ := mem_ready.1 hr
    have htlt : t < ops.size := (Array.getElem?_eq_some_iff.1 hot).1
    rcases Nat.lt_or_ge n t with h | h
    · have h1 := List.all_eq_true.1 hc t (List.mem_range.2 htlt)
      simp only [Bool.or_eq_true, decide_eq_true_eq] at h1
      rcases h1 with h1 | h1
      · omega
      · obtain ⟨u, hu, hu2⟩ := List.any_eq_true.1 h1
        simp only [Bool.and_eq_true, decide_eq_true_eq] at hu2
        have hut := List.mem_range.1 hu
        obtain ⟨o', ho', e, he, hb, hon⟩ := Region.waitsFor_spec hu2.2
        obtain rfl : o' = ot := Option.some.inj (ho'.symm.trans hot)
        have h2 := hall e he hb
        rw [hon, getD_both (inv.tail u hu2.1 (by omega))] at h2
        cases h2
    · obtain rfl : t = n := by omega
      have h1 := List.all_eq_true.1 hs i (List.mem_range.2 hi)
      obtain ⟨j, hj, hj2⟩ := List.any_eq_true.1 h1
      simp only [Bool.and_eq_true, decide_eq_true_eq] at hj2
      obtain ⟨oj, hoj, e, he, hb, hon⟩ := Region.waitsFor_spec hj2.2
      have hjle : j ≤ t := by have := List.mem_range.1 hj; omega
      rcases Nat.lt_or_ge j t with hjt | hjt
      · cases hl : listed.getD j false with
        | true =>
          have h2 := inv.closed j oj hoj hl e he hb
          rw [hon, getD_both hun] at h2
          cases h2
        | false => exact ih (t - j) (by omega) j rfl hjt (getD_in (by rw [inv.size]; omega) hl) t (Nat.le_refl _) hr
      · obtain rfl : j = t := by omega
        obtain rfl : oj = ot := Option.some.inj (hoj.symm.trans hot)
        have h2 := hall e he hb
        rw [hon, getD_both hun] at h2
        cases h2

theorem mid_first {n i : Nat} {oi : Oper} {v : Value} {L : Array Bool → Act → Prop} (hi : ops[i]? = some oi) (hsel : ∀ (j : Nat) (o : Oper) cs b, ops[j]? = some o → o.op ≠ .select cs b)
    (hs : Region.sinkB md ops n = true) (hc : behindB md ops n = true) (hin : i < n) (hdone : ∀ listed a, L listed a → ∀ j ∈ Region.ready md ops listed, n ≤ j) :
    ∀ (f : Nat) (listed : Array Bool) (a : Act), HeadInv md ops n listed →
      (∀ j oj, ops[j]? = some oj → j ≠ i → listed.getD j true = false → (∀ e ∈ oj.after, Region.binds md e = true → e.on ≠ i) → oi.apart ops oj = true) →
      i ∈ Region.ready md ops listed → YieldsAt P ops w oi v a →
      wpAnyL P md ops w n L f (listed.setIfInBounds i true) (a.put oi.dst v) → wpAnyL P md ops w n L (f + 1) listed a := by
  intro f
  induction f with
  | zero =>
    intro listed a inv _ hr hy H
    refine ⟨fun h => (by rw [h] at hr; cases hr), fun j hj => ?_⟩
    have hjn : j < n := Nat.lt_of_not_le fun h => mid_waits hs hc inv _ i rfl hin (mem_ready.1 hr).1 j h hj
    by_cases hji : j = i
    · subst hji; exact ⟨hjn, hy.stOp hi H⟩
    · have := hdone _ _ H j (ready_mono hj hji)
      omega
  | succ f ih =>
    intro listed a inv hfree hr hy H
    refine ⟨fun h => (by rw [h] at hr; cases hr), fun j hj => ?_⟩
    have hun := (mem_ready.1 hr).1
    have hjn : j < n := Nat.lt_of_not_le fun h => mid_waits hs hc inv _ i rfl hin hun j h hj
    refine ⟨hjn, ?_⟩
    by_cases hji : j = i
    · subst hji; exact hy.stOp hi H
    · obtain ⟨hjun, oj, hoj, hall⟩ := mem_ready.1 hj
      have hnot : ∀ e ∈ oj.after, Region.binds md e = true → e.on ≠ i := fun e he hb heq => by
        have h1 := hall e he hb
        rw [heq, getD_both hun] at h1
        cases h1
      have h2 := stOp_put hoj (hfree j oj hoj hji hjun hnot) (fun cs b => hsel i oi cs b hi) (fun cs b => hsel j oj cs b hoj) hy (H.2 j (ready_mono hj hji)).2
      refine stOp_mono (fun a' h3 => ih (listed.setIfInBounds j true) a' (inv.set hj hjn) (fun k ok hk hki hunk hno => hfree k ok hk hki ?_ hno) (ready_mono hr (Ne.symm hji)) h3.1 ?_) h2
      · by_cases hjk : j = k
        · subst hjk; exact hjun
        · rwa [getD_set_ne true hjk] at hunk
      · rw [Array.setIfInBounds_comm _ _ hji]
        exact h3.2

/-- A run of operations in the order of the list, and a check behind it. -/
def lexSeg (md : Region.Mode) (ops : Array Oper) (fin : Array Bool → Bool) : Nat → Nat → Array Bool → Bool
  | 0, _, listed => fin listed
  | f + 1, k, listed => (Region.ready md ops listed).contains k && Region.free md ops listed k && lexSeg md ops fin f (k + 1) (listed.setIfInBounds k true)

theorem mid_lex {n : Nat} {Lq : Act → Prop} {fin : Array Bool → Bool} (hsel : Region.noSelect ops = true) (hs : Region.sinkB md ops n = true) (hc : behindB md ops n = true)
    (hfin : ∀ listed, fin listed = true → Region.ready md ops listed = [n]) :
    ∀ (l : List Oper) (k : Nat) (listed : Array Bool) (a : Act), (∀ j, j < l.length → l[j]? = ops[k + j]?) → k + l.length = n → HeadInv md ops n listed →
    lexSeg md ops fin l.length k listed = true → wpStill P ops w Lq l a →
    wpAnyL P md ops w n (fun listed' a' => (HeadInv md ops n listed' ∧ fin listed' = true) ∧ Lq a') l.length listed a
  | [], _, _, _, _, _, inv, hB, h => ⟨⟨inv, hB⟩, h⟩
  | o :: l, k, listed, a, hl, hk, inv, hB, h => by
    have h0 : ops[k]? = some o := by simpa using (hl 0 (by simp)).symm
    simp only [List.length_cons, lexSeg, Bool.and_eq_true] at hB
    obtain ⟨⟨hr, hf⟩, hB'⟩ := hB
    simp only [List.length_cons] at hk
    have hr' : k ∈ Region.ready md ops listed := by simpa using hr
    have hst : stOp P ops w k (wpStill P ops w Lq l) a := by unfold stOp; simp only [h0]; exact h
    obtain ⟨v, hy, hK⟩ := yieldsAt_of_stOp h0 hst
    exact mid_first h0 (Region.noSelect_spec hsel) hs hc (by omega) (fun listed' a' hL j hj => by rw [hfin _ hL.1.2] at hj; simp at hj; omega) l.length listed a inv (Region.free_spec h0 hf) hr' hy
      (mid_lex hsel hs hc hfin l (k + 1) _ _ (fun j hj => by have := hl (j + 1) (by simp; omega); simpa [Nat.add_assoc, Nat.add_comm 1 j] using this) (by omega) (inv.set hr' (by omega)) hB' hK)

/-- May the region be walked so? -/
def segB (md : Region.Mode) (ops : Array Oper) : List Nat → Nat → Array Bool → Bool
  | [], k, listed => Region.lexFrom md ops (ops.size - k) k listed
  | b :: bs, k, listed => decide (k ≤ b) && decide (b < ops.size) && (bs.head?.all fun c => decide (b < c)) && Region.sinkB md ops b && behindB md ops b &&
      lexSeg md ops (fun l' => decide (Region.ready md ops l' = [b]) && segB md ops bs (b + 1) (l'.setIfInBounds b true)) (b - k) k listed

theorem wpOp_of_list {b : Nat} {o : Oper} {K : Act → World → Prop} {Q' : Exit → Act → World → Prop} {a : Act} {w : World} (hb : ops[b]? = some o) (h : wpList P ops (Exit.then K Q') [o] a w) : wpOp P ops Q' b K a w := by
  unfold wpOp
  simp only [hb]
  unfold wpList at h
  have key : o.wp P a w K (Exit.then K Q') → o.wp P a w K Q' := by
    intro h
    unfold Oper.wp at *
    generalize (execOp a.eval o).run P w = r at *
    cases r with
    | ok n w' => cases n <;> exact h
    | halt x w' => cases x <;> exact h
  split
  · rename_i hw
    rw [if_pos hw] at h
    rcases h with h | h
    · exact .inl (key h)
    · exact .inr h
  · rename_i hw
    rw [if_neg hw] at h
    exact h

/-- The walk: runs that leave the world alone, and between them operations that may turn it. -/
def wpSeg (P : Program) (ops : Array Oper) (Q' : Exit → Act → World → Prop) : List Nat → Nat → Act → World → Prop
  | [], k, a, w => wpStill P ops w (fun a' => Q' .normal a' w) (ops.toList.drop k) a
  | b :: bs, k, a, w => wpStill P ops w (fun a' => wpList P ops (Exit.then (wpSeg P ops Q' bs (b + 1)) Q') ((ops.toList.drop b).take 1) a' w) ((ops.toList.drop k).take (b - k)) a

theorem headUp {n m : Nat} {listed : Array Bool} (h : HeadInv md ops n listed) (hnm : n ≤ m) : HeadInv md ops m listed := ⟨h.size, h.closed, fun t ht => h.tail t (by omega)⟩

theorem wpAny_of_seg (hsel : Region.noSelect ops = true) {Q' : Exit → Act → World → Prop} : ∀ (bs : List Nat) (k : Nat) (listed : Array Bool) (a : Act) (w : World),
    (∀ b, bs.head? = some b → HeadInv md ops b listed) → segB md ops bs k listed = true → wpSeg P ops Q' bs k a w → wpAny P md ops Q' (ops.size - k) listed a w
  | [], k, listed, a, w, _, hB, h => by
    refine wpAny_of_still (Q := fun a' => Q' .normal a' w) (fun _ h => h) _ _ _ ?_
    have hl : (ops.toList.drop k).length = ops.size - k := by simp
    have := wpAnyS_lex (P := P) (w := w) (md := md) (Q := fun a' => Q' .normal a' w) hsel (ops.toList.drop k) k listed a (fun j => by simp [List.getElem?_drop]) (by rw [hl]; exact hB) h
    rwa [hl] at this
  | b :: bs, k, listed, a, w, hinv, hB, h => by
    simp only [segB, Bool.and_eq_true, decide_eq_true_eq] at hB
    obtain ⟨⟨⟨⟨⟨hkb, hbs⟩, hnext⟩, hs⟩, hc⟩, hseg⟩ := hB
    have inv := hinv b rfl
    have hl : ((ops.toList.drop k).take (b - k)).length = b - k := by simp; omega
    have H := mid_lex (P := P) (w := w) (fin := fun l' => decide (Region.ready md ops l' = [b]) && segB md ops bs (b + 1) (l'.setIfInBounds b true)) (Lq := fun a' => wpList P ops (Exit.then (wpSeg P ops Q' bs (b + 1)) Q') ((ops.toList.drop b).take 1) a' w) hsel hs hc (fun l' hl' => by simp only [Bool.and_eq_true, decide_eq_true_eq] at hl'; exact hl'.1)
      ((ops.toList.drop k).take (b - k)) k listed a (fun j hj => by rw [hl] at hj; simp [hj]) (by rw [hl]; omega) inv (by rw [hl]; exact hseg) h
    rw [hl] at H
    have G := wpAny_of_head (Q' := Q') (g := ops.size - b) (fun listed' a' hL => ?_) _ _ _ H
    · rwa [show b - k + (ops.size - b) = ops.size - k by omega] at G
    · obtain ⟨⟨inv', hf⟩, hop⟩ := hL
      simp only [Bool.and_eq_true, decide_eq_true_eq] at hf
      obtain ⟨hready, hB'⟩ := hf
      rw [show ops.size - b = (ops.size - (b + 1)) + 1 by omega]
      refine ⟨fun h1 => (by rw [hready] at h1; cases h1), fun i hi => ?_⟩
      rw [hready] at hi
      obtain rfl : i = b := by simpa using hi
      have hop2 : (ops.toList.drop i).take 1 = [ops[i]] := by
        rw [List.drop_eq_getElem_cons (by simpa using hbs)]; simp
      rw [hop2] at hop
      refine wpOp_mono (fun a' w' h' => wpAny_of_seg hsel bs (i + 1) _ a' w' (fun c hcb => ?_) hB' h') (wpOp_of_list (Array.getElem?_eq_getElem hbs) hop)
      have hic : i < c := by rw [hcb] at hnext; simpa using hnext
      exact (headUp inv' (by omega)).set (by rw [hready]; simp) hic

/-- THE LAW. -/
theorem wp_region_seg {id : Nat} {Q : Exit → Act → World → Prop} {a : Act} {w : World} {l : List Oper} (bs : List Nat) (hm : P.follows .mixedOrders = true) (hB : (Region.noSelect l.toArray && segB .any l.toArray bs 0 (Array.replicate l.toArray.size false)) = true)
    (h : wpSeg P l.toArray Q bs 0 a { w with drawn := w.drawn + 1 }) : (Code.region id l.toArray true).wp P Q a w := by
  simp only [Bool.and_eq_true] at hB
  refine wp_region_any hm ?_
  have := wpAny_of_seg (md := .any) hB.1 bs 0 (Array.replicate l.toArray.size false) a _ (fun b _ => ⟨by simp, fun j oj _ hl => (by rw [getD_replicate_false] at hl; cases hl), fun t _ ht => getD_in (by simpa using ht) (getD_replicate_false _ _)⟩) hB.2 h
  simpa using this
end
end Go.Proofs.YthjghcfnopancaaGreat

/-
  Binary heaps on lists, in plain words: no program in sight.
-/
namespace Go.Proofs.YthjghcfnopancaaGreat
namespace HP
section
variable {α : Type} [Inhabited α]

/-- Two places change what they hold. -/
def swp (xs : List α) (i j : Nat) : List α := (xs.set i (xs.getD j default)).set j (xs.getD i default)

theorem length_swp (xs : List α) (i j : Nat) : (swp xs i j).length = xs.length := by simp [swp]

theorem getD_swp {xs : List α} {i j : Nat} (hi : i < xs.length) (hj : j < xs.length) (k : Nat) :
    (swp xs i j).getD k default = if k = j then xs.getD i default else if k = i then xs.getD j default else xs.getD k default := by
  unfold swp
  simp only [List.getD_eq_getElem?_getD, List.getElem?_set, List.length_set]
  by_cases h1 : j = k
  · subst h1; simp [hj]
  · have h1' : ¬ k = j := fun e => h1 e.symm
    by_cases h2 : i = k
    · subst h2; simp [h1, h1', hi]
    · have h2' : ¬ k = i := fun e => h2 e.symm
      simp [h1, h2, h1', h2']

theorem perm_swp {xs : List α} {i j : Nat} (hi : i < xs.length) (hj : j < xs.length) : (swp xs i j).Perm xs := by
  have h := Array.swap_perm (xs := xs.toArray) (i := i) (j := j) (by simpa using hi) (by simpa using hj)
  have e : (xs.toArray.swap i j (by simpa using hi) (by simpa using hj)).toList = swp xs i j := by
    simp [Array.swap, swp, hi, hj, List.getD_eq_getElem?_getD]
  have := h.toList
  rw [e] at this
  simpa using this

/-- A strict order. -/
structure Strict (lt : α → α → Bool) : Prop where
  asymm : ∀ a b, lt a b = true → lt b a = false
  neg : ∀ a b c, lt a b = false → lt b c = false → lt a c = false

/-- The first n are a heap. -/
def Hp (lt : α → α → Bool) (xs : List α) (n : Nat) : Prop := ∀ k, 0 < k → k < n → lt (xs.getD k default) (xs.getD ((k - 1) / 2) default) = false

/-- A heap but for place j, which may be too small. -/
structure UpI (lt : α → α → Bool) (xs : List α) (n j : Nat) : Prop where
  a : ∀ k, 0 < k → k < n → k ≠ j → lt (xs.getD k default) (xs.getD ((k - 1) / 2) default) = false
  b : 0 < j → ∀ c, 0 < c → c < n → (c - 1) / 2 = j → lt (xs.getD c default) (xs.getD ((j - 1) / 2) default) = false

theorem UpI.stop0 {lt : α → α → Bool} {xs : List α} {n : Nat} (h : UpI lt xs n 0) : Hp lt xs n := fun k h1 h2 => h.a k h1 h2 (by omega)
theorem UpI.stop {lt : α → α → Bool} {xs : List α} {n j : Nat} (h : UpI lt xs n j) (hs : lt (xs.getD j default) (xs.getD ((j - 1) / 2) default) = false) : Hp lt xs n := fun k h1 h2 => by
  by_cases e : k = j
  · subst e; exact hs
  · exact h.a k h1 h2 e

theorem UpI.step {lt : α → α → Bool} (o : Strict lt) {xs : List α} {n j : Nat} (h : UpI lt xs n j) (hn : n ≤ xs.length) (hj : 0 < j) (hjn : j < n) (hl : lt (xs.getD j default) (xs.getD ((j - 1) / 2) default) = true) :
    UpI lt (swp xs ((j - 1) / 2) j) n ((j - 1) / 2) := by
  have hi : (j - 1) / 2 < j := by omega
  have hg := getD_swp (xs := xs) (i := (j - 1) / 2) (j := j) (by omega) (by omega)
  have hij := o.asymm _ _ hl
  refine ⟨fun k h1 h2 h3 => ?_, fun h0 c h1 h2 h3 => ?_⟩
  · rw [hg, hg]
    by_cases e1 : k = j
    · subst e1
      rw [if_pos rfl, if_neg (by omega), if_pos rfl]; exact hij
    · rw [if_neg e1, if_neg h3]
      by_cases e2 : (k - 1) / 2 = j
      · rw [if_pos e2]; exact h.b hj k h1 h2 e2
      · rw [if_neg e2]
        by_cases e3 : (k - 1) / 2 = (j - 1) / 2
        · rw [if_pos e3]
          have := h.a k h1 h2 e1
          rw [e3] at this
          exact o.neg _ _ _ this hij
        · rw [if_neg e3]; exact h.a k h1 h2 e1
  · rw [hg, hg]
    have hp : ¬ ((j - 1) / 2 - 1) / 2 = j := by omega
    have hp2 : ¬ ((j - 1) / 2 - 1) / 2 = (j - 1) / 2 := by omega
    rw [if_neg hp, if_neg hp2]
    have hA := h.a ((j - 1) / 2) h0 (by omega) (by omega)
    by_cases e1 : c = j
    · rw [if_pos e1]; exact hA
    · rw [if_neg e1, if_neg (by omega)]
      have := h.a c h1 h2 e1
      rw [h3] at this
      exact o.neg _ _ _ this hA

/-- A heap but for place i, which may be too great. -/
structure DownI (lt : α → α → Bool) (xs : List α) (n i : Nat) : Prop where
  a : ∀ k, 0 < k → k < n → (k - 1) / 2 ≠ i → lt (xs.getD k default) (xs.getD ((k - 1) / 2) default) = false
  b : 0 < i → ∀ c, 0 < c → c < n → (c - 1) / 2 = i → lt (xs.getD c default) (xs.getD ((i - 1) / 2) default) = false

theorem DownI.leaf {lt : α → α → Bool} {xs : List α} {n i : Nat} (h : DownI lt xs n i) (hl : n ≤ 2 * i + 1) : Hp lt xs n := fun k h1 h2 => h.a k h1 h2 (by omega)

/-- j is the child of i that goes first. -/
def Child (lt : α → α → Bool) (xs : List α) (n i j : Nat) : Prop := 0 < j ∧ j < n ∧ (j - 1) / 2 = i ∧ ∀ c, 0 < c → c < n → (c - 1) / 2 = i → lt (xs.getD c default) (xs.getD j default) = false

theorem child_one {lt : α → α → Bool} {xs : List α} {n i : Nat} (h1 : 2 * i + 1 < n) (h2 : n ≤ 2 * i + 2 ∨ lt (xs.getD (2 * i + 2) default) (xs.getD (2 * i + 1) default) = false) (irr : ∀ a, lt a a = false) : Child lt xs n i (2 * i + 1) := by
  refine ⟨by omega, h1, by omega, fun c hc hcn hp => ?_⟩
  have : c = 2 * i + 1 ∨ c = 2 * i + 2 := by omega
  rcases this with rfl | rfl
  · exact irr _
  · rcases h2 with h2 | h2
    · omega
    · exact h2
theorem child_two {lt : α → α → Bool} (o : Strict lt) {xs : List α} {n i : Nat} (h1 : 2 * i + 2 < n) (h2 : lt (xs.getD (2 * i + 2) default) (xs.getD (2 * i + 1) default) = true) (irr : ∀ a, lt a a = false) : Child lt xs n i (2 * i + 2) := by
  refine ⟨by omega, h1, by omega, fun c hc hcn hp => ?_⟩
  have : c = 2 * i + 1 ∨ c = 2 * i + 2 := by omega
  rcases this with rfl | rfl
  · exact o.asymm _ _ h2
  · exact irr _

theorem DownI.stop {lt : α → α → Bool} (o : Strict lt) {xs : List α} {n i j : Nat} (h : DownI lt xs n i) (hc : Child lt xs n i j) (hs : lt (xs.getD j default) (xs.getD i default) = false) : Hp lt xs n := fun k h1 h2 => by
  by_cases e : (k - 1) / 2 = i
  · rw [e]; exact o.neg _ _ _ (hc.2.2.2 k h1 h2 e) hs
  · exact h.a k h1 h2 e

theorem DownI.step {lt : α → α → Bool} (o : Strict lt) {xs : List α} {n i j : Nat} (h : DownI lt xs n i) (hn : n ≤ xs.length) (hc : Child lt xs n i j) (hl : lt (xs.getD j default) (xs.getD i default) = true) :
    DownI lt (swp xs i j) n j := by
  obtain ⟨j0, jn, jp, jm⟩ := hc
  have hg := getD_swp (xs := xs) (i := i) (j := j) (by omega) (by omega)
  have hij := o.asymm _ _ hl
  refine ⟨fun k h1 h2 h3 => ?_, fun h0 c h1 h2 h3 => ?_⟩
  · rw [hg, hg, if_neg h3]
    by_cases e1 : k = j
    · rw [if_pos e1, if_pos (by omega)]; exact hij
    · rw [if_neg e1]
      by_cases e2 : k = i
      · rw [if_pos e2, if_neg (by omega), e2]
        exact h.b (by omega) j j0 jn jp
      · rw [if_neg e2]
        by_cases e3 : (k - 1) / 2 = i
        · rw [if_pos e3]; exact jm k h1 h2 e3
        · rw [if_neg e3]; exact h.a k h1 h2 e3
  · rw [hg, hg, jp]
    rw [if_neg (by omega), if_neg (by omega), if_neg (by omega), if_pos rfl]
    have := h.a c h1 h2 (by omega)
    rw [h3] at this
    exact this

theorem Hp.root {lt : α → α → Bool} (o : Strict lt) (irr : ∀ a, lt a a = false) {xs : List α} {n : Nat} (h : Hp lt xs n) : ∀ k, k < n → lt (xs.getD k default) (xs.getD 0 default) = false := by
  intro k
  induction k using Nat.strongRecOn with
  | _ k ih =>
    intro hk
    by_cases h0 : k = 0
    · subst h0; exact irr _
    · exact o.neg _ _ _ (h k (by omega) hk) (ih ((k - 1) / 2) (by omega) (by omega))

/-- What is first goes last, and the rest is a heap but for its first place. -/
theorem Hp.swapped {lt : α → α → Bool} {xs : List α} {n : Nat} (h : Hp lt xs (n + 1)) (hn : xs.length = n + 1) : DownI lt (swp xs 0 n) n 0 := by
  have hg := getD_swp (xs := xs) (i := 0) (j := n) (by omega) (by omega)
  refine ⟨fun k h1 h2 h3 => ?_, fun h0 => absurd h0 (by omega)⟩
  rw [hg, hg, if_neg (by omega), if_neg (by omega), if_neg (by omega), if_neg h3]
  exact h k h1 (by omega)

/-- One more at the end. -/
theorem Hp.pushed {lt : α → α → Bool} {xs : List α} (h : Hp lt xs xs.length) (x : α) : UpI lt (xs ++ [x]) (xs.length + 1) xs.length := by
  have hg : ∀ k, k < xs.length → (xs ++ [x]).getD k default = xs.getD k default := fun k hk => by simp [List.getD_eq_getElem?_getD, List.getElem?_append_left hk]
  refine ⟨fun k h1 h2 h3 => ?_, fun h0 c h1 h2 h3 => by omega⟩
  rw [hg k (by omega), hg _ (by omega)]
  exact h k h1 (by omega)

theorem Hp.take {lt : α → α → Bool} {xs : List α} {n : Nat} (h : Hp lt xs n) (hn : n ≤ xs.length) : Hp lt (xs.take n) (xs.take n).length := by
  have hl : (xs.take n).length = n := by simp; omega
  have hg : ∀ k, k < n → (xs.take n).getD k default = xs.getD k default := fun k hk => by simp [List.getD_eq_getElem?_getD, hk]
  intro k h1 h2
  rw [hl] at h2
  rw [hg k h2, hg _ (by omega)]
  exact h k h1 h2
end
end HP
end Go.Proofs.YthjghcfnopancaaGreat

/-
  container/heap over any value with methods: up, down, Push, Pop.
-/
namespace Go.Proofs.YthjghcfnopancaaGreat
open Go.RowKit Go.Shelf Go.Maps HP

/-- A value with the methods of heap.Interface: what it reads as (I), and what its methods may turn (K). -/
structure Heaps (α : Type) [Inhabited α] (lt : α → α → Bool) (tv : TypeId) (pv : Value) (I : World → List α → Prop) (K : World → World → Prop) (fl fs fw : Nat) : Prop where
  refl : ∀ w, K w w
  trans : ∀ a b c, K a b → K b c → K a c
  few : ∀ w xs, I w xs → xs.length ≤ 1000000
  egl : Enters Tryz.prog fl
  egs : Enters Tryz.prog fs
  egw : Enters Tryz.prog fw
  len : ∀ w xs, I w xs → ∃ r, (method 266 tv pv "Len").run Tryz.prog w = .ok (fl, r) w ∧ Calls Tryz.prog fl #[r] w fun e w' => e = .returned (.int .i64 xs.length) ∧ I w' xs ∧ K w w'
  less : ∀ w xs, I w xs → ∃ r, (method 266 tv pv "Less").run Tryz.prog w = .ok (fs, r) w ∧ ∀ i k : Nat, i < xs.length → k < xs.length → Calls Tryz.prog fs #[r, .int .i64 i, .int .i64 k] w fun e w' => e = .returned (.bool (lt (xs.getD i default) (xs.getD k default))) ∧ I w' xs ∧ K w w'
  swap : ∀ w xs, I w xs → ∃ r, (method 266 tv pv "Swap").run Tryz.prog w = .ok (fw, r) w ∧ ∀ i k : Nat, i < xs.length → k < xs.length → Calls Tryz.prog fw #[r, .int .i64 i, .int .i64 k] w fun e w' => e = .returned (.tuple #[]) ∧ I w' (swp xs i k) ∧ K w w'

set_option maxRecDepth 100000 in
set_option maxHeartbeats 1000000 in
theorem hup {α : Type} [Inhabited α] {lt : α → α → Bool} {tv : TypeId} {pv : Value} {I : World → List α → Prop} {K : World → World → Prop} {fl fs fw : Nat} (h : Heaps α lt tv pv I K fl fs fw) (o : Strict lt)
    {w : World} {xs : List α} (hI : I w xs) (j : Nat) (hj : j < xs.length) (hU : UpI lt xs xs.length j) :
    Calls Tryz.prog 80 #[.iface tv pv, .int .i64 j] w fun e w' => e = .returned (.tuple #[]) ∧ ∃ ys, I w' ys ∧ K w w' ∧ ys.Perm xs ∧ Hp lt ys ys.length := by
  have H := Lib.hid h
  have HI := Lib.hid hI
  have hfew := h.few w xs hI
  have egs : ∀ args w, (callFunc fs args).run Tryz.prog w = .ok (.enter fs args) w := h.egs
  have egw : ∀ args w, (callFunc fw args).run Tryz.prog w = .ok (.enter fw args) w := h.egw
  clear h hI
  go_enter Tryz.func80, Tryz.ntmps80
  go_wp2
  go_loopg [1] j (fun k z wr => ∃ xs' : List α, k < xs'.length ∧ z = .int .i64 k ∧ xs'.length = xs.length ∧ I wr xs' ∧ K w wr ∧ xs'.Perm xs ∧ UpI lt xs' xs'.length k)
  case atStart => exact ⟨xs, hj, rfl, rfl, HI.out, H.out.refl _, List.Perm.refl _, hU⟩
  case round =>
    obtain ⟨xs', hk, rfl, hl, hI, hK, hp, hU'⟩ := hrel
    have hI := Lib.hid hI
    have hU' := Lib.hid hU'
    have hp := Lib.hid hp
    have hl := Lib.hid hl
    by_cases h0 : gk = 0
    · subst h0
      go_wp2
      go_end0
      exact ⟨rfl, xs', hI.out, hK, hp.out, hU'.out.stop0⟩
    · obtain ⟨g, rfl⟩ : ∃ g, gk = g + 1 := ⟨gk - 1, by omega⟩
      have d1 : ((g : Int) / 2 == (g : Int) + 1) = false := by simp; omega
      have hll := hl.out
      obtain ⟨r, hm, hless⟩ := H.out.less wr xs' hI.out
      obtain hless := hless (g + 1) (g / 2) hk (by omega)
      push_cast at hless
      have hless := Lib.hid hless
      cases hb : lt (xs'.getD (g + 1) default) (xs'.getD (g / 2) default)
      · rw [hb] at hless
        have hb := Lib.hid hb
        go_wp2
        refine (hless.out).mono ?_
        rintro e w2 ⟨rfl, hI2, hK2⟩
        go_wp2
        go_end0
        exact ⟨rfl, xs', hI2, H.out.trans _ _ _ hK hK2, hp.out, hU'.out.stop (by simpa using hb.out)⟩
      · rw [hb] at hless
        have hb := Lib.hid hb
        go_wp2
        refine (hless.out).mono ?_
        rintro e w2 ⟨rfl, hI2, hK2⟩
        obtain ⟨r2, hm2, hsw⟩ := H.out.swap w2 xs' hI2
        obtain hsw := hsw (g / 2) (g + 1) (by omega) hk
        push_cast at hsw
        have hsw := Lib.hid hsw
        clear hm
        go_wp2
        refine (hsw.out).mono ?_
        rintro e w3 ⟨rfl, hI3, hK3⟩
        go_wp2
        go_roundg (g / 2)
        case measure => omega
        case rel =>
          have hs := hU'.out.step o (Nat.le_refl _) (by omega) hk (by simpa using hb.out)
          simp only [Nat.add_sub_cancel] at hs
          exact ⟨_, by rw [length_swp]; omega, by simp, by rw [length_swp]; exact hll, hI3, H.out.trans _ _ _ hK (H.out.trans _ _ _ hK2 hK3), (perm_swp (by omega) hk).trans hp.out, by rw [length_swp]; exact hs⟩

set_option maxRecDepth 100000 in
set_option maxHeartbeats 2000000 in
theorem hdown {α : Type} [Inhabited α] {lt : α → α → Bool} {tv : TypeId} {pv : Value} {I : World → List α → Prop} {K : World → World → Prop} {fl fs fw : Nat} (h : Heaps α lt tv pv I K fl fs fw) (o : Strict lt) (irr : ∀ a, lt a a = false)
    {w : World} {xs : List α} (hI : I w xs) (i0 n : Nat) (hi0 : i0 ≤ 1000000) (hn : n ≤ xs.length) (hDn : DownI lt xs n i0) :
    Calls Tryz.prog 81 #[.iface tv pv, .int .i64 i0, .int .i64 n] w fun e w' => ∃ b, e = .returned (.bool b) ∧ ∃ ys, I w' ys ∧ K w w' ∧ ys.Perm xs ∧ Hp lt ys n ∧ ∀ k, n ≤ k → ys.getD k default = xs.getD k default := by
  have H := Lib.hid h
  have HI := Lib.hid hI
  have hfew := h.few w xs hI
  have egs : ∀ args w, (callFunc fs args).run Tryz.prog w = .ok (.enter fs args) w := h.egs
  have egw : ∀ args w, (callFunc fw args).run Tryz.prog w = .ok (.enter fw args) w := h.egw
  have hDn := Lib.hid hDn
  clear h hI
  go_enter Tryz.func81, Tryz.ntmps81
  go_wp2
  go_loopg [7] (n - i0) (fun k z wr => ∃ (i : Nat) (xs' : List α), k = n - i ∧ z = .int .i64 i ∧ i ≤ 1000000 ∧ xs'.length = xs.length ∧ I wr xs' ∧ K w wr ∧ xs'.Perm xs ∧ DownI lt xs' n i ∧ ∀ k, n ≤ k → xs'.getD k default = xs.getD k default)
  case atStart => exact ⟨i0, xs, rfl, rfl, hi0, rfl, HI.out, H.out.refl _, List.Perm.refl _, hDn.out, fun _ _ => rfl⟩
  case round =>
    obtain ⟨i, xs', hgk, rfl, hib, hl, hI, hK, hp, hD, htl⟩ := hrel
    have hI := Lib.hid hI
    have hD := Lib.hid hD
    have hp := Lib.hid hp
    have htl := Lib.hid htl
    have hll := hl
    have hl := Lib.hid hl
    have hgk := Lib.hid hgk
    have hb0 : (0 : Int) ≤ (i : Int) := by omega
    by_cases h1 : n ≤ 2 * i + 1
    · have d1 : (n : Int) ≤ 2 * (i : Int) + 1 := by omega
      have hD2 := Lib.hid (hD.out.leaf h1)
      clear h1 hll
      go_wp2
      go_ret
      exact ⟨_, rfl, xs', hI.out, hK, hp.out, hD2.out, htl.out⟩
    · have d1 : ¬ (n : Int) ≤ 2 * (i : Int) + 1 := by omega
      have d2 : ¬ 2 * (i : Int) + 1 < 0 := by omega
      by_cases h2 : 2 * i + 1 + 1 < n
      · have d3 : 2 * (i : Int) + 1 + 1 < (n : Int) := by omega
        obtain ⟨r, hm, hless⟩ := H.out.less wr xs' hI.out
        obtain hless := hless (2 * i + 1 + 1) (2 * i + 1) (by omega) (by omega)
        push_cast at hless
        have hless := Lib.hid hless
        cases hb : lt (xs'.getD (2 * i + 1 + 1) default) (xs'.getD (2 * i + 1) default)
        · rw [hb] at hless
          have hbb := Lib.hid hb
          clear hb
          go_wp2
          refine (hless.out).mono ?_
          rintro e wq ⟨rfl, hIq, hKq⟩
          have hKq := H.out.trans _ _ _ hK hKq
          clear hm
          obtain ⟨r3, hm3, hless3⟩ := H.out.less wq xs' hIq
          obtain hless3 := hless3 (2 * i + 1) i (by omega) (by omega)
          push_cast at hless3
          have hc : Child lt xs' n i (2 * i + 1) := child_one (by omega) (.inr hbb.out) irr
          have hc := Lib.hid hc
          have hless3 := Lib.hid hless3
          have hm3 := Lib.hid hm3
          cases hb : lt (xs'.getD (2 * i + 1) default) (xs'.getD i default)
          · rw [hb] at hless3
            have hb := Lib.hid hb
            have hm4 := hm3.out
            go_wp2
            refine (hless3.out).mono ?_
            rintro e w2 ⟨rfl, hI2, hK2⟩
            clear hm4
            go_wp2
            go_ret
            exact ⟨_, rfl, xs', hI2, H.out.trans _ _ _ hKq hK2, hp.out, hD.out.stop o hc.out hb.out, htl.out⟩
          · rw [hb] at hless3
            have hb := Lib.hid hb
            have hm4 := hm3.out
            go_wp2
            refine (hless3.out).mono ?_
            rintro e w2 ⟨rfl, hI2, hK2⟩
            obtain ⟨r2, hm2, hsw⟩ := H.out.swap w2 xs' hI2
            obtain hsw := hsw i (2 * i + 1) (by omega) (by omega)
            push_cast at hsw
            have hsw := Lib.hid hsw
            clear hm4
            go_wp2
            refine (hsw.out).mono ?_
            rintro e w3 ⟨rfl, hI3, hK3⟩
            go_wp2
            go_roundg (n - (2 * i + 1))
            case measure => omega
            case rel =>
              exact ⟨2 * i + 1, _, rfl, by simp, by omega, by rw [length_swp]; exact hll, hI3, H.out.trans _ _ _ hKq (H.out.trans _ _ _ hK2 hK3), (perm_swp (by omega) (by omega)).trans hp.out, hD.out.step o (by omega) hc.out hb.out, fun k hk => by rw [getD_swp (by omega) (by omega), if_neg (by omega), if_neg (by omega)]; exact htl.out k hk⟩
        · rw [hb] at hless
          have hbb := Lib.hid hb
          clear hb
          go_wp2
          refine (hless.out).mono ?_
          rintro e wq ⟨rfl, hIq, hKq⟩
          have hKq := H.out.trans _ _ _ hK hKq
          clear hm
          obtain ⟨r3, hm3, hless3⟩ := H.out.less wq xs' hIq
          obtain hless3 := hless3 (2 * i + 1 + 1) i (by omega) (by omega)
          push_cast at hless3
          have hc : Child lt xs' n i (2 * i + 1 + 1) := child_two o (by omega) hbb.out irr
          have hc := Lib.hid hc
          have hless3 := Lib.hid hless3
          have hm3 := Lib.hid hm3
          cases hb : lt (xs'.getD (2 * i + 1 + 1) default) (xs'.getD i default)
          · rw [hb] at hless3
            have hb := Lib.hid hb
            have hm4 := hm3.out
            go_wp2
            refine (hless3.out).mono ?_
            rintro e w2 ⟨rfl, hI2, hK2⟩
            clear hm4
            go_wp2
            go_ret
            exact ⟨_, rfl, xs', hI2, H.out.trans _ _ _ hKq hK2, hp.out, hD.out.stop o hc.out hb.out, htl.out⟩
          · rw [hb] at hless3
            have hb := Lib.hid hb
            have hm4 := hm3.out
            go_wp2
            refine (hless3.out).mono ?_
            rintro e w2 ⟨rfl, hI2, hK2⟩
            obtain ⟨r2, hm2, hsw⟩ := H.out.swap w2 xs' hI2
            obtain hsw := hsw i (2 * i + 1 + 1) (by omega) (by omega)
            push_cast at hsw
            have hsw := Lib.hid hsw
            clear hm4
            go_wp2
            refine (hsw.out).mono ?_
            rintro e w3 ⟨rfl, hI3, hK3⟩
            go_wp2
            go_roundg (n - (2 * i + 1 + 1))
            case measure => omega
            case rel =>
              exact ⟨2 * i + 1 + 1, _, rfl, by simp, by omega, by rw [length_swp]; exact hll, hI3, H.out.trans _ _ _ hKq (H.out.trans _ _ _ hK2 hK3), (perm_swp (by omega) (by omega)).trans hp.out, hD.out.step o (by omega) hc.out hb.out, fun k hk => by rw [getD_swp (by omega) (by omega), if_neg (by omega), if_neg (by omega)]; exact htl.out k hk⟩
      · have d3 : ¬ 2 * (i : Int) + 1 + 1 < (n : Int) := by omega
        have hIq := hI.out
        have hKq := hK
        obtain ⟨wq, hwq⟩ : ∃ wq, wq = wr := ⟨_, rfl⟩
        subst hwq
        obtain ⟨r3, hm3, hless3⟩ := H.out.less wq xs' hIq
        obtain hless3 := hless3 (2 * i + 1) i (by omega) (by omega)
        push_cast at hless3
        have hc : Child lt xs' n i (2 * i + 1) := child_one (by omega) (.inl (by omega)) irr
        have hc := Lib.hid hc
        have hless3 := Lib.hid hless3
        have hm3 := Lib.hid hm3
        cases hb : lt (xs'.getD (2 * i + 1) default) (xs'.getD i default)
        · rw [hb] at hless3
          have hb := Lib.hid hb
          have hm4 := hm3.out
          go_wp2
          refine (hless3.out).mono ?_
          rintro e w2 ⟨rfl, hI2, hK2⟩
          clear hm4
          go_wp2
          go_ret
          exact ⟨_, rfl, xs', hI2, H.out.trans _ _ _ hKq hK2, hp.out, hD.out.stop o hc.out hb.out, htl.out⟩
        · rw [hb] at hless3
          have hb := Lib.hid hb
          have hm4 := hm3.out
          go_wp2
          refine (hless3.out).mono ?_
          rintro e w2 ⟨rfl, hI2, hK2⟩
          obtain ⟨r2, hm2, hsw⟩ := H.out.swap w2 xs' hI2
          obtain hsw := hsw i (2 * i + 1) (by omega) (by omega)
          push_cast at hsw
          have hsw := Lib.hid hsw
          clear hm4
          go_wp2
          refine (hsw.out).mono ?_
          rintro e w3 ⟨rfl, hI3, hK3⟩
          go_wp2
          go_roundg (n - (2 * i + 1))
          case measure => omega
          case rel =>
            exact ⟨2 * i + 1, _, rfl, by simp, by omega, by rw [length_swp]; exact hll, hI3, H.out.trans _ _ _ hKq (H.out.trans _ _ _ hK2 hK3), (perm_swp (by omega) (by omega)).trans hp.out, hD.out.step o (by omega) hc.out hb.out, fun k hk => by rw [getD_swp (by omega) (by omega), if_neg (by omega), if_neg (by omega)]; exact htl.out k hk⟩

end Go.Proofs.YthjghcfnopancaaGreat

/-
  container/heap over any value with methods: Push, Pop.
-/
namespace Go.Proofs.YthjghcfnopancaaGreat
open Go.RowKit Go.Shelf Go.Maps HP

/-- .. and with Push and Pop of its own. -/
structure HeapsX (α : Type) [Inhabited α] (lt : α → α → Bool) (tv : TypeId) (pv : Value) (enc : α → Value) (I : World → List α → Prop) (K : World → World → Prop) (fl fs fw fp fo : Nat) : Prop where
  base : Heaps α lt tv pv I K fl fs fw
  egp : Enters Tryz.prog fp
  ego : Enters Tryz.prog fo
  push : ∀ w xs x, I w xs → xs.length < 1000000 → ∃ r, (method 266 tv pv "Push").run Tryz.prog w = .ok (fp, r) w ∧ Calls Tryz.prog fp #[r, enc x] w fun e w' => e = .returned (.tuple #[]) ∧ I w' (xs ++ [x]) ∧ K w w'
  pop : ∀ w xs n m, I w xs → xs.length = n + 1 → xs.getD n default = m → ∃ r, (method 266 tv pv "Pop").run Tryz.prog w = .ok (fo, r) w ∧ Calls Tryz.prog fo #[r] w fun e w' => e = .returned (enc m) ∧ I w' (xs.take n) ∧ K w w'

set_option maxRecDepth 100000 in
set_option maxHeartbeats 1000000 in
theorem hpush {α : Type} [Inhabited α] {lt : α → α → Bool} {tv : TypeId} {pv : Value} {enc : α → Value} {I : World → List α → Prop} {K : World → World → Prop} {fl fs fw fp fo : Nat} (h : HeapsX α lt tv pv enc I K fl fs fw fp fo) (o : Strict lt)
    {w : World} {xs : List α} (hI : I w xs) (x : α) (hl : xs.length < 1000000) (hh : Hp lt xs xs.length) :
    Calls Tryz.prog 74 #[.iface tv pv, enc x] w fun e w' => e = .returned (.tuple #[]) ∧ ∃ ys, I w' ys ∧ K w w' ∧ ys.Perm (xs ++ [x]) ∧ Hp lt ys ys.length := by
  have H := Lib.hid h
  have egp : ∀ args w, (callFunc fp args).run Tryz.prog w = .ok (.enter fp args) w := h.egp
  have egl : ∀ args w, (callFunc fl args).run Tryz.prog w = .ok (.enter fl args) w := h.base.egl
  obtain ⟨r, hm, hP⟩ := h.push w xs x hI hl
  have hP := Lib.hid hP
  have hU := Lib.hid (hh.pushed x)
  clear h hI hh
  go_enter Tryz.func74, Tryz.ntmps74
  go_wp2
  refine (hP.out).mono ?_
  rintro e w1 ⟨rfl, hI1, hK1⟩
  obtain ⟨r2, hm2, hL⟩ := H.out.base.len w1 _ hI1
  have hL := Lib.hid hL
  have hI1 := Lib.hid hI1
  clear hm
  go_wp2
  refine (hL.out).mono ?_
  rintro e w2 ⟨rfl, hI2, hK2⟩
  have hup := hup H.out.base o hI2 xs.length (by simp) (by simpa using hU.out)
  have hup := Lib.hid hup
  clear hm2
  go_wp2_with (go_at_call 80; refine (hup.out).mono ?_; rintro e w3 ⟨rfl, ys, hI3, hK3, hp, hhp⟩)
  go_end0
  exact ⟨rfl, ys, hI3, H.out.base.trans _ _ _ hK1 (H.out.base.trans _ _ _ hK2 hK3), hp, hhp⟩

set_option maxRecDepth 100000 in
set_option maxHeartbeats 1000000 in
theorem hpop {α : Type} [Inhabited α] {lt : α → α → Bool} {tv : TypeId} {pv : Value} {enc : α → Value} {I : World → List α → Prop} {K : World → World → Prop} {fl fs fw fp fo : Nat} (h : HeapsX α lt tv pv enc I K fl fs fw fp fo) (o : Strict lt) (irr : ∀ a, lt a a = false)
    {w : World} {xs : List α} (hI : I w xs) (n : Nat) (hn : xs.length = n + 1) (hh : Hp lt xs xs.length) (m : α) (hm0 : xs.getD 0 default = m) :
    Calls Tryz.prog 75 #[.iface tv pv] w fun e w' => e = .returned (enc m) ∧ ∃ ys, I w' ys ∧ K w w' ∧ (m :: ys).Perm xs ∧ Hp lt ys ys.length := by
  have H := Lib.hid h
  have ego : ∀ args w, (callFunc fo args).run Tryz.prog w = .ok (.enter fo args) w := h.ego
  have egl : ∀ args w, (callFunc fl args).run Tryz.prog w = .ok (.enter fl args) w := h.base.egl
  have egw : ∀ args w, (callFunc fw args).run Tryz.prog w = .ok (.enter fw args) w := h.base.egw
  obtain ⟨r, hm, hL⟩ := h.base.len w xs hI
  rw [hn] at hL
  push_cast at hL
  have hL := Lib.hid hL
  have hfew := h.base.few w xs hI
  have hn := Lib.hid hn
  have hD : DownI lt (swp xs 0 n) n 0 := Hp.swapped (by rw [← hn.out]; exact hh) hn.out
  have hD := Lib.hid hD
  have hnb : n ≤ 1000000 := by have := hn.out; omega
  have hx0 : n < xs.length := by have := hn.out; omega
  have hxl : (swp xs 0 n).length = n + 1 := by rw [length_swp]; exact hn.out
  have hxl := Lib.hid hxl
  have hx0 := Lib.hid hx0

  clear h hI hh hfew
  go_enter Tryz.func75, Tryz.ntmps75
  go_wp2
  refine (hL.out).mono ?_
  rintro e w1 ⟨rfl, hI1, hK1⟩
  obtain ⟨r2, hm2, hS⟩ := H.out.base.swap w1 xs hI1
  obtain hS := hS 0 n (by have := hx0.out; omega) hx0.out
  push_cast at hS
  have hS := Lib.hid hS
  clear hm
  go_wp2
  refine (hS.out).mono ?_
  rintro e w2 ⟨rfl, hI2, hK2⟩
  have hdn := hdown H.out.base o irr hI2 0 n (by omega) (by have := hxl.out; omega) hD.out
  push_cast at hdn
  have hdn := Lib.hid hdn
  clear hm2
  go_wp2_with (go_at_call 81; refine (hdn.out).mono ?_; rintro e w3 ⟨b, rfl, ys, hI3, hK3, hp, hhp, htl⟩; (have hyl : ys.length = n + 1 := by have := hp.length_eq; have := hxl.out; omega); (have e0 : ys.getD n default = m := by rw [htl n (Nat.le_refl _), getD_swp (by have := hx0.out; omega) hx0.out, if_pos rfl, hm0]); obtain ⟨r3, hm3, hO⟩ := H.out.pop w3 ys n m hI3 hyl e0; have e0 := Lib.hid e0; have hO := Lib.hid hO; have hyl := Lib.hid hyl; have hp := Lib.hid hp; have htl := Lib.hid htl)
  refine (hO.out).mono ?_
  rintro e w4 ⟨rfl, hI4, hK4⟩
  go_wp2
  go_ret
  have hl := hyl.out
  refine ⟨rfl, ys.take n, hI4, H.out.base.trans _ _ _ hK1 (H.out.base.trans _ _ _ hK2 (H.out.base.trans _ _ _ hK3 hK4)), ?_, Hp.take hhp (by omega)⟩
  have h1 : ys = ys.take n ++ [m] := by
    have h2 := List.take_append_drop n ys
    have h3 : ys.drop n = [m] := by
      rw [List.drop_eq_getElem_cons (show n < ys.length by omega), List.drop_eq_nil_of_le (by omega)]
      have := e0.out
      rw [List.getD_eq_getElem?_getD, List.getElem?_eq_getElem (show n < ys.length by omega)] at this
      simpa using this
    rw [← h3, h2]
  have h4 : (m :: ys.take n).Perm ys := by
    conv => rhs; rw [h1]
    exact (List.perm_append_singleton _ _).symm
  exact h4.trans (hp.out.trans (perm_swp (by have := hx0.out; omega) hx0.out))

end Go.Proofs.YthjghcfnopancaaGreat
