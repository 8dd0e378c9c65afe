/-
  A law for 'for .. := range f { .. }' whose iterator makes memory of its own: what a round may turn is a list of blocks that grows.
-/
import Derived.Test.YthjghcfnopancaaGreatGa
import Derived.Test.YthjghcfnopancaaGreatShelf
import Derived.Deep.RegionWith
import Derived.Deep.RegionHeld3
namespace Go.Proofs.YthjghcfnopancaaGreat
open Go.RowKit Go.Shelf

/-- J hangs on the blocks of its own list, and on what lay below base but the iterator's own. -/
def Abides {α : Type} (base : Nat) (dl : List Nat) (J : List Nat → List α → World → Prop) : Prop :=
  ∀ C pre W W', J C pre W → W'.os = W.os → W'.tape = W.tape → W'.output = W.output → W.heap.size ≤ W'.heap.size →
    (∀ k, k < W.heap.size → (k ∈ C ∨ (k < base ∧ k ∉ dl)) → W'.heap[k]? = W.heap[k]?) → J C pre W'

/-- The list C' is C's, or of blocks that are new since W. -/
def Grows (C C' : List Nat) (W W' : World) : Prop := ∀ k ∈ C', (k ∈ C ∨ W.heap.size ≤ k) ∧ k < W'.heap.size

theorem Grows.refl {C : List Nat} {W W' : World} (h : ∀ k ∈ C, k < W.heap.size) (hs : W.heap.size ≤ W'.heap.size) : Grows C C W W' := fun k hk => ⟨.inl hk, Nat.lt_of_lt_of_le (h k hk) hs⟩

/-- What an iterator does: it calls yield on elements, each as it may come next, keeps its hands off the blocks of the rounds, and ends. -/
def Gives {α : Type} (P : Program) (gf : Nat) (lb : Array Value) (encs : α → Array Value) (Next : List α → α → Prop) (Done Stop : List α → Prop) (dl R : List Nat) (w : World) : Prop :=
  ∀ (lp base : Nat) (C0 : List Nat) (J Jx : List Nat → List α → World → Prop) (W : World), Keeps [] w W → base ≤ W.heap.size → (∀ k ∈ R, k < base) → Abides base dl J → Abides base dl Jx →
    (∀ k ∈ C0, k < W.heap.size ∧ k ∉ R) →
    (∀ C pre x W1, J C pre W1 → (∀ k ∈ C, k < W1.heap.size) → Next pre x → ∀ m, YieldAt Fence.wide m P lp (encs x) W1 fun e W' =>
      ∃ C', Grows C C' W1 W' ∧ Keeps C W1 W' ∧ ((e = .returned (.bool true) ∧ J C' (pre ++ [x]) W') ∨ (e = .returned (.bool false) ∧ Jx C' (pre ++ [x]) W'))) →
    J C0 [] W →
    Calls P gf (#[.func (.yield lp) #[] #[]] ++ lb) W fun e W' => (∃ v, e = .returned v) ∧ ∃ C', (∃ xs, Done xs ∧ J C' xs W') ∨ (∃ pre, Stop pre ∧ Jx C' pre W')

/-- How a round's body may be left. -/
def roundEnd {α : Type} (I : List Nat → List α → World → Prop) (Ix : Code → List Nat → List α → World → Prop) (C : List Nat) (xs : List α) (W : World) : Exit → Act → World → Prop
  | .normal, _, W' => ∃ C', Grows C C' W W' ∧ Keeps C W W' ∧ I C' xs W'
  | .ret, _, W' => ∃ C', Grows C C' W W' ∧ Keeps C W W' ∧ Ix .ret C' xs W'
  | .exit id, _, W' => ∃ C', Grows C C' W W' ∧ Keeps C W W' ∧ Ix (.exit id) C' xs W'
  | .goto t, _, W' => ∃ C', Grows C C' W W' ∧ Keeps C W W' ∧ Ix (.goto t) C' xs W'
  | _, _, _ => False

theorem Keeps.putObj {l : List Nat} {a w : World} (h : Keeps l a w) {r : Nat} {o : Obj} (hr : r < a.heap.size → r ∈ l) : Keeps l a (w.putObj r o) :=
  ⟨h.os, h.tape, h.output, by simp; exact h.size, fun k hk hn => (World.putObj_heap_other (fun e => hn (by subst e; exact hr hk))).trans (h.block k hk hn)⟩

theorem Abides.putObj {α : Type} {base : Nat} {dl : List Nat} {J : List Nat → List α → World → Prop} (h : Abides base dl J) {C : List Nat} {pre : List α} {W : World} (r : Nat) (o : Obj) (hj : J C pre W) (hr : r ∉ C) (hb : base ≤ r ∨ r ∈ dl) : J C pre (W.putObj r o) :=
  h C pre W _ hj rfl rfl rfl (by simp) (fun k _ hk2 => World.putObj_heap_other (fun e => by subst e; rcases hk2 with hk2 | ⟨hk2, hk3⟩; exact hr hk2; rcases hb with hb | hb; omega; exact hk3 hb))

theorem roundIn_wide {P : Program} {m m' l : Nat} {f : FuncId} {tmps : Array Value} {assign body : Code} {w : World} {R : Ending → World → Prop} (h : RoundIn Fence.wide m P l f tmps assign body w R) : RoundIn Fence.wide m' P l f tmps assign body w R :=
  ⟨h.1, fun c cs _ => h.2 c cs (room_wide _)⟩

/-- What is laid over the client's invariant: the record of the loop, and the block for deferred calls. -/
structure Over {α : Type} (lp dk : Nat) (ok : Obj) (rec : Loop) (I : List Nat → List α → World → Prop) (C : List Nat) (pre : List α) (W : World) : Prop where
  ex : ∃ C1, (∀ k, k ∈ C ↔ k = lp ∨ k = dk ∨ k ∈ C1) ∧ (lp ∉ C1 ∧ dk ∉ C1) ∧ I C1 pre W
  lp : W.heap[lp]? = some (.loop rec)
  dk : W.heap[dk]? = some ok

theorem Over.abides {α : Type} {lp dk base : Nat} {ok : Obj} {rec : Loop} {dl : List Nat} {I : List Nat → List α → World → Prop} (h : Abides base dl I) : Abides base dl (Over lp dk ok rec I) := by
  intro C pre W W' hj h1 h2 h3 h4 h5
  obtain ⟨⟨C1, hC, hn, hI⟩, hl, hd⟩ := hj
  refine ⟨⟨C1, hC, hn, h C1 pre W W' hI h1 h2 h3 h4 fun k hk hk2 => h5 k hk ?_⟩, ?_, ?_⟩
  · rcases hk2 with hk2 | hk2
    · exact .inl ((hC k).2 (.inr (.inr hk2)))
    · exact .inr hk2
  · rw [h5 lp (ltOf hl) (.inl ((hC lp).2 (.inl rfl)))]; exact hl
  · rw [h5 dk (ltOf hd) (.inl ((hC dk).2 (.inr (.inl rfl))))]; exact hd

/-- ONE ROUND. -/
theorem round_of {α : Type} {P : Program} {n fn lp dk base : Nat} {tmps : Array Value} {ps : Array Tmp} {assign body : Code} {defers : Nat} {ok : Obj} {dl : List Nat} {encs : α → Array Value}
    {I : List Nat → List α → World → Prop} {Ix : Code → List Nat → List α → World → Prop} (hI : Abides base dl I) (hIx : ∀ c, Abides base dl (Ix c)) (hb : base ≤ lp) (hne : lp ≠ dk) (hps : ∀ x, (encs x).size = ps.size)
    {C : List Nat} {pre : List α} {x : α} {W1 : World} (Ax : α → Act → World → Prop) (hAx : ∀ x a' W r o, Ax x a' W → r = lp → W.heap[r]? = some (.loop o) → ∀ o', Ax x a' (W.putObj r o'))
    (hassign : ∀ C1 (K : Act → World → Prop), lp ∉ C1 → dk ∉ C1 → I C1 pre W1 → (∀ a' W', Keeps [] W1 W' → Ax x a' W' → K a' W') →
      assign.wpIn (Fence.wide.inRound lp) n P (Exit.then K (fun _ _ _ => False)) { tmps := (ps.zip (encs x)).foldl (fun t (p, v) => t.setIfInBounds p v) tmps, defers := [] } W1)
    (hbody : ∀ C1 a' W, lp ∉ C1 → dk ∉ C1 → (∃ r, W.heap[lp]? = some (.loop r) ∧ r.defers = defers) → W.heap[dk]? = some ok → I C1 pre W → (∀ k ∈ C1, k < W.heap.size) → Ax x a' W → body.wpIn (Fence.wide.inRound lp) n P (roundEnd I Ix C1 (pre ++ [x]) W) a' W)
    (hJ : Over lp dk ok { state := .ready, pending := none, fn, tmps, params := ps, assign, body, defers } I C pre W1) (hC : ∀ k ∈ C, k < W1.heap.size) :
    ∀ m, YieldAt Fence.wide m P lp (encs x) W1 fun e W' => ∃ C', Grows C C' W1 W' ∧ Keeps C W1 W' ∧
      ((e = .returned (.bool true) ∧ Over lp dk ok { state := .ready, pending := none, fn, tmps, params := ps, assign, body, defers } I C' (pre ++ [x]) W') ∨
       (e = .returned (.bool false) ∧ (∃ c, Over lp dk ok { state := .done, pending := some c, fn, tmps, params := ps, assign, body, defers } (Ix c) C' (pre ++ [x]) W'))) := by
  intro m
  obtain ⟨⟨C1, hC1, ⟨hn1, hn2⟩, hi⟩, hl, hd⟩ := hJ
  have hlt := ltOf hl
  have hy := run_yield (P := P) (args := encs x) hl (hps x)
  refine ⟨fn, _, assign, body, hy, roundIn_wide (m := n) (roundIn_of_wpIn trivial (hassign C1 _ hn1 hn2 hi ?_))⟩
  clear hy
  intro a' Wa hka hax
  have hla := hka.blk hl (by simp)
  have hda := hka.blk hd (by simp)
  refine ⟨_, run_beginRound hla rfl, ?_⟩
  obtain ⟨Wb, hWb⟩ : ∃ Wb, Wa.putObj lp (.loop { state := .busy, pending := none, fn, tmps, params := ps, assign, body, defers }) = Wb := ⟨_, rfl⟩
  rw [hWb]
  have hszb : Wb.heap.size = Wa.heap.size := by rw [← hWb]; simp
  have hlb : Wb.heap[lp]? = some (.loop { state := .busy, pending := none, fn, tmps, params := ps, assign, body, defers }) := by rw [← hWb]; exact World.putObj_heap_same (ltOf hla)
  have hdb : Wb.heap[dk]? = some ok := by rw [← hWb]; exact (World.putObj_heap_other (Ne.symm hne)).trans hda
  have hia : I C1 pre Wa := hI C1 pre W1 Wa hi hka.os hka.tape hka.output hka.size (fun k hk _ => hka.block k hk (by simp))
  have hib : I C1 pre Wb := by rw [← hWb]; exact hI.putObj _ _ hia hn1 (.inl hb)
  have haxb : Ax x a' Wb := by rw [← hWb]; exact hAx _ _ _ _ _ hax rfl hla _
  have hcb : ∀ k ∈ C1, k < Wb.heap.size := fun k hk => by rw [hszb]; exact Nat.lt_of_lt_of_le (hC k ((hC1 k).2 (.inr (.inr hk)))) hka.size
  have hkb : Keeps C W1 Wb := by
    rw [← hWb]
    refine Keeps.putObj (hka.mono (by simp)) (fun _ => (hC1 lp).2 (.inl rfl))
  refine wpIn_mono (hbody C1 a' Wb hn1 hn2 ⟨_, hlb, rfl⟩ hdb hib hcb haxb) ?_
  have fin : ∀ (jump : Option Code) (st : LoopState) (W3 : World) (C' : List Nat) (I' : List Nat → List α → World → Prop), st = (if jump.isNone then .ready else .done) → Abides base dl I' → Grows C1 C' Wb W3 → Keeps C1 Wb W3 → I' C' (pre ++ [x]) W3 →
      ∃ W4, (Instr.endRound lp jump).run P W3 = .ok (.bool jump.isNone) W4 ∧ ∃ C4, Grows C C4 W1 W4 ∧ Keeps C W1 W4 ∧
        Over lp dk ok { state := st, pending := jump, fn, tmps, params := ps, assign, body, defers } I' C4 (pre ++ [x]) W4 := by
    intro jump st W3 C' I' hst hI' hg hk hi3
    have hl3 := hk.blk hlb hn1
    have hd3 := hk.blk hdb hn2
    have hn1' : lp ∉ C' := fun hm => by
      rcases (hg lp hm).1 with h | h
      · exact hn1 h
      · have := ltOf hlb; omega
    have hn2' : dk ∉ C' := fun hm => by
      rcases (hg dk hm).1 with h | h
      · exact hn2 h
      · have := ltOf hdb; omega
    refine ⟨_, run_endRound (P := P) jump hl3, lp :: dk :: C', ?_, ?_, ⟨⟨C', by simp, ⟨hn1', hn2'⟩, hI'.putObj _ _ hi3 hn1' (.inl hb)⟩, ?_, ?_⟩⟩
    · intro k hm
      simp only [List.mem_cons] at hm
      simp only [World.putObj_size]
      rcases hm with rfl | rfl | hm
      · exact ⟨.inl ((hC1 _).2 (.inl rfl)), ltOf hl3⟩
      · exact ⟨.inl ((hC1 _).2 (.inr (.inl rfl))), ltOf hd3⟩
      · refine ⟨?_, (hg k hm).2⟩
        rcases (hg k hm).1 with h | h
        · exact .inl ((hC1 _).2 (.inr (.inr h)))
        · exact .inr (by have := hka.size; omega)
    · refine Keeps.putObj (hkb.trans' hk (fun i hi _ => (hC1 _).2 (.inr (.inr hi)))) (fun _ => (hC1 lp).2 (.inl rfl))
    · rw [hst]; exact World.putObj_heap_same (ltOf hl3)
    · exact (World.putObj_heap_other (Ne.symm hne)).trans hd3
  rintro e a3 W3 hp
  cases e with
  | normal =>
    obtain ⟨C', hg, hk, hi3⟩ := hp
    obtain ⟨W4, hr, C4, h1, h2, h3⟩ := fin none .ready W3 C' I rfl hI hg hk hi3
    exact ⟨_, _, hr, C4, h1, h2, .inl ⟨rfl, h3⟩⟩
  | ret =>
    obtain ⟨C', hg, hk, hi3⟩ := hp
    obtain ⟨W4, hr, C4, h1, h2, h3⟩ := fin (some .ret) .done W3 C' (Ix .ret) rfl (hIx _) hg hk hi3
    exact ⟨_, _, hr, C4, h1, h2, .inr ⟨rfl, .ret, h3⟩⟩
  | exit id =>
    obtain ⟨C', hg, hk, hi3⟩ := hp
    obtain ⟨W4, hr, C4, h1, h2, h3⟩ := fin (some (.exit id)) .done W3 C' (Ix (.exit id)) rfl (hIx _) hg hk hi3
    exact ⟨_, _, hr, C4, h1, h2, .inr ⟨rfl, .exit id, h3⟩⟩
  | goto t =>
    obtain ⟨C', hg, hk, hi3⟩ := hp
    obtain ⟨W4, hr, C4, h1, h2, h3⟩ := fin (some (.goto t)) .done W3 C' (Ix (.goto t)) rfl (hIx _) hg hk hi3
    exact ⟨_, _, hr, C4, h1, h2, .inr ⟨rfl, .goto t, h3⟩⟩
  | panic ch => exact hp.elim
  | outgrown => exact hp.elim

/-- THE STATEMENT, outside of every round. -/
theorem wp_range {α : Type} {P : Program} {n : Nat} {g : Operand} {ps : Array Tmp} {assign body : Code} {Q : Exit → Act → World → Prop} {a : Act} {w : World}
    {gf : Nat} {lb : Array Value} (hg : a.eval g = .func (.func gf) #[] lb) (eg : Enters P gf)
    {encs : α → Array Value} {Next : List α → α → Prop} {Done Stop : List α → Prop} {dl R : List Nat} {w0 : World} (hseq : Gives P gf lb encs Next Done Stop dl R w0)
    (hb0 : Keeps [] w0 w) (hps : ∀ x, (encs x).size = ps.size)
    (I : List Nat → List α → World → Prop) (Ix : Code → List Nat → List α → World → Prop) (hI : Abides w.heap.size dl I) (hIx : ∀ c, Abides w.heap.size dl (Ix c))
    (C0 : List Nat) (hC0 : ∀ k ∈ C0, k < w.heap.size ∧ k ∉ R) (hR : ∀ k ∈ R, k < w.heap.size) (h0 : I C0 [] w) (Ax : α → Act → World → Prop)
    (hAx : ∀ x a' W r o, w.heap.size ≤ r → Ax x a' W → W.heap[r]? = some (.loop o) → ∀ o', Ax x a' (W.putObj r o'))
    (hassign : ∀ (lp : Nat) (C : List Nat) (pre : List α) (x : α) (W : World) (K : Act → World → Prop), I C pre W → (∀ a' W', Keeps [] W W' → Ax x a' W' → K a' W') →
      assign.wpIn (Fence.wide.inRound lp) n P (Exit.then K (fun _ _ _ => False)) { tmps := (ps.zip (encs x)).foldl (fun t (p, v) => t.setIfInBounds p v) a.tmps, defers := [] } W)
    (hbody : ∀ (lp : Nat) (C : List Nat) (pre : List α) (x : α) (a' : Act) (W : World), w.heap.size < lp → lp ∉ C → (∃ r, W.heap[lp]? = some (.loop r)) → I C pre W → (∀ k ∈ C, k < W.heap.size) → Next pre x → Ax x a' W →
      body.wpIn (Fence.wide.inRound lp) n P (roundEnd I Ix C (pre ++ [x]) W) a' W)
    (hdone : ∀ (D : Nat) (C : List Nat) (xs : List α) (W : World), w.heap.size ≤ D → D ∉ C → Done xs → I C xs W → W.heap[D]? = some (.deferred (some [])) → Q .normal { a with defers := { target := .collected D, args := #[] } :: a.defers } W)
    (hstop : ∀ (D : Nat) (c : Code) (C : List Nat) (pre : List α) (W : World), w.heap.size ≤ D → D ∉ C → Stop pre → Ix c C pre W → W.heap[D]? = some (.deferred (some [])) → c.wpIn Fence.wide n P Q { a with defers := { target := .collected D, args := #[] } :: a.defers } W)
    :
    (Code.rangeFunc g ps assign body).wpIn Fence.wide n P Q a w := by
  refine wpIn_rangeFunc ?_
  intro fn _
  obtain ⟨W1, hW1⟩ : ∃ W1, (w.alloc (.deferred (some []))).alloc (.loop { state := .ready, pending := none, fn, tmps := a.tmps, params := ps, assign, body, defers := w.heap.size }) = W1 := ⟨_, rfl⟩
  have hk1 : Keeps [] w W1 := by rw [← hW1]; exact ((Keeps.refl _ _).alloc _).alloc _
  have hL1 : W1.heap[w.heap.size + 1]? = some (.loop { state := .ready, pending := none, fn, tmps := a.tmps, params := ps, assign, body, defers := w.heap.size }) := by
    rw [← hW1]; exact heap_new_at _ (by simp)
  have hD1 : W1.heap[w.heap.size]? = some (.deferred (some [])) := by
    rw [← hW1]; exact ((Keeps.refl [] _).alloc _).blk (heap_new w _) (by simp)
  have hI1 : I C0 [] W1 := hI C0 [] w W1 h0 hk1.os hk1.tape hk1.output hk1.size (fun k hk _ => hk1.block k hk (by simp))
  refine ⟨w.heap.size + 1, [{ target := .collected w.heap.size, args := #[] }], W1, { target := .fn (.func gf) lb, args := #[.func (.yield (w.heap.size + 1)) #[] #[]] }, W1, gf,
    #[.func (.yield (w.heap.size + 1)) #[] #[]] ++ lb, W1, ?_, ?_, fun _ _ => trivial, ?_, fun h => (by cases h), ?_⟩
  · rw [← hW1]; exact run_enterLoop_outer _ _ _ _ _
  · simp only [resolve, hg]
    simp [go_sem]
  · simp [invoke, go_sem, eg _ _]
  · have hJ0 : Over (w.heap.size + 1) w.heap.size (.deferred (some [])) { state := .ready, pending := none, fn, tmps := a.tmps, params := ps, assign, body, defers := w.heap.size } I ((w.heap.size + 1) :: w.heap.size :: C0) [] W1 :=
      ⟨⟨C0, by simp, ⟨fun h => by have := (hC0 _ h).1; omega, fun h => by have := (hC0 _ h).1; omega⟩, hI1⟩, hL1, hD1⟩
    refine callsIn_wide.2 ((hseq (w.heap.size + 1) w.heap.size ((w.heap.size + 1) :: w.heap.size :: C0)
      (fun C pre W => Over (w.heap.size + 1) w.heap.size (.deferred (some [])) { state := .ready, pending := none, fn, tmps := a.tmps, params := ps, assign, body, defers := w.heap.size } I C pre W)
      (fun C pre W => ∃ c, Over (w.heap.size + 1) w.heap.size (.deferred (some [])) { state := .done, pending := some c, fn, tmps := a.tmps, params := ps, assign, body, defers := w.heap.size } (Ix c) C pre W)
      W1 (hb0.trans hk1) hk1.size hR (Over.abides hI) ?_ ?_ ?_ hJ0).mono ?_)
    · rintro C pre W W' ⟨c, hj⟩ h1 h2 h3 h4 h5
      exact ⟨c, Over.abides (hIx c) C pre W W' hj h1 h2 h3 h4 h5⟩
    · intro k hk
      have h2 : W1.heap.size = w.heap.size + 2 := by rw [← hW1]; simp
      simp only [List.mem_cons] at hk
      rcases hk with rfl | rfl | hk
      · exact ⟨by omega, fun h => by have := hR _ h; omega⟩
      · exact ⟨by omega, fun h => by have := hR _ h; omega⟩
      · exact ⟨by have := (hC0 k hk).1; omega, (hC0 k hk).2⟩
    · rintro C pre x W hj hC hnext m
      exact round_of (P := P) (n := n) (base := w.heap.size) (encs := encs) (Ix := Ix) hI hIx (by omega) (by omega) hps Ax
        (fun x a' W r o h1 h2 h3 o' => hAx x a' W r o (by omega) h1 h3 o') (x := x)
        (fun C1 K _ _ hi hK => hassign _ C1 pre x W K hi hK) (fun C1 a' W' h1 _ h3 _ h5 h6 h7 => hbody _ C1 pre x a' W' (by omega) h1 (by obtain ⟨r, hr, _⟩ := h3; exact ⟨r, hr⟩) h5 h6 hnext h7) hj hC m
    · rintro e W2 ⟨⟨v, rfl⟩, C', (⟨xs, hS, hj⟩ | ⟨pre, hS, c, hj⟩)⟩
      · obtain ⟨⟨C1, hC, ⟨hn1, hn2⟩, hi⟩, hl, hd⟩ := hj
        exact ⟨none, _, run_endLoop (P := P) hl (by simp), hdone _ C1 xs _ (Nat.le_refl _) hn2 hS (hI.putObj _ _ hi hn1 (.inl (by omega))) ((World.putObj_heap_other (by omega)).trans hd)⟩
      · obtain ⟨⟨C1, hC, ⟨hn1, hn2⟩, hi⟩, hl, hd⟩ := hj
        exact ⟨some c, _, run_endLoop (P := P) hl (by simp), hstop _ c C1 pre _ (Nat.le_refl _) hn2 hS ((hIx c).putObj _ _ hi hn1 (.inl (by omega))) ((World.putObj_heap_other (by omega)).trans hd)⟩

/-- THE STATEMENT, in the round of another loop (whose record is l₀). -/
theorem wp_range_in {α : Type} {P : Program} {n : Nat} {g : Operand} {ps : Array Tmp} {assign body : Code} {Q : Exit → Act → World → Prop} {a : Act} {w : World}
    {l₀ : Nat} {r₀ : Loop} (hl₀ : w.heap[l₀]? = some (.loop r₀))
    {gf : Nat} {lb : Array Value} (hg : a.eval g = .func (.func gf) #[] lb) (eg : Enters P gf)
    {encs : α → Array Value} {Next : List α → α → Prop} {Done Stop : List α → Prop} {dl R : List Nat} {w0 : World} (hseq : Gives P gf lb encs Next Done Stop dl R w0)
    (hb0 : Keeps [] w0 w) (hps : ∀ x, (encs x).size = ps.size)
    (I : List Nat → List α → World → Prop) (Ix : Code → List Nat → List α → World → Prop) (hI : Abides w.heap.size dl I) (hIx : ∀ c, Abides w.heap.size dl (Ix c))
    (C0 : List Nat) (hC0 : ∀ k ∈ C0, k < w.heap.size ∧ k ∉ R) (hl0 : l₀ ∉ C0 ∧ l₀ ∉ R) (hR : ∀ k ∈ R, k < w.heap.size) (h0 : I C0 [] w) (Ax : α → Act → World → Prop)
    (hAx : ∀ x a' W r o, w.heap.size ≤ r → Ax x a' W → W.heap[r]? = some (.loop o) → ∀ o', Ax x a' (W.putObj r o'))
    (hassign : ∀ (lp : Nat) (C : List Nat) (pre : List α) (x : α) (W : World) (K : Act → World → Prop), I C pre W → (∀ a' W', Keeps [] W W' → Ax x a' W' → K a' W') →
      assign.wpIn (Fence.wide.inRound lp) n P (Exit.then K (fun _ _ _ => False)) { tmps := (ps.zip (encs x)).foldl (fun t (p, v) => t.setIfInBounds p v) a.tmps, defers := [] } W)
    (hbody : ∀ (lp : Nat) (C : List Nat) (pre : List α) (x : α) (a' : Act) (W : World), w.heap.size ≤ lp → lp ∉ C → (∃ r, W.heap[lp]? = some (.loop r)) → I C pre W → (∀ k ∈ C, k < W.heap.size) → Next pre x → Ax x a' W →
      body.wpIn (Fence.wide.inRound lp) n P (roundEnd I Ix C (pre ++ [x]) W) a' W)
    (hdone : ∀ (C : List Nat) (xs : List α) (W : World), l₀ ∉ C → Done xs → I C xs W → W.heap[l₀]? = some (.loop r₀) → Q .normal a W)
    (hstop : ∀ (c : Code) (C : List Nat) (pre : List α) (W : World), l₀ ∉ C → Stop pre → Ix c C pre W → W.heap[l₀]? = some (.loop r₀) → c.wpIn (Fence.wide.inRound l₀) n P Q a W) :
    (Code.rangeFunc g ps assign body).wpIn (Fence.wide.inRound l₀) n P Q a w := by
  refine wpIn_rangeFunc ?_
  intro fn _
  obtain ⟨W1, hW1⟩ : ∃ W1, w.alloc (.loop { state := .ready, pending := none, fn, tmps := a.tmps, params := ps, assign, body, defers := r₀.defers }) = W1 := ⟨_, rfl⟩
  have hk1 : Keeps [] w W1 := by rw [← hW1]; exact (Keeps.refl _ _).alloc _
  have hL1 : W1.heap[w.heap.size]? = some (.loop { state := .ready, pending := none, fn, tmps := a.tmps, params := ps, assign, body, defers := r₀.defers }) := by
    rw [← hW1]; exact heap_new_at _ (by simp)
  have hD1 : W1.heap[l₀]? = some (.loop r₀) := hk1.blk hl₀ (by simp)
  have hlt := ltOf hl₀
  have hI1 : I C0 [] W1 := hI C0 [] w W1 h0 hk1.os hk1.tape hk1.output hk1.size (fun k hk _ => hk1.block k hk (by simp))
  refine ⟨w.heap.size, [], W1, { target := .fn (.func gf) lb, args := #[.func (.yield w.heap.size) #[] #[]] }, W1, gf,
    #[.func (.yield w.heap.size) #[] #[]] ++ lb, W1, ?_, ?_, fun _ _ => trivial, ?_, fun h => (by cases h), ?_⟩
  · rw [← hW1]; exact run_enterLoop_inner hl₀ _ _ _ _ _
  · simp only [resolve, hg]
    simp [go_sem]
  · simp [invoke, go_sem, eg _ _]
  · have hJ0 : Over w.heap.size l₀ (.loop r₀) { state := .ready, pending := none, fn, tmps := a.tmps, params := ps, assign, body, defers := r₀.defers } I (w.heap.size :: l₀ :: C0) [] W1 :=
      ⟨⟨C0, by simp, ⟨fun h => by have := (hC0 _ h).1; omega, hl0.1⟩, hI1⟩, hL1, hD1⟩
    refine CallsIn.inRound l₀ (callsIn_wide.2 ((hseq w.heap.size w.heap.size (w.heap.size :: l₀ :: C0)
      (fun C pre W => Over w.heap.size l₀ (.loop r₀) { state := .ready, pending := none, fn, tmps := a.tmps, params := ps, assign, body, defers := r₀.defers } I C pre W)
      (fun C pre W => ∃ c, Over w.heap.size l₀ (.loop r₀) { state := .done, pending := some c, fn, tmps := a.tmps, params := ps, assign, body, defers := r₀.defers } (Ix c) C pre W)
      W1 (hb0.trans hk1) hk1.size hR (Over.abides hI) ?_ ?_ ?_ hJ0).mono ?_))
    · rintro C pre W W' ⟨c, hj⟩ h1 h2 h3 h4 h5
      exact ⟨c, Over.abides (hIx c) C pre W W' hj h1 h2 h3 h4 h5⟩
    · intro k hk
      have h2 : W1.heap.size = w.heap.size + 1 := by rw [← hW1]; simp
      simp only [List.mem_cons] at hk
      rcases hk with rfl | rfl | hk
      · exact ⟨by omega, fun h => by have := hR _ h; omega⟩
      · exact ⟨by omega, hl0.2⟩
      · exact ⟨by have := (hC0 k hk).1; omega, (hC0 k hk).2⟩
    · rintro C pre x W hj hC hnext m
      exact round_of (P := P) (n := n) (base := w.heap.size) (encs := encs) (Ix := Ix) hI hIx (Nat.le_refl _) (by omega) hps Ax
        (fun x a' W r o h1 h2 h3 o' => hAx x a' W r o (by omega) h1 h3 o') (x := x)
        (fun C1 K _ _ hi hK => hassign _ C1 pre x W K hi hK) (fun C1 a' W' h1 _ h3 _ h5 h6 h7 => hbody _ C1 pre x a' W' (Nat.le_refl _) h1 (by obtain ⟨r, hr, _⟩ := h3; exact ⟨r, hr⟩) h5 h6 hnext h7) hj hC m
    · rintro e W2 ⟨⟨v, rfl⟩, C', (⟨xs, hS, hj⟩ | ⟨pre, hS, c, hj⟩)⟩
      · obtain ⟨⟨C1, hC, ⟨hn1, hn2⟩, hi⟩, hl, hd⟩ := hj
        exact ⟨none, _, run_endLoop (P := P) hl (by simp), hdone C1 xs _ hn2 hS (hI.putObj _ _ hi hn1 (.inl (Nat.le_refl _))) ((World.putObj_heap_other (by omega)).trans hd)⟩
      · obtain ⟨⟨C1, hC, ⟨hn1, hn2⟩, hi⟩, hl, hd⟩ := hj
        exact ⟨some c, _, run_endLoop (P := P) hl (by simp), hstop c C1 pre _ hn2 hS ((hIx c).putObj _ _ hi hn1 (.inl (Nat.le_refl _))) ((World.putObj_heap_other (by omega)).trans hd)⟩

/-- A variable in a box, appended to: what has turned. -/
theorem appended2 {W w1 : World} {n₀ B : Nat} {t e : TypeId} {size : Nat} {v v' : Value} {m : Nat} {ys : List Value} {tmp : Obj}
    (hv : Boxed W B t v)
    (hown' : w1.ownsRow n₀ e size v' m ys) (hgrow : (W.alloc tmp).grownBy w1 v.ownBlock) (hnew : ∀ g, v'.ownBlock = some g → v.ownBlock = some g ∨ (W.alloc tmp).heap.size ≤ g) :
    Grows (held B v) (held B v') W (w1.setCell ⟨B, 0, none⟩ v') ∧ Keeps (held B v) W (w1.setCell ⟨B, 0, none⟩ v') := by
  have hs : W.heap.size ≤ w1.heap.size := by have := hgrow.size; simp at this; omega
  have hs2 : (w1.setCell ⟨B, 0, none⟩ v').heap.size = w1.heap.size := by simp [World.setCell]
  constructor
  · intro g hg
    rw [hs2]
    rcases mem_held.1 hg with rfl | hg
    · exact ⟨.inl (mem_held.2 (.inl rfl)), by have := hv.lt; omega⟩
    · refine ⟨?_, (hown'.lt g hg).2⟩
      rcases hnew g hg with h | h
      · exact .inl (mem_held.2 (.inr h))
      · exact .inr (by simp at h; omega)
  · have hK : Keeps (held B v) W w1 := ⟨hgrow.os, hgrow.tape, hgrow.output, hs, fun g hg hn => ?_⟩
    exact hK.setCell (fun _ => mem_held.2 (.inl rfl)) _
    rw [hgrow.block g (by simp; omega) (fun h => hn (mem_held.2 (.inr h.symm)))]
    exact Below.heap_alloc _ _ _ hg

/-- A variable in a box that holds a row of one's own hangs on its blocks alone. -/
theorem held_kept {W W' : World} {n₀ B : Nat} {t e : TypeId} {size : Nat} {v : Value} {n : Nat} {xs : List Value} (hv : Boxed W B t v) (hrow : W.ownsRow n₀ e size v n xs)
    (hk : ∀ k, k < W.heap.size → k ∈ held B v → W'.heap[k]? = W.heap[k]?) : Boxed W' B t v ∧ W'.ownsRow n₀ e size v n xs :=
  ⟨(hk B hv.lt (mem_held.2 (.inl rfl))).trans hv, ownsRow_of hrow fun g hg => hk g (hrow.lt g hg).2 (mem_held.2 (.inr hg))⟩

theorem Keeps.of_old {l : List Nat} {w W W' : World} (h : Keeps l w W) (h1 : W'.os = W.os) (h2 : W'.tape = W.tape) (h3 : W'.output = W.output) (h4 : W.heap.size ≤ W'.heap.size)
    (hk : ∀ k, k < w.heap.size → k ∉ l → W'.heap[k]? = W.heap[k]?) : Keeps l w W' :=
  ⟨h1.trans h.os, h2.trans h.tape, h3.trans h.output, Nat.le_trans h.size h4, fun k hk1 hk2 => (hk k hk1 hk2).trans (h.block k hk1 hk2)⟩

end Go.Proofs.YthjghcfnopancaaGreat

/-
  Who is live, ascending: the iterator of a table, and Live, Room, Open.
-/
namespace Go.Proofs.YthjghcfnopancaaGreat
open Go.RowKit Go.Shelf Go.Maps

/-- A table's numbers are distinct ints, ascending. -/
structure Rising (l : List (Int × Int)) : Prop where
  lt : (l.map (·.1)).Pairwise (· < ·)
  wf : ∀ p ∈ l, (Lit.int .i64 p.1).wf = true
  len : l.length ≤ 2147483647
theorem Rising.nodup {l : List (Int × Int)} (h : Rising l) : (l.map (·.1)).Nodup := h.lt.imp (fun h e => by omega)
def liveIds (l : List (Int × Int)) : List Int := (l.filter (·.2 == 0)).map (·.1)

theorem sorts (m : Nat) : AnyZI.SortsIn Tryz.prog Tryz.sortedA_ren Fence.wide m :=
  ⟨fun blk off cap ss W hH hblk hsz => callsIn_wide.2 (AnyM.slices_Sort_int Tryz.sortA blk off cap ss W hH hblk hsz),
   fun p cap W => callsIn_wide.2 (AnyM.slices_Sort_int_none Tryz.sortA p cap W)⟩

theorem keys_calls (n : Nat) (mb : Option Nat) (W : World) : CallsIn Fence.wide n Tryz.prog 71 #[.map mb] W fun e w' =>
    e = .returned (.func (.func 78) #[] #[.pointer (some ⟨W.heap.size, 0, none⟩)]) ∧ w' = W.alloc (.cells #[.map mb] 78) :=
  AnyZI.keys_in Tryz.keysA Fence.wide n trivial rfl mb W

theorem field_entry (c : Int) (w : World) : (Instr.field 97 (.agg #[.int .i64 c]) 0).run Tryz.prog w = .ok (.int .i64 c) w := by kernel_rfl

theorem tmap_keys (l : List (Int × Int)) : (tmap l).map (·.1) = l.map (·.1) := by simp [tmap]

set_option maxHeartbeats 1000000 in
/-- slices.Sorted of what maps.Keys handed back. -/
theorem sorted_calls {l : List (Int × Int)} (hr : Rising l) (b mb : Nat) (w : World) (hM : IMap w mb (tmap l)) (hb : w.cell? ⟨b, 0, none⟩ = some (.map (some mb))) :
    CallsIn Fence.wide 7 Tryz.prog 70 #[.func (.func 78) #[] #[.pointer (some ⟨b, 0, none⟩)]] w fun e w' =>
      ∃ v, e = .returned v ∧ w'.ownsRow w.heap.size 3 1 v l.length (l.map (fun p => Value.int .i64 p.1)) ∧ (v = .slice none 0 0 ↔ l = []) ∧ Below w.heap.size w w' := by
  have hbw : b < w.heap.size := by
    have h := hb
    unfold World.cell? at h
    cases hh : w.heap[b]? with
    | none => simp [hh] at h
    | some o => exact (Array.getElem?_eq_some_iff.1 hh).1
  have hlen := hr.len
  obtain ⟨D0, hown, hperm, hsize⟩ := own_of_imap (H := Unit) (P := Tryz.prog) (K := 3) Tryz.underlying3 hM (by rw [tmap_keys]; exact hr.nodup) (by
    intro p hp; obtain ⟨q, hq, rfl⟩ := List.mem_map.1 hp; exact hr.wf q hq) (by simp [tmap, maxLen]; omega)
  have hbl := hown.lt
  have hseq : SeqGives Fence.wide 4 Tryz.prog 78 #[.pointer (some ⟨b, 0, none⟩)] encZ (fun ss => ss.Perm (intKeys D0)) (Maps.size D0) w :=
    AnyZI.keys_gives (ρ := Tryz.keysA_ren) { Tryz.keysA with } Fence.wide _ trivial rfl (by omega) b mb (tmap l).length D0 _ hbw hb hown
  have cS := AnyZI.sorted_in Tryz.sortedA Fence.wide 7 trivial trivial trivial trivial rfl (by omega) (sorts _) (enters_of Tryz.func77 (by kernel_rfl) rfl) 78 #[.pointer (some ⟨b, 0, none⟩)] trivial (enters_of Tryz.func78 (by kernel_rfl) rfl) (fun ss => ss.Perm (intKeys D0)) (Maps.size D0) (by rw [hsize]; simp [tmap, maxLen]; omega) (by rw [hsize]; simp [tmap]; omega) _ hseq
  refine cS.mono ?_
  rintro e w' ⟨v, ss, rfl, hS, hrow, hnil, hbel⟩
  have hsort : ss.mergeSort leI = l.map (·.1) := by
    have hp : ss.Perm (l.map (·.1)) := hS.trans (hperm.trans (by rw [tmap_keys]))
    rw [mergeSort_of_perm_i hp]
    exact List.mergeSort_of_pairwise (hr.lt.imp (fun h => by simp [leI]; omega))
  have hl1 : ss.length = l.length := by
    have := congrArg List.length hsort
    simpa using this
  refine ⟨v, rfl, ?_, ?_, hbel⟩
  · have h2 := hrow
    rw [hl1] at h2
    have h3 : (ss.mergeSort (fun x y => decide (x ≤ y))).map encZ = l.map (fun p => Value.int .i64 p.1) := by
      have : ss.mergeSort (fun x y => decide (x ≤ y)) = l.map (·.1) := hsort
      rw [this]; simp
    rw [h3] at h2
    exact h2
  · rw [hnil]
    constructor
    · rintro rfl; simpa using hl1.symm
    · rintro rfl; simpa using hl1

theorem liveIds_succ (l : List (Int × Int)) (k : Nat) (h : k < l.length) : liveIds (l.take (k + 1)) = liveIds (l.take k) ++ (if (l[k].2 == 0) = true then [l[k].1] else []) := by
  rw [List.take_succ_eq_append_getElem h]
  unfold liveIds
  rw [List.filter_append, List.map_append]
  by_cases e : (l[k].2 == 0) = true
  · simp [e]
  · have e' : (l[k].2 == 0) = false := by simpa using e
    simp [e']

theorem look_at {l : List (Int × Int)} (hn : (l.map (·.1)).Nodup) (k : Nat) (h : k < l.length) : look (tmap l) l[k].1 = some (.agg #[.int .i64 l[k].2]) := by
  rw [look_tmap]
  cases hq : l.find? (fun p => p.1 == l[k].1) with
  | none => have := List.find?_eq_none.1 hq _ (List.getElem_mem h); simp at this
  | some q =>
    have hq1 := List.mem_of_find?_eq_some hq
    have hq2 : q.1 = l[k].1 := by simpa using List.find?_some hq
    rw [nodup_fst hn hq1 (List.getElem_mem h) hq2]; rfl

theorem liveIds_mid {l : List (Int × Int)} (k : Nat) (h : k < l.length) (hc : (l[k].2 == 0) = true) : liveIds (l.take k) ++ [l[k].1] <+: liveIds l := by
  have h1 := liveIds_succ l k h
  rw [if_pos hc] at h1
  rw [← h1]
  have h2 : liveIds l = liveIds (l.take (k + 1)) ++ liveIds (l.drop (k + 1)) := by
    have h3 : l = l.take (k + 1) ++ l.drop (k + 1) := (List.take_append_drop _ _).symm
    have h4 := congrArg liveIds h3
    rw [h4]
    simp only [liveIds, List.filter_append, List.map_append]
  rw [h2]
  exact List.prefix_append _ _

set_option maxRecDepth 100000 in
set_option maxHeartbeats 2000000 in
/-- The iterator of live numbers: all of them, ascending. -/
theorem live_gives {l : List (Int × Int)} (hr : Rising l) (Bn t mb : Nat) (most last : Int) (wa : World)
    (hBa : wa.heap[Bn]? = some (.cells #[.pointer (some ⟨t, 0, none⟩)] 51 (0, 0))) (hTa : TblAt wa t mb most last l) :
    Gives Tryz.prog 69 #[.pointer (some ⟨Bn, 0, none⟩)] (fun x : Int => #[.int .i64 x]) (fun pre x => pre ++ [x] <+: liveIds l) (fun xs => xs = liveIds l) (fun pre => pre <+: liveIds l) [] [Bn, t, mb] wa := by
  intro lp base C0 J Jx w0 hka hbase hR hJ _ hC0 hY h0
  have hB := hka.blk hBa (by simp)
  have hT : TblAt w0 t mb most last l := ⟨hka.blk hTa.blk (by simp), hTa.map.keep hka (by simp)⟩
  clear hBa hTa hka
  refine (callsIn_wide (n := 9)).1 ?_
  have cB : w0.cell? ⟨Bn, 0, none⟩ = some (.pointer (some ⟨t, 0, none⟩)) := cellOf hB 0 rfl
  have c2 : w0.cell? ⟨t, 2, none⟩ = some (.map (some mb)) := cellOf hT.blk 2 rfl
  have HT := Lib.hid hT
  have HB := Lib.hid hB
  have HC := Lib.hid hC0
  have HR := Lib.hid hR
  clear hT hB hC0 hR
  refine callsIn_of_wp Tryz.func69 rfl trivial ?_ rfl
  simp only [Tryz.ntmps69, List.size_toArray, List.length_cons, List.length_nil, Nat.reduceAdd, Nat.reduceSub, Array.replicate_succ, Array.replicate_zero, List.push_toArray, List.append_toArray, List.nil_append, List.cons_append]
  have hM1 : IMap (w0.alloc (.cells #[.map (some mb)] 78)) mb (tmap l) := HT.out.map.alloc _
  have hb1 : (w0.alloc (.cells #[.map (some mb)] 78)).cell? ⟨w0.heap.size, 0, none⟩ = some (.map (some mb)) := cellOf (heap_new _ _) 0 rfl
  have cS := callsIn_wide (n := 9 - 1) |>.2 (callsIn_wide.1 (sorted_calls hr _ _ _ hM1 hb1))
  have hfK : Fence.wide.fn 71 := trivial
  have hfS : Fence.wide.fn 70 := trivial
  have hJn : ∀ w1, Below w0.heap.size w0 w1 → J C0 [] w1 := fun w1 hb => hJ C0 [] w0 w1 h0 hb.os hb.tape hb.output hb.size (fun k hk _ => hb.block k hk)
  by_cases hl : l = []
  · subst hl
    have HS := Lib.hid cS
    clear cS hM1 hb1
    gi_wp2_with (first
      | (gi_at_call 71; refine (keys_calls _ _ _).mono ?_; rintro e w' ⟨rfl, rfl⟩)
      | (gi_at_call 70; refine HS.out.mono ?_; rintro e w1 ⟨v, rfl, hrow, hnil, hbel⟩; obtain rfl : v = .slice none 0 0 := by simpa using hnil))
    gi_loopw [12] (fun i wr => i = .int .i64 0 ∧ J C0 [] wr) (fun _ _ => 0)
    case atStart => exact ⟨rfl, hJn _ (((Below.refl _ w0).alloc (Nat.le_refl _) _).trans (hbel.mono (by simp)))⟩
    case round =>
      obtain ⟨rfl, hJr⟩ := hrel
      gi_wp2
      go_end0
      exact ⟨⟨_, rfl⟩, C0, .inl ⟨[], by simp [liveIds], hJr⟩⟩
  · have hpos : 0 < l.length := List.length_pos_iff.2 hl
    replace cS := cS.mono (R' := fun e w' => ∃ g cap cur, e = .returned (.slice (some ⟨g, 0, none⟩) l.length cap) ∧ w0.heap.size < g ∧ w'.heap[g]? = some (.cells cur 3 (0, 0)) ∧ l.length ≤ cap ∧ cap ≤ maxLen ∧ (∀ (i : Nat) (x : Value), (l.map (fun p => Value.int .i64 p.1))[i]? = some x → cur[i]? = some x) ∧ Below w0.heap.size w0 w') (by
      rintro e w' ⟨v, rfl, hrow, hnil, hbel⟩
      obtain ⟨g, cap, cur, rfl, h1, h2, h3, h4, h5⟩ := ownsRow_at hrow hpos
      exact ⟨g, cap, cur, rfl, by simp at h1; omega, h2, h3, h4, h5, ((Below.refl _ w0).alloc (Nat.le_refl _) _).trans (hbel.mono (by simp))⟩)
    have HS := Lib.hid cS
    clear cS hM1 hb1
    gi_wp2_with (first
      | (gi_at_call 71; refine (keys_calls _ _ _).mono ?_; rintro e w' ⟨rfl, rfl⟩)
      | (gi_at_call 70; refine HS.out.mono ?_; rintro e w1 ⟨g, cap, cur, rfl, hg0, hg, hcap, hcm, hcur, hbel⟩))
    have hk1 : Keeps [] w0 w1 := Keeps.of_below hbel
    have hT1 : TblAt w1 t mb most last l := ⟨hk1.blk HT.out.blk (by simp), HT.out.map.keep hk1 (by simp)⟩
    have hB1 : w1.heap[Bn]? = some (.cells #[.pointer (some ⟨t, 0, none⟩)] 51 (0, 0)) := hk1.blk HB.out (by simp)
    have hgw := ltOf hg
    gi_loopw [12] (fun i wr => ∃ (k : Nat) (C : List Nat), k ≤ l.length ∧ i = .int .i64 k ∧ (∀ c ∈ C, c < wr.heap.size ∧ c ∉ [Bn, t, mb, g]) ∧ J C (liveIds (l.take k)) wr ∧ TblAt wr t mb most last l ∧
        wr.heap[Bn]? = some (.cells #[.pointer (some ⟨t, 0, none⟩)] 51 (0, 0)) ∧ wr.heap[g]? = some (.cells cur 3 (0, 0)))
      (fun i _ => l.length - (intOf i).toNat)
    case atStart =>
      refine ⟨0, C0, by omega, rfl, fun c hc => ⟨Nat.lt_of_lt_of_le (HC.out c hc).1 hk1.size, fun hm => ?_⟩, hJn _ hbel, hT1, hB1, hg⟩
      have h1 := HC.out c hc
      simp only [List.mem_cons, List.not_mem_nil, or_false] at hm h1
      rcases hm with rfl | rfl | rfl | rfl
      · exact h1.2 (.inl rfl)
      · exact h1.2 (.inr (.inl rfl))
      · exact h1.2 (.inr (.inr rfl))
      · omega
    case round =>
      obtain ⟨k, C, hk, rfl, hC, hJp, hTr, hBr, hgr⟩ := hrel
      clear hT1 hB1 hg hJn cB c2 h0
      have HTr := Lib.hid hTr
      have HBr := Lib.hid hBr
      have HCr := Lib.hid hC
      have Hgr := Lib.hid hgr
      have cB : wr.cell? ⟨Bn, 0, none⟩ = some (.pointer (some ⟨t, 0, none⟩)) := cellOf hBr 0 rfl
      have c2 : wr.cell? ⟨t, 2, none⟩ = some (.map (some mb)) := cellOf hTr.blk 2 rfl
      have hll := hr.len
      clear hTr hBr hgr hC
      by_cases hlt : k < l.length
      · have hck : wr.cell? ⟨g, k, none⟩ = some (.int .i64 l[k].1) := cellOf Hgr.out k (hcur k _ (by simp [hlt]))
        have hlk := (run_lookup_yes (P := Tryz.prog) Tryz.underlying78 Tryz.underlying3 HTr.out.map (look_at hr.nodup k hlt)).1
        have hfd := field_entry l[k].2 wr
        clear hcur
        by_cases hc : (l[k].2 == 0) = true
        · obtain ⟨fn, tmps, assign, body, hy, hR⟩ := hY C (liveIds (l.take k)) l[k].1 wr hJp (fun c hc => (HCr.out c hc).1) (liveIds_mid k hlt hc) (9 - 1)
          gi_wp2
          refine hR.mono ?_
          rintro e W3 ⟨C', hg', hk3, (⟨rfl, hJ3⟩ | ⟨rfl, hJx3⟩)⟩
          · gi_wp2
            go_roundw
            case rel =>
              have hn : ∀ c ∈ C', c ∉ [Bn, t, mb, g] := fun c hc hm => by
                rcases (hg' c hc).1 with h | h
                · exact (HCr.out c h).2 hm
                · simp only [List.mem_cons, List.not_mem_nil, or_false] at hm
                  have h1 := ltOf HBr.out
                  have h2 := ltOf HTr.out.blk
                  have h3 := HTr.out.map.lt
                  have h4 := ltOf Hgr.out
                  omega
              have hnC : ∀ x ∈ [Bn, t, mb, g], x ∉ C := fun x hx hm => (HCr.out x hm).2 hx
              refine ⟨k + 1, C', by omega, by go_num, fun c hc => ⟨(hg' c hc).2, hn c hc⟩, ?_, ⟨hk3.blk HTr.out.blk (hnC t (by simp)), HTr.out.map.keep hk3 (hnC mb (by simp))⟩, hk3.blk HBr.out (hnC Bn (by simp)), hk3.blk Hgr.out (hnC g (by simp))⟩
              rw [liveIds_succ l k hlt, if_pos hc]; exact hJ3
            case measure => simp [intOf]; omega
          · gi_wp2
            refine bodyPost_ret (results_none rfl _ _ _) rfl ?_
            exact ⟨⟨_, rfl⟩, C', .inr ⟨_, liveIds_mid k hlt hc, hJx3⟩⟩
        · have hc' : (l[k].2 == 0) = false := by simpa using hc
          gi_wp2
          refine ⟨fun _ h => (by cases h), ?_⟩
          gi_wp2
          go_roundw
          case rel =>
            refine ⟨k + 1, C, by omega, by go_num, HCr.out, ?_, HTr.out, HBr.out, Hgr.out⟩
            rw [liveIds_succ l k hlt, if_neg hc, List.append_nil]; exact hJp
          case measure => simp [intOf]; omega
      · gi_wp2
        go_end0
        refine ⟨⟨_, rfl⟩, C, .inl ⟨_, ?_, hJp⟩⟩
        rw [List.take_of_length_le (by omega)]

theorem live_calls (t : Nat) (w : World) : CallsIn Fence.wide 9 Tryz.prog 61 #[.pointer (some ⟨t, 0, none⟩)] w fun e w' =>
    e = .returned (.func (.func 69) #[] #[.pointer (some ⟨w.heap.size, 0, none⟩)]) ∧ w' = w.alloc (.cells #[.pointer (some ⟨t, 0, none⟩)] 51) := by
  refine callsIn_of_wp Tryz.func61 rfl trivial ?_ rfl
  simp only [Tryz.ntmps61, List.size_toArray, List.length_cons, List.length_nil, Nat.reduceAdd, Nat.reduceSub, Array.replicate_succ, Array.replicate_zero, List.push_toArray, List.append_toArray, List.nil_append, List.cons_append]
  gi_wp2
  go_ret
  exact ⟨rfl, rfl⟩

theorem info_int : (Tryz.prog.info? 3).map (fun i => (i.zero, i.size, i.bytes)) = some (some (.int .i64 0), 1, 8) := by kernel_rfl

set_option maxRecDepth 100000 in
set_option maxHeartbeats 2000000 in
/-- Live: a new slice of the live numbers. -/
theorem live_any {t mb : Nat} {most last : Int} {l : List (Int × Int)} {w : World} (h : TblAt w t mb most last l) (h1 : 1 ≤ most) (hr : Rising l) :
    Calls Tryz.prog 42 #[.pointer (some ⟨t, 0, none⟩)] w fun e w' => ∃ v, e = .returned v ∧ w'.ownsRow w.heap.size 3 1 v (liveIds l).length ((liveIds l).map (Value.int .i64)) ∧
      (v = .slice none 0 0 ↔ liveIds l = []) ∧ Keeps [] w w' := by
  have c0 : w.cell? ⟨t, 0, none⟩ = some (.int .i64 most) := cellOf h.blk 0 rfl
  have h0 : (most == 0) = false := by simp; omega
  have ht := ltOf h.blk
  have hmb := h.map.lt
  have H := Lib.hid h
  have HR := Lib.hid hr
  have hll := hr.len
  clear h hr
  obtain ⟨i0, hi, hz0, hz1, hz2⟩ := info_parts info_int
  refine (callsIn_wide (n := 10)).1 ?_
  refine callsIn_of_wp_marks Tryz.func42 rfl trivial ?_ rfl
  simp only [Tryz.ntmps42, List.size_toArray, List.length_cons, List.length_nil, Nat.reduceAdd, Nat.reduceSub, Array.replicate_succ, Array.replicate_zero, List.push_toArray, List.append_toArray, List.nil_append, List.cons_append]
  have hf1 : Fence.wide.fn 60 := trivial
  have hf2 : Fence.wide.fn 61 := trivial
  have hf3 : Fence.wide.fn 69 := trivial
  have hsa := @Oper.semAt_some
  gi_wp2_with (first
    | (gi_at_call 60; refine (callsIn_wide.2 (tnone_made _ most _ c0 h0)).mono ?_; rintro e w' ⟨rfl, rfl⟩)
    | (gi_at_call 61; refine (live_calls _ _).mono ?_; rintro e w' ⟨rfl, rfl⟩))
  have bO := Boxed.new w 40 (.slice none 0 0)
  have hW0 : Keeps [] w ((w.alloc (.cells #[.slice none 0 0] 40)).alloc (.cells #[.pointer (some ⟨t, 0, none⟩)] 51)) := ((Keeps.refl _ _).alloc _).alloc _
  refine wp_range (gf := 69) (lb := #[.pointer (some ⟨w.heap.size + 1, 0, none⟩)]) rfl (enters_of Tryz.func69 (by kernel_rfl) rfl)
    (live_gives HR.out (w.heap.size + 1) t mb most last _ (heap_new_at _ (by simp)) ⟨hW0.blk H.out.blk (by simp), H.out.map.keep hW0 (by simp)⟩) (Keeps.refl _ _) (fun _ => rfl)
    (fun C pre W => ∃ v, C = held w.heap.size v ∧ Boxed W w.heap.size 40 v ∧ W.ownsRow w.heap.size 3 1 v pre.length (pre.map (Value.int .i64)) ∧ (v = .slice none 0 0 ↔ pre = []) ∧ Keeps [] w W)
    (fun _ _ _ _ => False) ?hI (fun _ _ _ _ _ h _ _ _ _ _ => h.elim)
    (held w.heap.size (.slice none 0 0)) (by intro k hk; simp [held, Value.ownBlock] at hk; subst hk; simp; omega) (by intro k hk; simp at hk; rcases hk with rfl | rfl | rfl <;> simp <;> omega)
    ⟨_, rfl, bO.alloc _, World.ownsRow_nil _ _ _ _, by simp, hW0⟩
    (fun x a' _ => a' = { tmps := #[.pointer (some ⟨t, 0, none⟩), undef, .slice none 0 0, .pointer (some ⟨w.heap.size, 0, none⟩), .int .i64 x, .pointer (some ⟨t, 0, none⟩), .bool false, .pointer (some ⟨t, 0, none⟩),
      .func (.func 69) #[] #[.pointer (some ⟨w.heap.size + 1, 0, none⟩)], .int .i64 x, undef, undef, undef, undef, undef], defers := [] })
    (fun _ _ _ _ _ _ h _ _ => h) ?assign ?body ?done (fun _ _ _ _ _ _ _ _ h _ => h.elim)
  case hI =>
    rintro C pre W W' ⟨v, rfl, hv, hrow, hnil, hk⟩ g1 g2 g3 g4 g5
    obtain ⟨a1, a2⟩ := held_kept (W' := W') hv hrow (fun k hk1 hk2 => g5 k hk1 (.inl hk2))
    exact ⟨v, rfl, a1, a2, hnil, hk.of_old g1 g2 g3 g4 (fun k hk1 _ => g5 k (by have := hk.size; omega) (.inr ⟨by simp; omega, by simp⟩))⟩
  case assign =>
    rintro lp C pre x W K _ hK
    gi_wp2
    exact hK _ _ (Keeps.refl _ _) rfl
  case body =>
    rintro lp C pre x a' W _ _ _ ⟨v, rfl, hv, hrow, hnil, hk⟩ hlt hnext rfl
    have hc := hv.cell
    have hp : pre.length < l.length := by
      have h1 := hnext.length_le
      have h2 : (liveIds l).length ≤ l.length := by simp only [liveIds, List.length_map]; exact List.length_filter_le _ _
      simp at h1; omega
    have hks := hk.size
    have Hn := Lib.hid hnil
    have Hx := Lib.hid hnext
    clear hnil hnext c0
    gi_wp2_with (gi_at_builtin; refine wpListIn_append2 _ rfl _ _ 40 rfl w.heap.size 3 i0 (.int .i64 0) 1 8 Tryz.underlying40 hi hz0 hz1 hz2 rfl (by decide) _ _ _ rfl (hrow.alloc _) ⟨W.heap.size, 0, none⟩ 1 1 [.int .i64 x] rfl rfl (cell_one_new _ _ _) (by simp [Value.oneCell']) (by simp [maxLen]; omega) (by omega) (by simp; omega) ?_; intro v' w1 hown' hgrow _ hnew; obtain ⟨g', cap', rfl⟩ := ownsRow_succ hown'; obtain ⟨hv1, hv2, hr2, -, -⟩ := hv.appended (by decide) hrow hks (Nat.le_refl _) hown' hgrow; obtain ⟨hgr, hkp⟩ := appended2 hv hown' hgrow hnew; have hc1 := hv1.cell; have hf1 := hv1.frozen)
    exact ⟨_, hgr, hkp, _, rfl, hv2, by simpa using hr2, by simp, hk.trans' hkp (by intro i hi1 hi2; have := (mem_held.1 hi1); rcases this with rfl | h; omega; have := (hrow.lt i h).1; omega)⟩
  case done =>
    rintro D C xs W hD hn hxs ⟨v, rfl, hv, hrow, hnil, hk⟩ hd
    have hc := hv.cell
    subst hxs
    have hDB : D ≠ w.heap.size := fun e => hn (mem_held.2 (.inl e))
    gi_wp2
    refine ⟨by simp, .inl ⟨_, _, rfl, run_takeDeferred hd, ?_⟩⟩
    exact ⟨_, results_tmp rfl _ _ _, v, rfl, ownsRow_of hrow (fun g hg => World.putObj_heap_other (fun e => hn (mem_held.2 (.inr (e ▸ hg))))), hnil, Keeps.putObj hk (fun h => by simp at hD; omega)⟩

end Go.Proofs.YthjghcfnopancaaGreat

/-
  How many more may be live, and the next number.
-/
namespace Go.Proofs.YthjghcfnopancaaGreat
open Go.RowKit Go.Shelf Go.Maps

theorem ownsRow_slice {w : World} {base : Nat} {e : TypeId} {size : Nat} {v : Value} {n : Nat} {xs : List Value} (h : w.ownsRow base e size v n xs) : ∃ a cap, v = .slice a n cap := by
  rcases h.2 with ⟨rfl, rfl⟩ | ⟨g, cap, _, rfl, _⟩
  · exact ⟨_, _, rfl⟩
  · exact ⟨_, _, rfl⟩

set_option maxHeartbeats 1000000 in
theorem room_any {t mb : Nat} {most last : Int} {l : List (Int × Int)} {w : World} (h : TblAt w t mb most last l) (h1 : 1 ≤ most) (h2 : most ≤ 64) (hr : Rising l) :
    Calls Tryz.prog 63 #[.pointer (some ⟨t, 0, none⟩)] w fun e w' => e = .returned (.int .i64 (most - (liveIds l).length)) ∧ Keeps [] w w' := by
  have c0 : w.cell? ⟨t, 0, none⟩ = some (.int .i64 most) := cellOf h.blk 0 rfl
  have h0 : (most == 0) = false := by simp; omega
  have hl : (liveIds l).length ≤ l.length := by simp only [liveIds, List.length_map]; exact List.length_filter_le _ _
  have hll := hr.len
  have HL : Hid (∀ n, Calls Tryz.prog 42 #[.pointer (some ⟨t, 0, none⟩)] (w.drewN n) fun e w' => ∃ a cap, e = .returned (.slice a (liveIds l).length cap) ∧ Keeps [] w w' ∧ w'.cell? ⟨t, 0, none⟩ = some (.int .i64 most)) := Lib.hid fun n => by
    refine (live_any (w := w.drewN n) ⟨h.blk, ⟨h.map.ex⟩⟩ h1 hr).mono ?_
    rintro e w' ⟨v, rfl, hrow, -, hk⟩
    obtain ⟨a, cap, rfl⟩ := ownsRow_slice hrow
    exact ⟨a, cap, rfl, (Keeps.refl [] w).trans ⟨hk.os, hk.tape, hk.output, hk.size, hk.block⟩, cellOf (hk.blk h.blk (by simp)) 0 rfl⟩
  have hw : IntKind.i64.wrap (most - ((liveIds l).length : Int)) = most - ((liveIds l).length : Int) := IntWalk.i64_in _ (by omega)
  clear h hr
  go_enter Tryz.func63, Tryz.ntmps63
  go_wp2_with (go_at_call 60; refine (tnone_made _ most _ c0 h0).mono ?_; rintro e w' ⟨rfl, rfl⟩)
  go_region_with (go_at_call 42; refine (HL.out 1).mono ?_; rintro e w1 ⟨a, cap, rfl, hk, hc⟩)
  all_goals go_wp2
  all_goals
    go_ret
    exact ⟨by simp [Act.put], hk⟩

theorem put_new (k : Int) (v : Value) : ∀ l : List (Int × Value), (∀ p ∈ l, p.1 ≠ k) → put l k v = l ++ [(k, v)] := by
  intro l
  induction l with
  | nil => intro _; rfl
  | cons p t ih =>
    intro h
    obtain ⟨a, u⟩ := p
    have h1 : ¬ k = a := fun e => h (a, u) (by simp) e.symm
    simp only [put, if_neg h1, List.cons_append]
    rw [ih (fun q hq => h q (by simp [hq]))]

set_option maxHeartbeats 1000000 in
theorem topen_full {t mb : Nat} {most last : Int} {l : List (Int × Int)} {w : World} (h : TblAt w t mb most last l) (h1 : 1 ≤ most) (h2 : most ≤ 64) (hr : Rising l) (hf : ((liveIds l).length : Int) = most) :
    Calls Tryz.prog 49 #[.pointer (some ⟨t, 0, none⟩)] w fun e w' => e = .returned (.tuple #[.int .i64 0, .int .i64 15]) ∧ Keeps [] w w' := by
  have c0 : w.cell? ⟨t, 0, none⟩ = some (.int .i64 most) := cellOf h.blk 0 rfl
  have h0 : (most == 0) = false := by simp; omega
  have hR := room_any h h1 h2 hr
  have e0 : most - ((liveIds l).length : Int) = 0 := by omega
  rw [e0] at hR
  clear h hr hf e0
  go_enter Tryz.func49, Tryz.ntmps49
  go_wp2_with (first
    | (go_at_call 60; refine (tnone_made _ most _ c0 h0).mono ?_; rintro e w' ⟨rfl, rfl⟩)
    | (go_at_call 63; refine hR.mono ?_; rintro e w1 ⟨rfl, hk⟩))
  go_ret2
  exact ⟨rfl, hk⟩

set_option maxHeartbeats 1000000 in
theorem topen_yes {t mb : Nat} {most last : Int} {l : List (Int × Int)} {w : World} (h : TblAt w t mb most last l) (h1 : 1 ≤ most) (h2 : most ≤ 64) (hr : Rising l) (hf : ((liveIds l).length : Int) < most)
    (h3 : 0 ≤ last) (h4 : last < 2147483647) (hnew : ∀ p ∈ l, p.1 ≤ last) :
    Calls Tryz.prog 49 #[.pointer (some ⟨t, 0, none⟩)] w fun e w' => e = .returned (.tuple #[.int .i64 (last + 1), .int .i64 0]) ∧ Keeps [t, mb] w w' ∧ TblAt w' t mb most (last + 1) (l ++ [(last + 1, 0)]) := by
  have c0 : w.cell? ⟨t, 0, none⟩ = some (.int .i64 most) := cellOf h.blk 0 rfl
  have h0 : (most == 0) = false := by simp; omega
  have hR := Lib.hid (room_any h h1 h2 hr)
  have e0 : (most - ((liveIds l).length : Int) == 0) = false := by simp; omega
  have e1 : (last == 2147483647) = false := by simp; omega
  have hne : mb ≠ t := by
    obtain ⟨es, clock, hb, -⟩ := h.map.ex
    intro e; subst e; rw [h.blk] at hb; cases hb
  have hput : put (tmap l) (last + 1) (.agg #[.int .i64 0]) = tmap (l ++ [(last + 1, 0)]) := by
    rw [put_new]
    · simp [tmap]
    · intro p hp e
      obtain ⟨q, hq, rfl⟩ := List.mem_map.1 hp
      have := hnew q hq
      simp only at e; omega
  have H := Lib.hid h
  have Hp := Lib.hid hput
  clear h hr hf hput
  go_enter Tryz.func49, Tryz.ntmps49
  go_wp2_with (first
    | (go_at_call 60; refine (tnone_made _ most _ c0 h0).mono ?_; rintro e w' ⟨rfl, rfl⟩)
    | (go_at_call 63; refine hR.out.mono ?_; rintro e w1 ⟨rfl, hk⟩
       have hb := Lib.hid (hk.blk H.out.blk (by simp))
       have hm := H.out.map.keep hk (by simp)
       have k0 : w1.cell? ⟨t, 0, none⟩ = some (.int .i64 most) := cellOf hb.out 0 rfl
       have k1 : w1.cell? ⟨t, 1, none⟩ = some (.int .i64 last) := cellOf hb.out 1 rfl
       have k2 : w1.cell? ⟨t, 2, none⟩ = some (.map (some mb)) := cellOf hb.out 2 rfl
       have kf : w1.frozen? ⟨t, 1, none⟩ = false := freeOf hb.out 1))
  have hb2 := blk_setCell hb.out 1 (.int .i64 (last + 1))
  have hk1 : Keeps [t] w (w1.setCell ⟨t, 1, none⟩ (.int .i64 (last + 1))) := (hk.mono (by simp)).setCell (by simp) _
  have hm2 : IMap (w1.setCell ⟨t, 1, none⟩ (.int .i64 (last + 1))).drew mb (tmap l) := (hm.keep (((Keeps.refl [t] w1).setCell (by simp) _)) (by simpa using hne)).drew
  obtain ⟨w2, hrun, hM, hk2⟩ := run_update (P := Tryz.prog) Tryz.underlying78 Tryz.underlying3 hm2 (last + 1) (.agg #[.int .i64 0])
  have hb3 : w2.heap[t]? = some (.cells #[.int .i64 most, .int .i64 (last + 1), .map (some mb)] 80 (0, 0)) := hk2.blk hb2 (by simp; exact fun e => hne e.symm)
  have q1 : w2.cell? ⟨t, 1, none⟩ = some (.int .i64 (last + 1)) := cellOf hb3 1 rfl
  have Hb := Lib.hid hb3
  have HM := Lib.hid hM
  clear hb2 hm2 hM hb3 hm hb
  go_region
  go_wp2
  go_ret2
  refine ⟨rfl, (hk1.mono (by simp)).trans ((Keeps.refl [t, mb] _).trans ⟨hk2.os, hk2.tape, hk2.output, hk2.size, fun k hk3 hn => hk2.block k hk3 (by simp at hn ⊢; omega)⟩), ⟨Hb.out, ?_⟩⟩
  rw [← Hp.out]; exact HM.out
end Go.Proofs.YthjghcfnopancaaGreat
