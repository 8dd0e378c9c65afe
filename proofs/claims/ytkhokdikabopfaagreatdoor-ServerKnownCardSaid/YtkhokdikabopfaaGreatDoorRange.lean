/-
  A law for 'for .. := range f { .. }' whose iterator makes memory of its own: what a round may turn is a list of blocks that grows.
-/
import Derived.Test.YtkhokdikabopfaaGreatDoorIter
namespace Go.Proofs.YtkhokdikabopfaaGreatDoor
open Go.RowKit Go.Shelf

/-- J hangs on the blocks of its own list, and on what lay below base but the iterator's own. -/
def Abides {α : Type} (base : Nat) (dl : List Nat) (J : List Nat → List α → World → Prop) : Prop :=
  ∀ C pre W W', J C pre W → W'.os = W.os → W'.tape = W.tape → W'.output = W.output → W.heap.size ≤ W'.heap.size →
    (∀ k, k < W.heap.size → (k ∈ C ∨ (k < base ∧ k ∉ dl)) → W'.heap[k]? = W.heap[k]?) → J C pre W'

/-- The list C' is C's, or of blocks that are new since W. -/
def Grows (C C' : List Nat) (W W' : World) : Prop := ∀ k ∈ C', (k ∈ C ∨ W.heap.size ≤ k) ∧ k < W'.heap.size

theorem Grows.refl {C : List Nat} {W W' : World} (h : ∀ k ∈ C, k < W.heap.size) (hs : W.heap.size ≤ W'.heap.size) : Grows C C W W' := fun k hk => ⟨.inl hk, Nat.lt_of_lt_of_le (h k hk) hs⟩

/-- What an iterator does: it calls yield on elements, each as it may come next, keeps its hands off the blocks of the rounds, and ends. -/
def Gives {α : Type} (P : Program) (gf : Nat) (lb : Array Value) (encs : α → Array Value) (Next : List α → α → Prop) (Done Stop : List α → Prop) (dl R : List Nat) (w : World) : Prop :=
  ∀ (lp base : Nat) (C0 : List Nat) (J Jx : List Nat → List α → World → Prop) (W : World), Keeps [] w W → base ≤ W.heap.size → (∀ k ∈ R, k < base) → Abides base dl J → Abides base dl Jx →
    (∀ k ∈ C0, k < W.heap.size ∧ k ∉ R) →
    (∀ C pre x W1, J C pre W1 → (∀ k ∈ C, k < W1.heap.size) → Next pre x → ∀ m, YieldAt Fence.wide m P lp (encs x) W1 fun e W' =>
      ∃ C', Grows C C' W1 W' ∧ Keeps C W1 W' ∧ ((e = .returned (.bool true) ∧ J C' (pre ++ [x]) W') ∨ (e = .returned (.bool false) ∧ Jx C' (pre ++ [x]) W'))) →
    J C0 [] W →
    Calls P gf (#[.func (.yield lp) #[] #[]] ++ lb) W fun e W' => (∃ v, e = .returned v) ∧ ∃ C', (∃ xs, Done xs ∧ J C' xs W') ∨ (∃ pre, Stop pre ∧ Jx C' pre W')

/-- How a round's body may be left. -/
def roundEnd {α : Type} (I : List Nat → List α → World → Prop) (Ix : Code → List Nat → List α → World → Prop) (C : List Nat) (xs : List α) (W : World) : Exit → Act → World → Prop
  | .normal, _, W' => ∃ C', Grows C C' W W' ∧ Keeps C W W' ∧ I C' xs W'
  | .ret, _, W' => ∃ C', Grows C C' W W' ∧ Keeps C W W' ∧ Ix .ret C' xs W'
  | .exit id, _, W' => ∃ C', Grows C C' W W' ∧ Keeps C W W' ∧ Ix (.exit id) C' xs W'
  | .goto t, _, W' => ∃ C', Grows C C' W W' ∧ Keeps C W W' ∧ Ix (.goto t) C' xs W'
  | _, _, _ => False

theorem Keeps.putObj {l : List Nat} {a w : World} (h : Keeps l a w) {r : Nat} {o : Obj} (hr : r < a.heap.size → r ∈ l) : Keeps l a (w.putObj r o) :=
  ⟨h.os, h.tape, h.output, by simp; exact h.size, fun k hk hn => (World.putObj_heap_other (fun e => hn (by subst e; exact hr hk))).trans (h.block k hk hn)⟩

theorem Abides.putObj {α : Type} {base : Nat} {dl : List Nat} {J : List Nat → List α → World → Prop} (h : Abides base dl J) {C : List Nat} {pre : List α} {W : World} (r : Nat) (o : Obj) (hj : J C pre W) (hr : r ∉ C) (hb : base ≤ r ∨ r ∈ dl) : J C pre (W.putObj r o) :=
  h C pre W _ hj rfl rfl rfl (by simp) (fun k _ hk2 => World.putObj_heap_other (fun e => by subst e; rcases hk2 with hk2 | ⟨hk2, hk3⟩; exact hr hk2; rcases hb with hb | hb; omega; exact hk3 hb))

theorem roundIn_wide {P : Program} {m m' l : Nat} {f : FuncId} {tmps : Array Value} {assign body : Code} {w : World} {R : Ending → World → Prop} (h : RoundIn Fence.wide m P l f tmps assign body w R) : RoundIn Fence.wide m' P l f tmps assign body w R :=
  ⟨h.1, fun c cs _ => h.2 c cs (room_wide _)⟩

/-- What is laid over the client's invariant: the record of the loop, and the block for deferred calls. -/
structure Over {α : Type} (lp dk : Nat) (ok : Obj) (rec : Loop) (I : List Nat → List α → World → Prop) (C : List Nat) (pre : List α) (W : World) : Prop where
  ex : ∃ C1, (∀ k, k ∈ C ↔ k = lp ∨ k = dk ∨ k ∈ C1) ∧ (lp ∉ C1 ∧ dk ∉ C1) ∧ I C1 pre W
  lp : W.heap[lp]? = some (.loop rec)
  dk : W.heap[dk]? = some ok

theorem Over.abides {α : Type} {lp dk base : Nat} {ok : Obj} {rec : Loop} {dl : List Nat} {I : List Nat → List α → World → Prop} (h : Abides base dl I) : Abides base dl (Over lp dk ok rec I) := by
  intro C pre W W' hj h1 h2 h3 h4 h5
  obtain ⟨⟨C1, hC, hn, hI⟩, hl, hd⟩ := hj
  refine ⟨⟨C1, hC, hn, h C1 pre W W' hI h1 h2 h3 h4 fun k hk hk2 => h5 k hk ?_⟩, ?_, ?_⟩
  · rcases hk2 with hk2 | hk2
    · exact .inl ((hC k).2 (.inr (.inr hk2)))
    · exact .inr hk2
  · rw [h5 lp (ltOf hl) (.inl ((hC lp).2 (.inl rfl)))]; exact hl
  · rw [h5 dk (ltOf hd) (.inl ((hC dk).2 (.inr (.inl rfl))))]; exact hd

/-- ONE ROUND. -/
theorem round_of {α : Type} {P : Program} {n fn lp dk base : Nat} {tmps : Array Value} {ps : Array Tmp} {assign body : Code} {defers : Nat} {ok : Obj} {dl : List Nat} {encs : α → Array Value}
    {I : List Nat → List α → World → Prop} {Ix : Code → List Nat → List α → World → Prop} (hI : Abides base dl I) (hIx : ∀ c, Abides base dl (Ix c)) (hb : base ≤ lp) (hne : lp ≠ dk) (hps : ∀ x, (encs x).size = ps.size)
    {C : List Nat} {pre : List α} {x : α} {W1 : World} (Ax : α → Act → World → Prop) (hAx : ∀ x a' W r o, Ax x a' W → r = lp → W.heap[r]? = some (.loop o) → ∀ o', Ax x a' (W.putObj r o'))
    (hassign : ∀ C1 (K : Act → World → Prop), lp ∉ C1 → dk ∉ C1 → I C1 pre W1 → (∀ a' W', Keeps [] W1 W' → Ax x a' W' → K a' W') →
      assign.wpIn (Fence.wide.inRound lp) n P (Exit.then K (fun _ _ _ => False)) { tmps := (ps.zip (encs x)).foldl (fun t (p, v) => t.setIfInBounds p v) tmps, defers := [] } W1)
    (hbody : ∀ C1 a' W, lp ∉ C1 → dk ∉ C1 → (∃ r, W.heap[lp]? = some (.loop r) ∧ r.defers = defers) → W.heap[dk]? = some ok → I C1 pre W → (∀ k ∈ C1, k < W.heap.size) → Ax x a' W → body.wpIn (Fence.wide.inRound lp) n P (roundEnd I Ix C1 (pre ++ [x]) W) a' W)
    (hJ : Over lp dk ok { state := .ready, pending := none, fn, tmps, params := ps, assign, body, defers } I C pre W1) (hC : ∀ k ∈ C, k < W1.heap.size) :
    ∀ m, YieldAt Fence.wide m P lp (encs x) W1 fun e W' => ∃ C', Grows C C' W1 W' ∧ Keeps C W1 W' ∧
      ((e = .returned (.bool true) ∧ Over lp dk ok { state := .ready, pending := none, fn, tmps, params := ps, assign, body, defers } I C' (pre ++ [x]) W') ∨
       (e = .returned (.bool false) ∧ (∃ c, Over lp dk ok { state := .done, pending := some c, fn, tmps, params := ps, assign, body, defers } (Ix c) C' (pre ++ [x]) W'))) := by
  intro m
  obtain ⟨⟨C1, hC1, ⟨hn1, hn2⟩, hi⟩, hl, hd⟩ := hJ
  have hlt := ltOf hl
  have hy := run_yield (P := P) (args := encs x) hl (hps x)
  refine ⟨fn, _, assign, body, hy, roundIn_wide (m := n) (roundIn_of_wpIn trivial (hassign C1 _ hn1 hn2 hi ?_))⟩
  clear hy
  intro a' Wa hka hax
  have hla := hka.blk hl (by simp)
  have hda := hka.blk hd (by simp)
  refine ⟨_, run_beginRound hla rfl, ?_⟩
  obtain ⟨Wb, hWb⟩ : ∃ Wb, Wa.putObj lp (.loop { state := .busy, pending := none, fn, tmps, params := ps, assign, body, defers }) = Wb := ⟨_, rfl⟩
  rw [hWb]
  have hszb : Wb.heap.size = Wa.heap.size := by rw [← hWb]; simp
  have hlb : Wb.heap[lp]? = some (.loop { state := .busy, pending := none, fn, tmps, params := ps, assign, body, defers }) := by rw [← hWb]; exact World.putObj_heap_same (ltOf hla)
  have hdb : Wb.heap[dk]? = some ok := by rw [← hWb]; exact (World.putObj_heap_other (Ne.symm hne)).trans hda
  have hia : I C1 pre Wa := hI C1 pre W1 Wa hi hka.os hka.tape hka.output hka.size (fun k hk _ => hka.block k hk (by simp))
  have hib : I C1 pre Wb := by rw [← hWb]; exact hI.putObj _ _ hia hn1 (.inl hb)
  have haxb : Ax x a' Wb := by rw [← hWb]; exact hAx _ _ _ _ _ hax rfl hla _
  have hcb : ∀ k ∈ C1, k < Wb.heap.size := fun k hk => by rw [hszb]; exact Nat.lt_of_lt_of_le (hC k ((hC1 k).2 (.inr (.inr hk)))) hka.size
  have hkb : Keeps C W1 Wb := by
    rw [← hWb]
    refine Keeps.putObj (hka.mono (by simp)) (fun _ => (hC1 lp).2 (.inl rfl))
  refine wpIn_mono (hbody C1 a' Wb hn1 hn2 ⟨_, hlb, rfl⟩ hdb hib hcb haxb) ?_
  have fin : ∀ (jump : Option Code) (st : LoopState) (W3 : World) (C' : List Nat) (I' : List Nat → List α → World → Prop), st = (if jump.isNone then .ready else .done) → Abides base dl I' → Grows C1 C' Wb W3 → Keeps C1 Wb W3 → I' C' (pre ++ [x]) W3 →
      ∃ W4, (Instr.endRound lp jump).run P W3 = .ok (.bool jump.isNone) W4 ∧ ∃ C4, Grows C C4 W1 W4 ∧ Keeps C W1 W4 ∧
        Over lp dk ok { state := st, pending := jump, fn, tmps, params := ps, assign, body, defers } I' C4 (pre ++ [x]) W4 := by
    intro jump st W3 C' I' hst hI' hg hk hi3
    have hl3 := hk.blk hlb hn1
    have hd3 := hk.blk hdb hn2
    have hn1' : lp ∉ C' := fun hm => by
      rcases (hg lp hm).1 with h | h
      · exact hn1 h
      · have := ltOf hlb; omega
    have hn2' : dk ∉ C' := fun hm => by
      rcases (hg dk hm).1 with h | h
      · exact hn2 h
      · have := ltOf hdb; omega
    refine ⟨_, run_endRound (P := P) jump hl3, lp :: dk :: C', ?_, ?_, ⟨⟨C', by simp, ⟨hn1', hn2'⟩, hI'.putObj _ _ hi3 hn1' (.inl hb)⟩, ?_, ?_⟩⟩
    · intro k hm
      simp only [List.mem_cons] at hm
      simp only [World.putObj_size]
      rcases hm with rfl | rfl | hm
      · exact ⟨.inl ((hC1 _).2 (.inl rfl)), ltOf hl3⟩
      · exact ⟨.inl ((hC1 _).2 (.inr (.inl rfl))), ltOf hd3⟩
      · refine ⟨?_, (hg k hm).2⟩
        rcases (hg k hm).1 with h | h
        · exact .inl ((hC1 _).2 (.inr (.inr h)))
        · exact .inr (by have := hka.size; omega)
    · refine Keeps.putObj (hkb.trans' hk (fun i hi _ => (hC1 _).2 (.inr (.inr hi)))) (fun _ => (hC1 lp).2 (.inl rfl))
    · rw [hst]; exact World.putObj_heap_same (ltOf hl3)
    · exact (World.putObj_heap_other (Ne.symm hne)).trans hd3
  rintro e a3 W3 hp
  cases e with
  | normal =>
    obtain ⟨C', hg, hk, hi3⟩ := hp
    obtain ⟨W4, hr, C4, h1, h2, h3⟩ := fin none .ready W3 C' I rfl hI hg hk hi3
    exact ⟨_, _, hr, C4, h1, h2, .inl ⟨rfl, h3⟩⟩
  | ret =>
    obtain ⟨C', hg, hk, hi3⟩ := hp
    obtain ⟨W4, hr, C4, h1, h2, h3⟩ := fin (some .ret) .done W3 C' (Ix .ret) rfl (hIx _) hg hk hi3
    exact ⟨_, _, hr, C4, h1, h2, .inr ⟨rfl, .ret, h3⟩⟩
  | exit id =>
    obtain ⟨C', hg, hk, hi3⟩ := hp
    obtain ⟨W4, hr, C4, h1, h2, h3⟩ := fin (some (.exit id)) .done W3 C' (Ix (.exit id)) rfl (hIx _) hg hk hi3
    exact ⟨_, _, hr, C4, h1, h2, .inr ⟨rfl, .exit id, h3⟩⟩
  | goto t =>
    obtain ⟨C', hg, hk, hi3⟩ := hp
    obtain ⟨W4, hr, C4, h1, h2, h3⟩ := fin (some (.goto t)) .done W3 C' (Ix (.goto t)) rfl (hIx _) hg hk hi3
    exact ⟨_, _, hr, C4, h1, h2, .inr ⟨rfl, .goto t, h3⟩⟩
  | panic ch => exact hp.elim
  | outgrown => exact hp.elim

/-- THE STATEMENT, outside of every round. -/
theorem wp_range {α : Type} {P : Program} {n : Nat} {g : Operand} {ps : Array Tmp} {assign body : Code} {Q : Exit → Act → World → Prop} {a : Act} {w : World}
    {gf : Nat} {lb : Array Value} (hg : a.eval g = .func (.func gf) #[] lb) (eg : Enters P gf)
    {encs : α → Array Value} {Next : List α → α → Prop} {Done Stop : List α → Prop} {dl R : List Nat} {w0 : World} (hseq : Gives P gf lb encs Next Done Stop dl R w0)
    (hb0 : Keeps [] w0 w) (hps : ∀ x, (encs x).size = ps.size)
    (I : List Nat → List α → World → Prop) (Ix : Code → List Nat → List α → World → Prop) (hI : Abides w.heap.size dl I) (hIx : ∀ c, Abides w.heap.size dl (Ix c))
    (C0 : List Nat) (hC0 : ∀ k ∈ C0, k < w.heap.size ∧ k ∉ R) (hR : ∀ k ∈ R, k < w.heap.size) (h0 : I C0 [] w) (Ax : α → Act → World → Prop)
    (hAx : ∀ x a' W r o, w.heap.size ≤ r → Ax x a' W → W.heap[r]? = some (.loop o) → ∀ o', Ax x a' (W.putObj r o'))
    (hassign : ∀ (lp : Nat) (C : List Nat) (pre : List α) (x : α) (W : World) (K : Act → World → Prop), I C pre W → (∀ a' W', Keeps [] W W' → Ax x a' W' → K a' W') →
      assign.wpIn (Fence.wide.inRound lp) n P (Exit.then K (fun _ _ _ => False)) { tmps := (ps.zip (encs x)).foldl (fun t (p, v) => t.setIfInBounds p v) a.tmps, defers := [] } W)
    (hbody : ∀ (lp : Nat) (C : List Nat) (pre : List α) (x : α) (a' : Act) (W : World), w.heap.size < lp → lp ∉ C → (∃ r, W.heap[lp]? = some (.loop r)) → I C pre W → (∀ k ∈ C, k < W.heap.size) → Next pre x → Ax x a' W →
      body.wpIn (Fence.wide.inRound lp) n P (roundEnd I Ix C (pre ++ [x]) W) a' W)
    (hdone : ∀ (D : Nat) (C : List Nat) (xs : List α) (W : World), w.heap.size ≤ D → D ∉ C → Done xs → I C xs W → W.heap[D]? = some (.deferred (some [])) → Q .normal { a with defers := { target := .collected D, args := #[] } :: a.defers } W)
    (hstop : ∀ (D : Nat) (c : Code) (C : List Nat) (pre : List α) (W : World), w.heap.size ≤ D → D ∉ C → Stop pre → Ix c C pre W → W.heap[D]? = some (.deferred (some [])) → c.wpIn Fence.wide n P Q { a with defers := { target := .collected D, args := #[] } :: a.defers } W)
    :
    (Code.rangeFunc g ps assign body).wpIn Fence.wide n P Q a w := by
  refine wpIn_rangeFunc ?_
  intro fn _
  obtain ⟨W1, hW1⟩ : ∃ W1, (w.alloc (.deferred (some []))).alloc (.loop { state := .ready, pending := none, fn, tmps := a.tmps, params := ps, assign, body, defers := w.heap.size }) = W1 := ⟨_, rfl⟩
  have hk1 : Keeps [] w W1 := by rw [← hW1]; exact ((Keeps.refl _ _).alloc _).alloc _
  have hL1 : W1.heap[w.heap.size + 1]? = some (.loop { state := .ready, pending := none, fn, tmps := a.tmps, params := ps, assign, body, defers := w.heap.size }) := by
    rw [← hW1]; exact heap_new_at _ (by simp)
  have hD1 : W1.heap[w.heap.size]? = some (.deferred (some [])) := by
    rw [← hW1]; exact ((Keeps.refl [] _).alloc _).blk (heap_new w _) (by simp)
  have hI1 : I C0 [] W1 := hI C0 [] w W1 h0 hk1.os hk1.tape hk1.output hk1.size (fun k hk _ => hk1.block k hk (by simp))
  refine ⟨w.heap.size + 1, [{ target := .collected w.heap.size, args := #[] }], W1, { target := .fn (.func gf) lb, args := #[.func (.yield (w.heap.size + 1)) #[] #[]] }, W1, gf,
    #[.func (.yield (w.heap.size + 1)) #[] #[]] ++ lb, W1, ?_, ?_, fun _ _ => trivial, ?_, fun h => (by cases h), ?_⟩
  · rw [← hW1]; exact run_enterLoop_outer _ _ _ _ _
  · simp only [resolve, hg]
    simp [go_sem]
  · simp [invoke, go_sem, eg _ _]
  · have hJ0 : Over (w.heap.size + 1) w.heap.size (.deferred (some [])) { state := .ready, pending := none, fn, tmps := a.tmps, params := ps, assign, body, defers := w.heap.size } I ((w.heap.size + 1) :: w.heap.size :: C0) [] W1 :=
      ⟨⟨C0, by simp, ⟨fun h => by have := (hC0 _ h).1; omega, fun h => by have := (hC0 _ h).1; omega⟩, hI1⟩, hL1, hD1⟩
    refine callsIn_wide.2 ((hseq (w.heap.size + 1) w.heap.size ((w.heap.size + 1) :: w.heap.size :: C0)
      (fun C pre W => Over (w.heap.size + 1) w.heap.size (.deferred (some [])) { state := .ready, pending := none, fn, tmps := a.tmps, params := ps, assign, body, defers := w.heap.size } I C pre W)
      (fun C pre W => ∃ c, Over (w.heap.size + 1) w.heap.size (.deferred (some [])) { state := .done, pending := some c, fn, tmps := a.tmps, params := ps, assign, body, defers := w.heap.size } (Ix c) C pre W)
      W1 (hb0.trans hk1) hk1.size hR (Over.abides hI) ?_ ?_ ?_ hJ0).mono ?_)
    · rintro C pre W W' ⟨c, hj⟩ h1 h2 h3 h4 h5
      exact ⟨c, Over.abides (hIx c) C pre W W' hj h1 h2 h3 h4 h5⟩
    · intro k hk
      have h2 : W1.heap.size = w.heap.size + 2 := by rw [← hW1]; simp
      simp only [List.mem_cons] at hk
      rcases hk with rfl | rfl | hk
      · exact ⟨by omega, fun h => by have := hR _ h; omega⟩
      · exact ⟨by omega, fun h => by have := hR _ h; omega⟩
      · exact ⟨by have := (hC0 k hk).1; omega, (hC0 k hk).2⟩
    · rintro C pre x W hj hC hnext m
      exact round_of (P := P) (n := n) (base := w.heap.size) (encs := encs) (Ix := Ix) hI hIx (by omega) (by omega) hps Ax
        (fun x a' W r o h1 h2 h3 o' => hAx x a' W r o (by omega) h1 h3 o') (x := x)
        (fun C1 K _ _ hi hK => hassign _ C1 pre x W K hi hK) (fun C1 a' W' h1 _ h3 _ h5 h6 h7 => hbody _ C1 pre x a' W' (by omega) h1 (by obtain ⟨r, hr, _⟩ := h3; exact ⟨r, hr⟩) h5 h6 hnext h7) hj hC m
    · rintro e W2 ⟨⟨v, rfl⟩, C', (⟨xs, hS, hj⟩ | ⟨pre, hS, c, hj⟩)⟩
      · obtain ⟨⟨C1, hC, ⟨hn1, hn2⟩, hi⟩, hl, hd⟩ := hj
        exact ⟨none, _, run_endLoop (P := P) hl (by simp), hdone _ C1 xs _ (Nat.le_refl _) hn2 hS (hI.putObj _ _ hi hn1 (.inl (by omega))) ((World.putObj_heap_other (by omega)).trans hd)⟩
      · obtain ⟨⟨C1, hC, ⟨hn1, hn2⟩, hi⟩, hl, hd⟩ := hj
        exact ⟨some c, _, run_endLoop (P := P) hl (by simp), hstop _ c C1 pre _ (Nat.le_refl _) hn2 hS ((hIx c).putObj _ _ hi hn1 (.inl (by omega))) ((World.putObj_heap_other (by omega)).trans hd)⟩

/-- THE STATEMENT, in the round of another loop (whose record is l₀). -/
theorem wp_range_in {α : Type} {P : Program} {n : Nat} {g : Operand} {ps : Array Tmp} {assign body : Code} {Q : Exit → Act → World → Prop} {a : Act} {w : World}
    {l₀ : Nat} {r₀ : Loop} (hl₀ : w.heap[l₀]? = some (.loop r₀))
    {gf : Nat} {lb : Array Value} (hg : a.eval g = .func (.func gf) #[] lb) (eg : Enters P gf)
    {encs : α → Array Value} {Next : List α → α → Prop} {Done Stop : List α → Prop} {dl R : List Nat} {w0 : World} (hseq : Gives P gf lb encs Next Done Stop dl R w0)
    (hb0 : Keeps [] w0 w) (hps : ∀ x, (encs x).size = ps.size)
    (I : List Nat → List α → World → Prop) (Ix : Code → List Nat → List α → World → Prop) (hI : Abides w.heap.size dl I) (hIx : ∀ c, Abides w.heap.size dl (Ix c))
    (C0 : List Nat) (hC0 : ∀ k ∈ C0, k < w.heap.size ∧ k ∉ R) (hl0 : l₀ ∉ C0 ∧ l₀ ∉ R) (hR : ∀ k ∈ R, k < w.heap.size) (h0 : I C0 [] w) (Ax : α → Act → World → Prop)
    (hAx : ∀ x a' W r o, w.heap.size ≤ r → Ax x a' W → W.heap[r]? = some (.loop o) → ∀ o', Ax x a' (W.putObj r o'))
    (hassign : ∀ (lp : Nat) (C : List Nat) (pre : List α) (x : α) (W : World) (K : Act → World → Prop), I C pre W → (∀ a' W', Keeps [] W W' → Ax x a' W' → K a' W') →
      assign.wpIn (Fence.wide.inRound lp) n P (Exit.then K (fun _ _ _ => False)) { tmps := (ps.zip (encs x)).foldl (fun t (p, v) => t.setIfInBounds p v) a.tmps, defers := [] } W)
    (hbody : ∀ (lp : Nat) (C : List Nat) (pre : List α) (x : α) (a' : Act) (W : World), w.heap.size ≤ lp → lp ∉ C → (∃ r, W.heap[lp]? = some (.loop r)) → I C pre W → (∀ k ∈ C, k < W.heap.size) → Next pre x → Ax x a' W →
      body.wpIn (Fence.wide.inRound lp) n P (roundEnd I Ix C (pre ++ [x]) W) a' W)
    (hdone : ∀ (C : List Nat) (xs : List α) (W : World), l₀ ∉ C → Done xs → I C xs W → W.heap[l₀]? = some (.loop r₀) → Q .normal a W)
    (hstop : ∀ (c : Code) (C : List Nat) (pre : List α) (W : World), l₀ ∉ C → Stop pre → Ix c C pre W → W.heap[l₀]? = some (.loop r₀) → c.wpIn (Fence.wide.inRound l₀) n P Q a W) :
    (Code.rangeFunc g ps assign body).wpIn (Fence.wide.inRound l₀) n P Q a w := by
  refine wpIn_rangeFunc ?_
  intro fn _
  obtain ⟨W1, hW1⟩ : ∃ W1, w.alloc (.loop { state := .ready, pending := none, fn, tmps := a.tmps, params := ps, assign, body, defers := r₀.defers }) = W1 := ⟨_, rfl⟩
  have hk1 : Keeps [] w W1 := by rw [← hW1]; exact (Keeps.refl _ _).alloc _
  have hL1 : W1.heap[w.heap.size]? = some (.loop { state := .ready, pending := none, fn, tmps := a.tmps, params := ps, assign, body, defers := r₀.defers }) := by
    rw [← hW1]; exact heap_new_at _ (by simp)
  have hD1 : W1.heap[l₀]? = some (.loop r₀) := hk1.blk hl₀ (by simp)
  have hlt := ltOf hl₀
  have hI1 : I C0 [] W1 := hI C0 [] w W1 h0 hk1.os hk1.tape hk1.output hk1.size (fun k hk _ => hk1.block k hk (by simp))
  refine ⟨w.heap.size, [], W1, { target := .fn (.func gf) lb, args := #[.func (.yield w.heap.size) #[] #[]] }, W1, gf,
    #[.func (.yield w.heap.size) #[] #[]] ++ lb, W1, ?_, ?_, fun _ _ => trivial, ?_, fun h => (by cases h), ?_⟩
  · rw [← hW1]; exact run_enterLoop_inner hl₀ _ _ _ _ _
  · simp only [resolve, hg]
    simp [go_sem]
  · simp [invoke, go_sem, eg _ _]
  · have hJ0 : Over w.heap.size l₀ (.loop r₀) { state := .ready, pending := none, fn, tmps := a.tmps, params := ps, assign, body, defers := r₀.defers } I (w.heap.size :: l₀ :: C0) [] W1 :=
      ⟨⟨C0, by simp, ⟨fun h => by have := (hC0 _ h).1; omega, hl0.1⟩, hI1⟩, hL1, hD1⟩
    refine CallsIn.inRound l₀ (callsIn_wide.2 ((hseq w.heap.size w.heap.size (w.heap.size :: l₀ :: C0)
      (fun C pre W => Over w.heap.size l₀ (.loop r₀) { state := .ready, pending := none, fn, tmps := a.tmps, params := ps, assign, body, defers := r₀.defers } I C pre W)
      (fun C pre W => ∃ c, Over w.heap.size l₀ (.loop r₀) { state := .done, pending := some c, fn, tmps := a.tmps, params := ps, assign, body, defers := r₀.defers } (Ix c) C pre W)
      W1 (hb0.trans hk1) hk1.size hR (Over.abides hI) ?_ ?_ ?_ hJ0).mono ?_))
    · rintro C pre W W' ⟨c, hj⟩ h1 h2 h3 h4 h5
      exact ⟨c, Over.abides (hIx c) C pre W W' hj h1 h2 h3 h4 h5⟩
    · intro k hk
      have h2 : W1.heap.size = w.heap.size + 1 := by rw [← hW1]; simp
      simp only [List.mem_cons] at hk
      rcases hk with rfl | rfl | hk
      · exact ⟨by omega, fun h => by have := hR _ h; omega⟩
      · exact ⟨by omega, hl0.2⟩
      · exact ⟨by have := (hC0 k hk).1; omega, (hC0 k hk).2⟩
    · rintro C pre x W hj hC hnext m
      exact round_of (P := P) (n := n) (base := w.heap.size) (encs := encs) (Ix := Ix) hI hIx (Nat.le_refl _) (by omega) hps Ax
        (fun x a' W r o h1 h2 h3 o' => hAx x a' W r o (by omega) h1 h3 o') (x := x)
        (fun C1 K _ _ hi hK => hassign _ C1 pre x W K hi hK) (fun C1 a' W' h1 _ h3 _ h5 h6 h7 => hbody _ C1 pre x a' W' (Nat.le_refl _) h1 (by obtain ⟨r, hr, _⟩ := h3; exact ⟨r, hr⟩) h5 h6 hnext h7) hj hC m
    · rintro e W2 ⟨⟨v, rfl⟩, C', (⟨xs, hS, hj⟩ | ⟨pre, hS, c, hj⟩)⟩
      · obtain ⟨⟨C1, hC, ⟨hn1, hn2⟩, hi⟩, hl, hd⟩ := hj
        exact ⟨none, _, run_endLoop (P := P) hl (by simp), hdone C1 xs _ hn2 hS (hI.putObj _ _ hi hn1 (.inl (Nat.le_refl _))) ((World.putObj_heap_other (by omega)).trans hd)⟩
      · obtain ⟨⟨C1, hC, ⟨hn1, hn2⟩, hi⟩, hl, hd⟩ := hj
        exact ⟨some c, _, run_endLoop (P := P) hl (by simp), hstop c C1 pre _ hn2 hS ((hIx c).putObj _ _ hi hn1 (.inl (Nat.le_refl _))) ((World.putObj_heap_other (by omega)).trans hd)⟩

/-- A variable in a box, appended to: what has turned. -/
theorem appended2 {W w1 : World} {n₀ B : Nat} {t e : TypeId} {size : Nat} {v v' : Value} {m : Nat} {ys : List Value} {tmp : Obj}
    (hv : Boxed W B t v)
    (hown' : w1.ownsRow n₀ e size v' m ys) (hgrow : (W.alloc tmp).grownBy w1 v.ownBlock) (hnew : ∀ g, v'.ownBlock = some g → v.ownBlock = some g ∨ (W.alloc tmp).heap.size ≤ g) :
    Grows (held B v) (held B v') W (w1.setCell ⟨B, 0, none⟩ v') ∧ Keeps (held B v) W (w1.setCell ⟨B, 0, none⟩ v') := by
  have hs : W.heap.size ≤ w1.heap.size := by have := hgrow.size; simp at this; omega
  have hs2 : (w1.setCell ⟨B, 0, none⟩ v').heap.size = w1.heap.size := by simp [World.setCell]
  constructor
  · intro g hg
    rw [hs2]
    rcases mem_held.1 hg with rfl | hg
    · exact ⟨.inl (mem_held.2 (.inl rfl)), by have := hv.lt; omega⟩
    · refine ⟨?_, (hown'.lt g hg).2⟩
      rcases hnew g hg with h | h
      · exact .inl (mem_held.2 (.inr h))
      · exact .inr (by simp at h; omega)
  · have hK : Keeps (held B v) W w1 := ⟨hgrow.os, hgrow.tape, hgrow.output, hs, fun g hg hn => ?_⟩
    exact hK.setCell (fun _ => mem_held.2 (.inl rfl)) _
    rw [hgrow.block g (by simp; omega) (fun h => hn (mem_held.2 (.inr h.symm)))]
    exact Below.heap_alloc _ _ _ hg

/-- A variable in a box that holds a row of one's own hangs on its blocks alone. -/
theorem held_kept {W W' : World} {n₀ B : Nat} {t e : TypeId} {size : Nat} {v : Value} {n : Nat} {xs : List Value} (hv : Boxed W B t v) (hrow : W.ownsRow n₀ e size v n xs)
    (hk : ∀ k, k < W.heap.size → k ∈ held B v → W'.heap[k]? = W.heap[k]?) : Boxed W' B t v ∧ W'.ownsRow n₀ e size v n xs :=
  ⟨(hk B hv.lt (mem_held.2 (.inl rfl))).trans hv, ownsRow_of hrow fun g hg => hk g (hrow.lt g hg).2 (mem_held.2 (.inr hg))⟩

theorem Keeps.of_old {l : List Nat} {w W W' : World} (h : Keeps l w W) (h1 : W'.os = W.os) (h2 : W'.tape = W.tape) (h3 : W'.output = W.output) (h4 : W.heap.size ≤ W'.heap.size)
    (hk : ∀ k, k < w.heap.size → k ∉ l → W'.heap[k]? = W.heap[k]?) : Keeps l w W' :=
  ⟨h1.trans h.os, h2.trans h.tape, h3.trans h.output, Nat.le_trans h.size h4, fun k hk1 hk2 => (hk k hk1 hk2).trans (h.block k hk1 hk2)⟩

end Go.Proofs.YtkhokdikabopfaaGreatDoor
