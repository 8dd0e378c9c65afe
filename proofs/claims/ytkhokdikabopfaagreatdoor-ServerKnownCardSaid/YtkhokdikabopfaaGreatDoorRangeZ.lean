/-
  A range over an iterator that calls yield never.
-/
import Derived.Test.YtkhokdikabopfaaGreatDoorRange
namespace Go.Proofs.YtkhokdikabopfaaGreatDoor
open Go.RowKit Go.Shelf

theorem wp_range_none {P : Program} {n : Nat} {g : Operand} {ps : Array Tmp} {assign body : Code} {Q : Exit → Act → World → Prop} {a : Act} {w : World}
    {gf : Nat} {lb : Array Value} (hg : a.eval g = .func (.func gf) #[] lb) (eg : Enters P gf)
    (hcall : ∀ lp W, Keeps [] w W → Calls P gf (#[.func (.yield lp) #[] #[]] ++ lb) W fun e W' => (∃ v, e = .returned v) ∧ Keeps [] W W')
    (hdone : ∀ (D : Nat) (W : World), w.heap.size ≤ D → Keeps [] w W → W.heap[D]? = some (.deferred (some [])) → Q .normal { a with defers := { target := .collected D, args := #[] } :: a.defers } W) :
    (Code.rangeFunc g ps assign body).wpIn Fence.wide n P Q a w := by
  refine wp_range (α := Empty) (gf := gf) (lb := lb) hg eg (encs := fun x => nomatch x) (Next := fun _ _ => False) (Done := fun xs => xs = []) (Stop := fun _ => False) (dl := []) (R := []) (w0 := w)
    ?hseq (Keeps.refl _ _) (fun x => nomatch x) (fun _ _ W => Keeps [] w W) (fun _ _ _ _ => False) ?hI (fun _ _ _ _ _ h _ _ _ _ _ => h.elim) [] (by simp) (by simp) (Keeps.refl _ _) (fun x _ _ => nomatch x)
    (fun x => nomatch x) (fun _ _ _ x => nomatch x) (fun _ _ _ x => nomatch x) ?hdone (fun _ _ _ _ _ _ _ h => h.elim)
  case hseq =>
    intro lp base C0 J Jx W hk hb hR hJ hJx hC hround h0
    refine (hcall lp W hk).mono ?_
    rintro e W' ⟨hv, hk2⟩
    exact ⟨hv, C0, .inl ⟨[], rfl, hJ C0 [] W W' h0 hk2.os hk2.tape hk2.output hk2.size fun k hk3 _ => hk2.block k hk3 (by simp)⟩⟩
  case hI =>
    intro C pre W W' hk h1 h2 h3 h4 h5
    exact hk.of_old h1 h2 h3 h4 (fun k hk1 _ => h5 k (by have := hk.size; omega) (.inr ⟨hk1, by simp⟩))
  case hdone =>
    intro D C xs W hD hn hxs hk hd
    exact hdone D W hD hk hd

end Go.Proofs.YtkhokdikabopfaaGreatDoor
