/-
  Arguments opened: structs of integers by value; slices of integers.
-/
import Derived.Test.YthjghcfnopancaaRoom
import Derived.ProofKit
import Derived.OpenShut
import Derived.ShutString
import Derived.ChangeArms
namespace Go.Proofs.Ythjghcfnopancaa
open Go.ChangeShapes Go.WideShapes Go.ChangeAt Go.RowKit

section
variable {H : Type} {enc : TypeId × Value → H} {P : Program} {w : World} {base : Nat} {spare : Nat → Bool} {held : Bool}

/-- A struct whose fields are all integers, cell by cell. -/
theorem row_of_ints {fs : Array Field} {t : TypeId} {fuel : Nat} {cs : List Value} {x : DataW H × List MemPlace} (hs : P.underlying t = some (.struct fs)) (hC : P.cellsOf t = fs.size)
    (hall : ∀ (i : Nat) (f : Field), fs[i]? = some f → P.underlying f.type = some (.int .i64) ∧ f.offset = i ∧ P.cellsOf f.type = 1)
    (h : DataW.trod enc P w base spare held fuel t cs = some x) : ∃ l : List Int, l.length = fs.size ∧ cs = l.map (Value.int .i64) := by
  obtain ⟨xs, n, -, -, hlen, hxs, hf⟩ := DataW.trod_struct hs h
  rw [hC] at hlen
  have key : ∀ i, i < fs.size → ∃ z, cs[i]? = some (Value.int .i64 z) := by
    intro i hi
    have hg : fs[i]? = some fs[i] := Array.getElem?_eq_getElem hi
    obtain ⟨h1, h2, h3⟩ := hall i _ hg
    have h4 := hf i _ hg
    rw [h2, h3] at h4
    have hx : xs[i]? = some (xs[i]'(by omega)) := List.getElem?_eq_getElem (by omega)
    rw [hx] at h4
    obtain ⟨z, hz, -, -⟩ := DataW.trod_int h1 h4
    refine ⟨z, ?_⟩
    have h5 : ((cs.drop i).take 1)[0]? = some (Value.int .i64 z) := by rw [hz]; rfl
    simpa using h5
  refine ⟨cs.map fun v => match v with | .int _ z => z | _ => 0, by simpa using hlen, ?_⟩
  apply List.ext_getElem?
  intro i
  by_cases hi : i < fs.size
  · obtain ⟨z, hz⟩ := key i hi
    simp [hz]
  · rw [List.getElem?_eq_none (by omega), List.getElem?_eq_none (by simp; omega)]
end

set_option maxRecDepth 100000 in
theorem open_config {r : Reach} {b0 : Nat} {H : Type} {enc : TypeId × Value → H} {w : World} {base : Nat} {spare : Nat → Bool} {held : Bool} {v : Value} {d : DataW H} {p : List MemPlace}
    (hv : Value.okWide Try.prog w r b0 36 v) (h : DataW.Trod enc Try.prog w base spare held 36 v d p) : ∃ c : Cf, v = c.val := by
  obtain ⟨cs, rfl, hsz⟩ := okWide_struct Try.underlying36 hv
  obtain ⟨fuel, hf⟩ := h
  obtain ⟨l, hl, hcs⟩ := row_of_ints Try.underlying36 (by kernel_rfl) (by
    intro i f h
    rcases i with _ | _ | _ | _ | _ | i <;> simp at h <;> subst h <;> exact ⟨by kernel_rfl, rfl, by kernel_rfl⟩) hf
  obtain ⟨cl⟩ := cs
  match l, hl with
  | [a0, a1, a2, a3, a4], _ =>
    simp [Value.cells] at hcs
    subst hcs
    exact ⟨⟨a0, a1, a2, a3, a4⟩, rfl⟩

theorem open_slice_ints {H : Type} {enc : TypeId × Value → H} {w : World} {base : Nat} {spare : Nat → Bool} {held : Bool} {a : Option Addr} {len cap : Nat} {d : DataW H} {p : List MemPlace}
    (h : DataW.Trod enc Try.prog w base spare held 33 (.slice a len cap) d p) : IntsAt w a len ∧ len ≤ 9223372036854775807 := by
  obtain ⟨fuel, hf⟩ := h
  rcases open_ints Try.underlying33 Try.underlying3 (by kernel_rfl) hf with ⟨hcs, _⟩ | ⟨x, l, c, zs, hcs, _, hl, hm, hz, _, hcell, hwz⟩
  · simp [Value.cells] at hcs
    obtain ⟨rfl, rfl, rfl⟩ := hcs
    exact ⟨fun i hi => absurd hi (by omega), by omega⟩
  · simp [Value.cells] at hcs
    obtain ⟨rfl, rfl, rfl⟩ := hcs
    unfold maxLen at hm
    refine ⟨fun i hi => ?_, by omega⟩
    have hc := hcell i (by simp only [hz]; first | omega | (split <;> omega))
    exact ⟨x, _, rfl, hc⟩

theorem laidOut : laidOutB Try.prog = true := by kernel_rfl
theorem own0 : ownKnob Try.prog.godebug = none := by kernel_rfl
end Go.Proofs.Ythjghcfnopancaa
