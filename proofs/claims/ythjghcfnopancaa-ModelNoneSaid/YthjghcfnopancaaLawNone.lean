/-
  ModelNone returns true at every input: a model that is nil, or that nobody made, knows nothing. No condition.
-/
import Derived.Test.YthjghcfnopancaaNoneW
import Derived.Carry
namespace Go.Proofs.Ythjghcfnopancaa.modelNone
open Go.ChangeShapes Go.WideShapes Go.ChangeAt Go.RowKit
open Go.ChangeMaps (open_string shut_string)

/-- An act's value. -/
def actVal (k id n : Int) (s : St) : Value := .agg #[.int .i64 k, .int .i64 id, .int .i64 n, .int .i64 s.cause, .int .i64 s.queued, .int .i64 s.left, .int .i64 s.free, .int .i64 s.frames, .int .i64 s.pictures, .int .i64 s.gone]

set_option maxRecDepth 100000 in
theorem open_act {r : Reach} {b0 : Nat} {H : Type} {enc : TypeId × Value → H} {w : World} {base : Nat} {spare : Nat → Bool} {held : Bool} {v : Value} {d : DataW H} {p : List MemPlace}
    (hv : Value.okWide Try.prog w r b0 45 v) (h : DataW.Trod enc Try.prog w base spare held 45 v d p) : ∃ (k id n : Int) (s : St), v = actVal k id n s := by
  obtain ⟨cs, rfl, hsz⟩ := okWide_struct Try.underlying45 hv
  obtain ⟨fuel, hf⟩ := h
  obtain ⟨xs, m, -, -, hlen, hxs, hg⟩ := DataW.trod_struct Try.underlying45 hf
  have hc : Try.prog.cellsOf 45 = 10 := by kernel_rfl
  have hc1 : Try.prog.cellsOf 3 = 1 := by kernel_rfl
  have hc7 : Try.prog.cellsOf 27 = 7 := by kernel_rfl
  obtain ⟨cl⟩ := cs
  rw [hc] at hlen
  match cl, hlen with
  | [a0, a1, a2, a3, a4, a5, a6, a7, a8, a9], _ =>
    match xs, hxs with
    | [y0, y1, y2, y3], _ =>
      have g0 : DataW.trod enc Try.prog w base spare held m 3 [a0] = some y0 := by
        have g : DataW.trod enc Try.prog w base spare held m 3 (([a0, a1, a2, a3, a4, a5, a6, a7, a8, a9].drop 0).take (Try.prog.cellsOf 3)) = [y0, y1, y2, y3][0]? := hg 0 _ rfl
        rw [hc1] at g
        exact g
      have g1 : DataW.trod enc Try.prog w base spare held m 3 [a1] = some y1 := by
        have g : DataW.trod enc Try.prog w base spare held m 3 (([a0, a1, a2, a3, a4, a5, a6, a7, a8, a9].drop 1).take (Try.prog.cellsOf 3)) = [y0, y1, y2, y3][1]? := hg 1 _ rfl
        rw [hc1] at g
        exact g
      have g2 : DataW.trod enc Try.prog w base spare held m 3 [a2] = some y2 := by
        have g : DataW.trod enc Try.prog w base spare held m 3 (([a0, a1, a2, a3, a4, a5, a6, a7, a8, a9].drop 2).take (Try.prog.cellsOf 3)) = [y0, y1, y2, y3][2]? := hg 2 _ rfl
        rw [hc1] at g
        exact g
      have g3 : DataW.trod enc Try.prog w base spare held m 27 [a3, a4, a5, a6, a7, a8, a9] = some y3 := by
        have g : DataW.trod enc Try.prog w base spare held m 27 (([a0, a1, a2, a3, a4, a5, a6, a7, a8, a9].drop 3).take (Try.prog.cellsOf 27)) = [y0, y1, y2, y3][3]? := hg 3 _ rfl
        rw [hc7] at g
        exact g
      obtain ⟨z0, e0, -, -⟩ := DataW.trod_int Try.underlying3 g0
      obtain ⟨z1, e1, -, -⟩ := DataW.trod_int Try.underlying3 g1
      obtain ⟨z2, e2, -, -⟩ := DataW.trod_int Try.underlying3 g2
      obtain ⟨l, hl, e3⟩ := row_of_ints Try.underlying27 (by kernel_rfl) (by
        intro i f h
        rcases i with _ | _ | _ | _ | _ | _ | _ | i <;> simp at h <;> subst h <;> exact ⟨by kernel_rfl, rfl, by kernel_rfl⟩) g3
      simp [Value.cells] at e0 e1 e2
      match l, hl with
      | [b0, b1, b2, b3, b4, b5, b6], _ =>
        simp [Value.cells] at e3
        obtain ⟨f0, f1, f2, f3, f4, f5, f6⟩ := e3
        subst e0 e1 e2 f0 f1 f2 f3 f4 f5 f6
        exact ⟨z0, z1, z2, ⟨b0, b1, b2, b3, b4, b5, b6⟩, rfl⟩

theorem walk (k id n : Int) (s : St) (w : World) :
    Calls Try.prog 5 #[actVal k id n s] w fun e w' => e = .returned (.bool true) ∧ Below w.heap.size w w' :=
  (none_calls k id n s w).mono fun _ _ ⟨he, hk⟩ => ⟨he, hk.below'⟩

set_option maxRecDepth 100000 in
theorem lifted (os : Os) (started : os.Started) (H : Type) (enc : TypeId × Value → H) :
    ReturnsInHanded {} Try.checked os 5 .any (Rows.modelNoneSpec.pre6 enc Try.prog Try.f5 Rows.modelNoneRow.domain false) (Rows.modelNoneSpec.post enc Try.prog Try.f5 false true false false) := by
  refine returnsInHanded_of_change (C := Try.checked) own0 started (by kernel_rfl) Try.func5
    (ChangeSpec.witness6 (enc := enc) (C := Try.checked) false ⟨#[], #[.agg #[.int .i64 0, .int .i64 0, .int .i64 0, .int .i64 0, .int .i64 0, .int .i64 0, .int .i64 0, .int .i64 0, .int .i64 0, .int .i64 0]], []⟩ 8 (by kernel_rfl) (by kernel_rfl) (by kernel_rfl) (by kernel_rfl)) ?_
  intro W base args ds gs before hval0 hW hcnd _
  have hval : ∀ (j : Nat) t v, Try.f5.params[j]? = some t → args[j]? = some v → Value.okWide Try.prog W .any base t v := hval0
  have hW' := hW
  obtain ⟨p, q, hA0, hV, rfl, hfz, hnd⟩ := hW
  have hA : DataW.TrodAll enc Try.prog W 0 (fun _ => true) true Try.f5.params.toList args.toList ds p := hA0
  rw [Try.params5] at hA hval
  obtain ⟨v0, vs0, d0, ds0, p0, q0, hargs, rfl, rfl, h0, r0⟩ := trodAll_cons hA
  obtain ⟨rfl, rfl, rfl⟩ := trodAll_nil r0
  obtain rfl : args = #[v0] := by cases args; simp_all
  obtain ⟨rfl, rfl⟩ := trodVars_none hV
  obtain ⟨k, id, n, s, rfl⟩ := open_act (hval 0 45 v0 rfl rfl) h0
  have k0 := h0
  have lt0 : ∀ x ∈ p0, x.block < W.heap.size := by obtain ⟨m, hm⟩ := k0; exact DataW.trod_lt m _ _ _ hm
  clear hA0 hval0
  refine (walk k id n s W).mono fun e W' ⟨he, bel⟩ => ?_
  subst he
  exact ⟨_, rfl, _, _, _, [], _, [], hW', trodAll_mk1 (shut_bool Try.underlying4 _), (trodAll_cons_mk (Below.trod laidOut (by kernel_rfl) (of_decide_eq_true (by kernel_rfl)) k0 bel lt0) trodAll_mk0), rfl, bel.frame _, fun h => by cases h⟩

theorem over : Rows.modelNoneRow.holds Try.pinned (OpenSpec.ofChange Rows.modelNoneSpec) :=
  OpenClaim.holds_of_wide 5 Try.f5 rfl rfl rfl rfl rfl rfl rfl ⟨rfl, rfl, rfl, rfl, rfl⟩ rfl rfl rfl rfl rfl (by kernel_rfl) Try.func5 (by kernel_rfl)
    (of_decide_eq_true (by kernel_rfl)) (by unfold Func.isWrapper; first | (rw [if_pos (by decide +kernel)]; kernel_rfl) | (rw [if_neg (by decide +kernel)]; exact ⟨rfl, rfl⟩))
    (fun os started H enc _ => lifted os started H enc)

theorem proved : Rows.ModelNoneSaid := over
#print axioms proved
end Go.Proofs.Ythjghcfnopancaa.modelNone
