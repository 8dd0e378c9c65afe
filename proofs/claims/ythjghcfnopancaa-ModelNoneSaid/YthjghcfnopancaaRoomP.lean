/-
  ModelRoom: the plain law. One live session, so many bytes came, so many bits are read.
-/
import Derived.Test.YthjghcfnopancaaTame
namespace Go.Proofs.Ythjghcfnopancaa
open Go.RowKit

/-- A model with one live number: so many bytes came, so many bits were read. -/
def rS (C : Cf) (came gone : Int) : MS :=
  { c := C, last := 1, l := [(1, 0)], live := [(1, ⟨came, false, ⟨0, 0, 8 * came - gone, C.room - came + gone.tdiv 8, 0, 0, gone⟩⟩)] }

theorem rS_opens {C : Cf} (h : C.ok) : (MS.fresh C).opens = (1, 0, rS C 0 0) := by
  have h1 := h.s; have h2 := h.f; have h3 := h.q
  unfold MS.opens MS.fresh
  have a1 : ¬ (C.frames < ((([] : List (Int × Kn)).length : Int) + 1) * C.quota) := by simp; omega
  have a2 : ¬ (((liveIds []).length : Int) = C.sessions) := by simp [liveIds]; omega
  simp only [a1, a2, if_false]
  simp [rS]

/-- What holds all the time. -/
structure rOk (C : Cf) (came gone : Int) : Prop where
  r : 1024 ≤ C.room ∧ C.room ≤ 1048576
  c : 0 ≤ came ∧ came ≤ 200000
  g : 0 ≤ gone ∧ gone ≤ 8 * came
  f : came - gone.tdiv 8 ≤ C.room

theorem tdiv8 {g : Int} (h : 0 ≤ g) : g.tdiv 8 = g / 8 := Int.tdiv_eq_ediv_of_nonneg h

theorem rS_feed {C : Cf} {came gone : Int} (h : rOk C came gone) (n : Int) (hn : 0 ≤ n) :
    (rS C came gone).feed 1 n = (min n (C.room - came + gone.tdiv 8), 0, rS C (came + min n (C.room - came + gone.tdiv 8)) gone) := by
  obtain ⟨h1, h2, h3, h4⟩ := h
  have hg := tdiv8 h3.1
  rw [hg] at h4
  have hr : refusal (rS C came gone).l 1 = 0 := by simp [refusal, causeOf, rS]
  have hget : (rS C came gone).get 1 = some ⟨came, false, ⟨0, 0, 8 * came - gone, C.room - came + gone.tdiv 8, 0, 0, gone⟩⟩ := by simp [MS.get, rS]
  unfold MS.feed
  rw [hr, hget]
  have hn' : ¬ n < 0 := by omega
  simp only [ne_eq, not_true_eq_false, if_false, hn', Bool.false_eq_true]
  have e1 : wrap64 (came + min n (C.room - came + gone.tdiv 8)) = came + min n (C.room - came + gone.tdiv 8) := by
    rw [hg]; unfold wrap64; omega
  obtain ⟨c', hc'⟩ : ∃ c', c' = came + min n (C.room - came + gone.tdiv 8) := ⟨_, rfl⟩
  rw [e1, ← hc']
  rw [hg] at hc'
  have w1 : wrap64 (8 * c') = 8 * c' := by unfold wrap64; omega
  have w2 : wrap64 (8 * c' - gone) = 8 * c' - gone := by unfold wrap64; omega
  have w3 : wrap64 (C.room - c') = C.room - c' := by unfold wrap64; omega
  have w4 : wrap64 (gone.tdiv 8) = gone.tdiv 8 := by rw [hg]; unfold wrap64; omega
  have w5 : wrap64 (C.room - c' + gone.tdiv 8) = C.room - c' + gone.tdiv 8 := by rw [hg]; unfold wrap64; omega
  simp [MS.set, rS, Kn.counts, w1, w2, w3, w4, w5]

theorem rS_see {C : Cf} {came gone g2 : Int} (h : rOk C came gone) (h2 : rOk C came g2) (hg : gone ≤ g2) (hC : C.ok) :
    (rS C came gone).see 1 ⟨0, 0, 8 * came - g2, C.room - came + g2.tdiv 8, 0, 0, g2⟩ = (0, rS C came g2) := by
  obtain ⟨k1, k2, k3, k4⟩ := h2
  have hq := hC.q; have hf := hC.f; have ho := hC.o
  have hg8 := tdiv8 k3.1
  rw [hg8] at k4
  have hr : refusal (rS C came gone).l 1 = 0 := by simp [refusal, causeOf, rS]
  have hget : (rS C came gone).get 1 = some ⟨came, false, ⟨0, 0, 8 * came - gone, C.room - came + gone.tdiv 8, 0, 0, gone⟩⟩ := by simp [MS.get, rS]
  unfold MS.see
  rw [hr, hget]
  have w1 : wrap64 (8 * came) = 8 * came := by unfold wrap64; omega
  have w2 : wrap64 (8 * came - g2) = 8 * came - g2 := by unfold wrap64; omega
  have w3 : wrap64 (C.room - came) = C.room - came := by unfold wrap64; omega
  have w4 : wrap64 (g2.tdiv 8) = g2.tdiv 8 := by rw [hg8]; unfold wrap64; omega
  have w5 : wrap64 (C.room - came + g2.tdiv 8) = C.room - came + g2.tdiv 8 := by rw [hg8]; unfold wrap64; omega
  have hm : (⟨came, false, ⟨0, 0, 8 * came - gone, C.room - came + gone.tdiv 8, 0, 0, gone⟩⟩ : Kn).may (rS C came gone).c ⟨0, 0, 8 * came - g2, C.room - came + g2.tdiv 8, 0, 0, g2⟩ = true := by
    simp [Kn.may, Kn.counts, rS, w1, w2, w3, w4, w5]
    omega
  simp only [ne_eq, not_true_eq_false, if_false, hm, if_true]
  simp [MS.set, rS, Kn.counts, w1, w2, w3, w4, w5]

end Go.Proofs.Ythjghcfnopancaa
