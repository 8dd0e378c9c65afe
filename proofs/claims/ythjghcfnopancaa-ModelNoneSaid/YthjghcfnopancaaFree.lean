/-
  Free of a model: contract.
-/
import Derived.Test.YthjghcfnopancaaMapIter
import Derived.Test.YthjghcfnopancaaNew
import Derived.Deep.LoopGhost
namespace Go.Proofs.Ythjghcfnopancaa
open Go.RowKit Go.Shelf Go.Maps Go.Deep

def sumF : List (Int × Kn) → Int
  | [] => 0
  | p :: t => p.2.s.frames + sumF t
theorem sumF_erase : ∀ (l : List (Int × Kn)) (i : Nat) (p : Int × Kn), l[i]? = some p → sumF (l.eraseIdx i) = sumF l - p.2.s.frames
  | a :: t, 0, p, h => by simp only [List.getElem?_cons_zero, Option.some.injEq] at h; subst h; simp [sumF]; omega
  | a :: t, i + 1, p, h => by
    simp only [List.getElem?_cons_succ] at h
    have := sumF_erase t i p h
    simp [sumF, this]; omega
theorem sumF_bound (q : Int) (hq : 0 ≤ q) : ∀ (l : List (Int × Kn)), (∀ p ∈ l, 0 ≤ p.2.s.frames ∧ p.2.s.frames ≤ q) → 0 ≤ sumF l ∧ sumF l ≤ q * l.length
  | [], _ => by simp [sumF]
  | p :: t, h => by
    have h1 := sumF_bound q hq t (fun x hx => h x (by simp [hx]))
    have h2 := h p (by simp)
    simp only [sumF, List.length_cons]
    have : q * ((t.length + 1 : Nat) : Int) = q * t.length + q := by rw [Int.natCast_add, Int.mul_add]; simp
    omega

theorem lmap_at {R : List (Int × Kn)} {i : Nat} {p : Int × Value} (h : (lmap R)[i]? = some p) : ∃ x, R[i]? = some x ∧ p = (x.1, x.2.val) := by
  simp only [lmap, List.getElem?_map, Option.map_eq_some_iff] at h
  obtain ⟨x, hx, rfl⟩ := h
  exact ⟨x, hx, rfl⟩
theorem lmap_erase (R : List (Int × Kn)) (i : Nat) : (lmap R).eraseIdx i = lmap (R.eraseIdx i) := by
  simp only [lmap, eraseIdx_map']

/-- How many frames nobody holds. -/
def MS.free (S : MS) : Int := S.c.frames - sumF S.live

set_option maxRecDepth 100000 in
set_option maxHeartbeats 1000000 in
theorem free_any {m t tb lb : Nat} {S : MS} {w : World} (h : ModelAt w m t tb lb S) (hV : Valid S) (hN : Known S) :
    Calls Try.prog 14 #[.pointer (some ⟨m, 0, none⟩)] w fun e w' => e = .returned (.int .i64 S.free) ∧ Keeps [] w w' := by
  have c1 : w.cell? ⟨m, 1, none⟩ = some (.int .i64 S.c.frames) := cellOf h.blk 1 rfl
  have c6 : w.cell? ⟨m, 6, none⟩ = some (.map (some lb)) := cellOf h.blk 6 rfl
  have hNn := Lib.hid (mnone_at h)
  obtain ⟨w1, hrg, hit, hk1, hsz⟩ := run_range (P := Try.prog) Try.underlying47 h.live
  have hlb := h.live.lt
  have Hit := Lib.hid hit
  have HN := Lib.hid hN.frames
  have hfr := hV.ok.f
  have hq := hV.ok.q
  have hs := hV.ok.s
  have hcnt := hV.count
  have hsz' := Lib.hid hsz
  unfold MS.free
  generalize S.c.frames = f at *
  generalize S.c.quota = q at *
  generalize S.live = L at *
  clear h hV hN hit hsz
  go_enter Try.func14, Try.ntmps14
  go_wp2_with (go_at_call 33; refine (hNn.out).mono ?_; rintro e w' ⟨rfl, rfl⟩)
  trace_state
  go_loopg [3] L.length (fun k n wr => ∃ R : List (Int × Kn), k = R.length ∧ n = .int .i64 (f - (sumF L - sumF R)) ∧ (∀ p ∈ R, p ∈ L) ∧ R.length ≤ L.length ∧ IIter wr w.heap.size lb (lmap R) ∧ Keeps [] w wr ∧ w.heap.size < wr.heap.size)
  case atStart => exact ⟨L, rfl, by congr 1; omega, fun _ h => h, Nat.le_refl _, Hit.out, hk1, by rw [hsz'.out]; omega⟩
  case round =>
    obtain ⟨R, rfl, rfl, hR, hRl, hI, hk, hlt⟩ := hrel
    have HI := Lib.hid hI
    have HR := Lib.hid hR
    have hbR := sumF_bound q (by omega) R (fun p hp => HN.out p (hR p hp))
    have hbL := sumF_bound q (by omega) L HN.out
    have hm1 : q * (R.length : Int) ≤ 64 * 64 := Int.mul_le_mul (by omega) (by omega) (by omega) (by omega)
    have hm2 : q * (L.length : Int) ≤ 64 * 64 := Int.mul_le_mul (by omega) (by omega) (by omega) (by omega)
    obtain ⟨a, ha⟩ : ∃ a, a = f - (sumF L - sumF R) := ⟨_, rfl⟩
    have ha1 : -5000 ≤ a := by omega
    have ha2 : a ≤ 5000 := by omega
    rw [← ha]
    have Ha := Lib.hid ha
    clear ha hI hR hrg hk1 hbR hbL hm1 hm2
    by_cases hR0 : R = []
    · subst hR0
      have hnx : ∀ ty, (Instr.next (.pointer (some ⟨w.heap.size, 0, none⟩)) false ty).run Try.prog wr = .ok (.tuple #[.bool false]) wr := fun ty => run_next_over HI.out
      go_wp2
      go_ret
      refine ⟨?_, hk⟩
      rw [Ha.out]; simp [sumF]
    · have hne : lmap R ≠ [] := by simpa [lmap] using hR0
      obtain ⟨i, p, w2, hp, hnx0, hI2, hk2, hent⟩ := run_next_more (P := Try.prog) (ty := 0) HI.out hne
      obtain ⟨⟨id, kn⟩, hx, rfl⟩ := lmap_at hp
      have hnx : ∀ ty, (Instr.next (.pointer (some ⟨w.heap.size, 0, none⟩)) false ty).run Try.prog wr = .ok (.tuple #[.bool true, .int .i64 id, kn.val]) w2 := fun ty => hnx0
      have hen := hent [] w2 (Keeps.refl _ _) (by simp) (by simp)
      have hfk := HN.out _ (HR.out _ (List.mem_of_getElem? hx))
      have hfk1 : 0 ≤ kn.s.frames := hfk.1
      have hfk2 : kn.s.frames ≤ 64 := by have := hfk.2; simp only at this; omega
      have Hx := Lib.hid hx
      have HI2 := Lib.hid hI2
      have hi : i < R.length := by
        rcases Nat.lt_or_ge i R.length with h | h
        · exact h
        · rw [List.getElem?_eq_none h] at hx; cases hx
      clear hp hnx0 hent hI2 hfk hx hR0 hne
      simp only at hen
      go_wp2
      go_roundg (R.length - 1)
      case measure => omega
      case rel =>
        refine ⟨R.eraseIdx i, by rw [List.length_eraseIdx_of_lt hi], ?_, fun p hp => HR.out p ((List.eraseIdx_sublist _ _).subset hp), by rw [List.length_eraseIdx_of_lt hi]; omega, ?_, ?_, ?_⟩
        · rw [sumF_erase R i _ Hx.out, Ha.out]; congr 1; simp only; omega
        · rw [← lmap_erase]; exact HI2.out.keep ((Keeps.refl [] _).alloc _) (by simp) (by simp)
        · exact (hk.trans' hk2 (by intro j hj h2; simp at hj; omega)).alloc _
        · have := hk2.size; simp; omega

end Go.Proofs.Ythjghcfnopancaa
