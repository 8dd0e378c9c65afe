/-
  Free of the reference's model, and who holds how many frames.
-/
import Derived.Test.YthjghcfnopancaaGreatGm
import Derived.Test.YthjghcfnopancaaGreatGg
import Derived.Deep.DeepCutAuto
import Derived.Deep.RegionLaw
import Derived.Laws.AppendOwnNone
namespace Go.Proofs.YthjghcfnopancaaGreat
open Go.RowKit Go.Shelf Go.Maps

theorem livesFrom_get : ∀ (j : Int) (cs : List Int) (ks : List Kn) (p : Int × Kn), p ∈ livesFrom j cs ks → ∃ i : Nat, p.1 = j + i ∧ ks[i]? = some p.2 ∧ i < cs.length ∧ cs.getD i 0 = 0
  | _, [], _, p, h => by simp [livesFrom] at h
  | _, _ :: _, [], p, h => by simp [livesFrom] at h
  | j, c :: t, k :: u, p, h => by
    have ih : p ∈ livesFrom (j + 1) t u → ∃ i : Nat, p.1 = j + i ∧ (k :: u)[i]? = some p.2 ∧ i < (c :: t).length ∧ (c :: t).getD i 0 = 0 := fun h => by
      obtain ⟨i, h1, h2, h3, h4⟩ := livesFrom_get (j + 1) t u p h
      exact ⟨i + 1, by push_cast; omega, by simpa using h2, by simpa using h3, by simpa using h4⟩
    simp only [livesFrom] at h
    split at h
    · rename_i h0
      rcases List.mem_cons.1 h with rfl | h
      · exact ⟨0, by simp, by simp, by simp, by simpa using h0⟩
      · exact ih h
    · exact ih h

/-- The live numbers, each with what is known. -/
structure RLive (cs : List Int) (ks : List Kn) (L : List (Int × Kn)) : Prop where
  ids : rlive cs cs.length = L.map (·.1)
  get : ∀ p ∈ L, ∃ i : Nat, p.1 = (i : Int) + 1 ∧ ks[i]? = some p.2 ∧ i < cs.length ∧ cs.getD i 0 = 0

theorem Rel.lives {S : MS} {cs : List Int} {ks : List Kn} (h : Rel S cs ks) (hV : Valid S) : RLive cs ks S.live := by
  refine ⟨by rw [← h.ids, hV.live], fun p hp => ?_⟩
  rw [h.live] at hp
  obtain ⟨i, h1, h2, h3, h4⟩ := livesFrom_get _ _ _ _ hp
  exact ⟨i, by omega, h2, h3, h4⟩

theorem sumF_take (L : List (Int × Kn)) {j : Nat} {p : Int × Kn} (h : L[j]? = some p) : sumF (L.take (j + 1)) = sumF (L.take j) + p.2.s.frames := by
  induction L generalizing j with
  | nil => simp at h
  | cons a t ih =>
    cases j with
    | zero =>
      simp only [List.getElem?_cons_zero, Option.some.injEq] at h
      subst h
      simp [sumF]
    | succ j =>
      simp only [List.getElem?_cons_succ] at h
      simp only [List.take_succ_cons, sumF, ih h]
      omega
theorem sumF_take_bound (L : List (Int × Kn)) (hb : ∀ p ∈ L, 0 ≤ p.2.s.frames ∧ p.2.s.frames ≤ 64) (j : Nat) : 0 ≤ sumF (L.take j) ∧ sumF (L.take j) ≤ 64 * L.length := by
  have h := sumF_bound 64 (by omega) (L.take j) (fun p hp => hb p (List.mem_of_mem_take hp))
  have : (L.take j).length ≤ L.length := by simp; omega
  omega

/-- A row of live numbers in memory. -/
theorem live_row {w : World} {base : Nat} {u : Value} {L : List (Int × Kn)} (h : w.ownsRow base 3 1 u (L.map (·.1)).length ((L.map (·.1)).map (Value.int .i64))) : ∃ a cap, u = .slice a L.length cap ∧ ∀ (j : Nat) (p : Int × Kn), L[j]? = some p → ∃ g, a = some ⟨g, 0, none⟩ ∧ base ≤ g ∧ w.cell? ⟨g, j, none⟩ = some (.int .i64 p.1) := by
  obtain ⟨a, cap, rfl⟩ := ownsRow_slice h
  refine ⟨a, cap, by simp, fun j p hp => ?_⟩
  have hj : j < (L.map (·.1)).length := by simpa using (List.getElem?_eq_some_iff.1 hp).1
  obtain ⟨g, cap', e, h1, h2, h3⟩ := row_cell h hj
  simp only [Value.slice.injEq] at e
  refine ⟨g, e.1, h1, ?_⟩
  rw [h3]
  simp [hp]

set_option maxRecDepth 100000 in
set_option maxHeartbeats 2000000 in
theorem rm_free {w : World} {base m t : Nat} {tv lv : Value} {c : Cf} {cs : List Int} {ks : List Kn} (h : RMAt w base m t tv lv c cs ks) {L : List (Int × Kn)} (hL : RLive cs ks L) (hb : ∀ p ∈ L, 0 ≤ p.2.s.frames ∧ p.2.s.frames ≤ 64) (hc : 1 ≤ c.frames ∧ c.frames ≤ 64) :
    Calls Tryz.prog 14 #[.pointer (some ⟨m, 0, none⟩)] w fun e w' => e = .returned (.int .i64 (c.frames - sumF L)) ∧ Keeps [] w w' := by
  have hV : Hid (∀ w', Keeps [] w w' → _) := Lib.hid fun w' (hk : Keeps [] w w') => rt_live (h.on hk).tbl
  have H := Lib.hid h
  have HL := Lib.hid hL
  have HB := Lib.hid hb
  have hlim := h.tbl.lim
  have hll : L.length ≤ 1000 := by
    have h1 := rlive_le cs cs.length
    rw [hL.ids] at h1
    simp at h1
    omega
  have hlen := h.len
  obtain ⟨q0, q1, q2, q3, q4, q5, q6⟩ := cells7 h.blk
  clear h hL hb
  go_enter Tryz.func14, Tryz.ntmps14
  go_upto_region 1 with fail
  go_cut [3, 4] (fun s3 s4 wx => s3 = .int .i64 c.frames ∧ Keeps [] w wx ∧ wx.ownsRow w.heap.size 3 1 s4 (L.map (·.1)).length ((L.map (·.1)).map (Value.int .i64)))
  case first =>
    go_region_with (go_at_call 12; refine (hV.out _ (by repeat (first | exact Keeps.refl _ _ | assumption | refine Keeps.drew ?_ | refine Keeps.drewN ?_ _ | refine Keeps.alloc ?_ _ | refine Keeps.setCell ?_ (by simp <;> omega) _ | refine Keeps.trans ?_ (by assumption)))).mono ?_; rintro e w1 ⟨u, rfl, hrow, hk⟩; obtain ⟨r0, r1, r2, r3, r4, r5, r6⟩ := cells7 (H.out.on (w' := w1) (by repeat (first | exact Keeps.refl _ _ | assumption | refine Keeps.drew ?_ | refine Keeps.drewN ?_ _ | refine Keeps.alloc ?_ _ | refine Keeps.setCell ?_ (by simp <;> omega) _ | refine Keeps.trans ?_ (by assumption)))).blk; rw [HL.out.ids] at hrow; have hrow := Lib.hid hrow)
    all_goals (go_wp2_with fail; go_meet; exact ⟨rfl, (by repeat (first | exact Keeps.refl _ _ | assumption | refine Keeps.drew ?_ | refine Keeps.drewN ?_ _ | refine Keeps.alloc ?_ _ | refine Keeps.setCell ?_ (by simp <;> omega) _ | refine Keeps.trans ?_ (by assumption))), hrow.out⟩)
  case rest =>
    obtain ⟨rfl, hk, hrow⟩ := hcut
    obtain ⟨a, cap, rfl, hr⟩ := live_row hrow
    have hr := Lib.hid hr
    clear hrow q0 q1 q2 q3 q4 q5 q6
    go_wp2_with fail
    go_loopg [3, 5] L.length (fun k s3 s5 wr => ∃ j : Nat, s5 = .int .i64 j ∧ k + j = L.length ∧ s3 = .int .i64 (c.frames - sumF (L.take j)) ∧ Keeps [] wc wr)
    case atStart => exact ⟨0, rfl, by omega, by simp [sumF], Keeps.refl _ _⟩
    case round =>
      obtain ⟨j, rfl, hkj, rfl, hkr⟩ := hrel
      have hbj := sumF_take_bound L HB.out j
      by_cases hj : j < L.length
      · obtain ⟨p, hp⟩ : ∃ p, L[j]? = some p := ⟨_, List.getElem?_eq_getElem hj⟩
        obtain ⟨g, rfl, hg, cg⟩ := hr.out j p hp
        have cg := hkr.cell cg (by simp)
        obtain ⟨i, e1, e2, e3, e4⟩ := HL.out.get p (List.mem_of_getElem? hp)
        rw [e1] at cg
        have HR := H.out.on (hk.trans hkr)
        obtain ⟨q0, q1, q2, q3, q4, q5, q6⟩ := cells7 HR.blk
        obtain ⟨g', cap', e, -, -, hcell, hfz⟩ := krow_cell HR.row e2
        subst e
        have r6 : wr.cell? ⟨g', i * 9 + 2 + 4, none⟩ = some (.int .i64 p.2.s.frames) := hcell 6 _ rfl
        have hfr := HB.out p (List.mem_of_getElem? hp)
        have hs := sumF_take L hp
        obtain ⟨x, hx⟩ : ∃ x, c.frames - sumF (L.take j) = x := ⟨_, rfl⟩
        rw [hx]
        have hw : IntKind.i64.wrap (x - p.2.s.frames) = x - p.2.s.frames := IntWalk.i64_in _ (by omega)
        have hw2 : IntKind.i64.wrap ((i : Int) + 1 - 1) = (i : Int) := by have := IntWalk.i64_in (i : Int) (by omega); rw [show (i : Int) + 1 - 1 = i by omega]; exact this
        have hik : i < ks.length := by omega
        have hxs : x - p.2.s.frames = c.frames - sumF (L.take (j + 1)) := by omega
        have Hxs := Lib.hid hxs
        have hcell := Lib.hid hcell
        have HR := Lib.hid HR
        clear hxs hx hs hbj hp e1 e2 e3 e4 hfr
        go_wp2
        go_quiet (fail)
        go_wp2
        go_roundg (gk - 1)
        case measure => omega
        case rel => exact ⟨j + 1, by simp, by omega, by rw [Hxs.out], by simpa using hkr.drewN _⟩
      · have hjl : ((L.length : Int) ≤ (j : Int)) := by omega
        have hje : j = L.length := by omega
        have Hje := Lib.hid hje
        clear hje hkj
        go_wp2
        go_ret
        refine ⟨by rw [Hje.out, List.take_length]; rfl, hk.trans hkr⟩

end Go.Proofs.YthjghcfnopancaaGreat

/-
  Rows of holders in memory; Check and first of the reference.
-/
namespace Go.Proofs.YthjghcfnopancaaGreat
open Go.RowKit Go.Shelf Go.Maps

def hcells (hs : List (Int × Int)) : List Value := hs.flatMap fun p => [.int .i64 p.1, .int .i64 p.2]
theorem hcells_len : ∀ (hs : List (Int × Int)), (hcells hs).length = hs.length * 2
  | [] => rfl
  | p :: t => by
    have := hcells_len t
    simp only [hcells, List.flatMap_cons, List.length_append, List.length_cons, List.length_nil] at this ⊢
    omega
theorem hcells_snoc (hs : List (Int × Int)) (p : Int × Int) : hcells (hs ++ [p]) = hcells hs ++ [.int .i64 p.1, .int .i64 p.2] := by simp [hcells]
theorem hcells_at : ∀ {hs : List (Int × Int)} {i : Nat} {p : Int × Int}, hs[i]? = some p → (hcells hs)[i * 2]? = some (.int .i64 p.1) ∧ (hcells hs)[i * 2 + 1]? = some (.int .i64 p.2)
  | [], i, p, h => by simp at h
  | a :: t, 0, p, h => by
    simp only [List.getElem?_cons_zero, Option.some.injEq] at h
    subst h
    simp [hcells]
  | a :: t, i + 1, p, h => by
    simp only [List.getElem?_cons_succ] at h
    have ih := hcells_at h
    have e : (i + 1) * 2 = i * 2 + 1 + 1 := by omega
    rw [e]
    simpa [hcells] using ih
theorem hcells_set : ∀ {hs : List (Int × Int)} {i : Nat} {p : Int × Int}, hs[i]? = some p → ∀ x, (hcells hs).set (i * 2 + 1) (.int .i64 x) = hcells (hs.set i (p.1, x))
  | [], i, p, h, _ => by simp at h
  | a :: t, 0, p, h, x => by
    simp only [List.getElem?_cons_zero, Option.some.injEq] at h
    subst h
    simp [hcells]
  | a :: t, i + 1, p, h, x => by
    simp only [List.getElem?_cons_succ] at h
    have ih := hcells_set h x
    have e : (i + 1) * 2 + 1 = i * 2 + 1 + 1 + 1 := by omega
    rw [e]
    simp only [hcells, List.flatMap_cons, List.set_cons_succ, List.cons_append, List.nil_append] at ih ⊢
    rw [ih]

/-- A slice that reads as holders. -/
def HRow (w : World) (a : Option Addr) (hs : List (Int × Int)) : Prop :=
  ∀ (i : Nat) (p : Int × Int), hs[i]? = some p → ∃ g, a = some ⟨g, 0, none⟩ ∧ w.cell? ⟨g, i * 2, none⟩ = some (.int .i64 p.1) ∧ w.cell? ⟨g, i * 2 + 1, none⟩ = some (.int .i64 p.2)
theorem HRow.keep {l : List Nat} {w w' : World} {a : Option Addr} {hs : List (Int × Int)} (h : HRow w a hs) (k : Keeps l w w') (hn : ∀ g, a = some ⟨g, 0, none⟩ → g ∉ l) : HRow w' a hs := fun i p hp => by
  obtain ⟨g, h1, h2, h3⟩ := h i p hp
  exact ⟨g, h1, k.cell h2 (hn g h1), k.cell h3 (hn g h1)⟩
theorem HRow.on {w w' : World} {a : Option Addr} {hs : List (Int × Int)} (h : HRow w a hs) (k : Keeps [] w w') : HRow w' a hs := h.keep k (by simp)
theorem hrow_of {w : World} {base : Nat} {v : Value} {hs : List (Int × Int)} (h : w.ownsRow base 93 2 v hs.length (hcells hs)) : ∃ a cap, v = .slice a hs.length cap ∧ HRow w a hs := by
  obtain ⟨a, cap, rfl⟩ := ownsRow_slice h
  refine ⟨a, cap, rfl, fun i p hp => ?_⟩
  have hi := (List.getElem?_eq_some_iff.1 hp).1
  obtain ⟨hx, ⟨h1, hn⟩ | ⟨g, cap', cur, e, hb, hg, hnc, hcm, hcs, htake⟩⟩ := id h
  · omega
  · simp only [Value.slice.injEq] at e
    obtain ⟨rfl, -, rfl⟩ := e
    obtain ⟨c1, c2⟩ := hcells_at hp
    have d1 := h.cells (g := g) rfl _ _ c1
    have d2 := h.cells (g := g) rfl _ _ c2
    refine ⟨g, rfl, ?_, ?_⟩
    · by_cases h0 : i * 2 = 0
      · rw [h0] at d1 ⊢; simpa [Addr.add] using d1
      · simpa only [Addr.add, if_neg h0, Nat.zero_add] using d1
    · simpa [Addr.add] using d2
/-- A store into one. -/
theorem hrow_set {w : World} {base g len cap : Nat} {hs : List (Int × Int)} (h : w.ownsRow base 93 2 (.slice (some ⟨g, 0, none⟩) len cap) hs.length (hcells hs)) {i : Nat} {p : Int × Int} (hp : hs[i]? = some p) (x : Int) :
    (w.setCell ⟨g, i * 2 + 1, none⟩ (.int .i64 x)).ownsRow base 93 2 (.slice (some ⟨g, 0, none⟩) len cap) (hs.set i (p.1, x)).length (hcells (hs.set i (p.1, x))) ∧ ∀ n, w.frozen? ⟨g, n, none⟩ = false := by
  obtain ⟨hx, ⟨h1, hn⟩ | ⟨g', cap', cur, e1, hb, hg, hnc, hcm, hcs, htake⟩⟩ := id h
  · simp at h1
  · simp only [Value.slice.injEq, Option.some.injEq, Addr.mk.injEq, and_true] at e1
    obtain ⟨rfl, rfl, rfl⟩ := e1
    refine ⟨⟨hcells_len _, .inr ⟨_, _, cur.set! (i * 2 + 1) (.int .i64 x), by simp, hb, ?_, by simpa using hnc, hcm, by simpa using hcs, ?_⟩⟩, frees hg⟩
    · exact blk_setCell hg _ _
    · rw [← hcells_set hp x]
      simp only [List.length_set, Array.set!_eq_setIfInBounds, Array.toList_setIfInBounds, List.take_set] at htake ⊢
      rw [htake]

/-- Holders that Check takes. -/
structure HOk (hs : List (Int × Int)) : Prop where
  len : hs.length ≤ 64
  id : ∀ p ∈ hs, 1 ≤ p.1 ∧ p.1 ≤ 100000
  fr : ∀ p ∈ hs, 0 ≤ p.2 ∧ p.2 ≤ 64
  nodup : (hs.map (·.1)).Nodup

theorem HOk.ne {hs : List (Int × Int)} (h : HOk hs) {i k : Nat} {p q : Int × Int} (hi : hs[i]? = some p) (hk : hs[k]? = some q) (hik : k < i) : q.1 ≠ p.1 := by
  intro e
  have h1 : (hs.map (·.1))[i]? = some p.1 := by simp [hi]
  have h2 : (hs.map (·.1))[k]? = some p.1 := by simp [hk, e]
  have hil := (List.getElem?_eq_some_iff.1 h1).1
  have := (List.getElem?_inj hil h.nodup (j := k)).1 (h1.trans h2.symm)
  omega

set_option maxRecDepth 100000 in
set_option maxHeartbeats 2000000 in
theorem r28_check {w : World} {a : Option Addr} {cap : Nat} {hs : List (Int × Int)} (h : HRow w a hs) (ho : HOk hs) :
    Calls Tryz.prog 67 #[.slice a hs.length cap] w fun e w' => e = .returned (.int .i64 0) ∧ Keeps [] w w' := by
  have H := Lib.hid h
  have HO := Lib.hid ho
  have hl := ho.len
  have d0 : decide ((64 : Int) < (hs.length : Int)) = false := decide_eq_false (by omega)
  clear h ho
  go_enter Tryz.func67, Tryz.ntmps67
  go_wp2
  go_loopg [3] hs.length (fun k s3 wr => ∃ j : Nat, s3 = .int .i64 j ∧ k + j = hs.length ∧ Keeps [] w wr)
  case atStart => exact ⟨0, rfl, by omega, Keeps.refl _ _⟩
  case round =>
    obtain ⟨j, rfl, hkj, hk⟩ := hrel
    obtain ⟨gq, rfl⟩ : ∃ q, q = gk := ⟨_, rfl⟩
    by_cases hj : j < hs.length
    · obtain ⟨p, hp⟩ : ∃ p, hs[j]? = some p := ⟨_, List.getElem?_eq_getElem hj⟩
      obtain ⟨g, rfl, c0, c1⟩ := (H.out.on hk) j p hp
      have hid := HO.out.id p (List.mem_of_getElem? hp)
      have hfr := HO.out.fr p (List.mem_of_getElem? hp)
      have Hp := Lib.hid hp
      have d1 : decide (p.1 < 1) = false := decide_eq_false (by omega)
      have d2 : decide (p.2 < 0) = false := decide_eq_false (by omega)
      have d3 : decide (64 < p.2) = false := decide_eq_false (by omega)
      clear hp
      go_wp2
      go_loopg [4] j (fun k2 s4 wr2 => ∃ i : Nat, s4 = .int .i64 i ∧ k2 + i = j ∧ Keeps [] wr wr2)
      case atStart => exact ⟨0, rfl, by omega, Keeps.refl _ _⟩
      case round =>
        obtain ⟨i, rfl, hki, hk2⟩ := hrel
        by_cases hi : i < j
        · obtain ⟨q, hq⟩ : ∃ q, hs[i]? = some q := ⟨_, List.getElem?_eq_getElem (by omega)⟩
          obtain ⟨g', e, b0, b1⟩ := (H.out.on (hk.trans hk2)) i q hq
          simp only [Option.some.injEq, Addr.mk.injEq, and_true] at e
          subst e
          have a0 := hk2.cell c0 (by simp)
          have hne : (q.1 == p.1) = false := by simpa using HO.out.ne Hp.out hq hi
          have hi2 : i < hs.length := by omega
          clear hq c0 c1
          go_wp2
          go_quiet (fail)
          go_wp2
          go_roundg (gk - 1)
          case measure => omega
          case rel => exact ⟨i + 1, by simp, by omega, by simpa using hk2.drewN _⟩
        · have hij : ((j : Int) ≤ (i : Int)) := by omega
          go_wp2
          go_roundg (gq - 1)
          case measure => omega
          case rel => exact ⟨j + 1, by simp, by omega, hk.trans hk2⟩
    · have hjl : ((hs.length : Int) ≤ (j : Int)) := by omega
      go_wp2
      go_ret
      exact ⟨rfl, hk⟩

def atI : Option Nat → Int
  | none => -1
  | some i => i
theorem firstB_lt {hs : List (Int × Int)} {k i : Nat} (h : PL.firstB hs k = some i) : i < k := (PL.firstB_some h).1

set_option maxRecDepth 100000 in
set_option maxHeartbeats 2000000 in
theorem r28_first {w : World} {a : Option Addr} {cap : Nat} {hs : List (Int × Int)} (h : HRow w a hs) (hl : hs.length ≤ 64) :
    Calls Tryz.prog 68 #[.slice a hs.length cap] w fun e w' => e = .returned (.int .i64 (atI (PL.firstB hs hs.length))) ∧ Keeps [] w w' := by
  have H := Lib.hid h
  clear h
  go_enter Tryz.func68, Tryz.ntmps68
  go_wp2
  go_loopg [3, 4] hs.length (fun k s3 s4 wr => ∃ j : Nat, s4 = .int .i64 j ∧ k + j = hs.length ∧ s3 = .int .i64 (atI (PL.firstB hs j)) ∧ Keeps [] w wr)
  case atStart => exact ⟨0, rfl, by omega, rfl, Keeps.refl _ _⟩
  case round =>
    obtain ⟨j, rfl, hkj, rfl, hk⟩ := hrel
    by_cases hj : j < hs.length
    · obtain ⟨p, hp⟩ : ∃ p, hs[j]? = some p := ⟨_, List.getElem?_eq_getElem hj⟩
      obtain ⟨g, rfl, c0, c1⟩ := (H.out.on hk) j p hp
      have hgd : hs.getD j (0, 0) = p := by simp [List.getD_eq_getElem?_getD, hp]
      obtain ⟨pid, pf⟩ := p
      simp only at c0 c1
      have hlim : j ≤ 64 := by omega
      cases hq : PL.firstB hs j with
      | none =>
        have ea : atI none = -1 := rfl
        rw [ea]
        by_cases h0 : 0 < pf
        · have hs1 : atI (PL.firstB hs (j + 1)) = (j : Int) := by simp only [PL.firstB, hq, hgd]; rw [if_pos h0]; rfl
          have Hs := Lib.hid hs1
          have d0 := decide_eq_true h0
          clear hs1 hgd hq hp h0 ea
          go_wp2
          go_quiet (fail)
          go_wp2
          go_roundg (gk - 1)
          case measure => omega
          case rel => exact ⟨j + 1, by simp, by omega, by rw [Hs.out], by simpa using hk.drewN _⟩
        · have hs1 : atI (PL.firstB hs (j + 1)) = -1 := by simp only [PL.firstB, hq, hgd]; rw [if_neg h0]; rfl
          have Hs := Lib.hid hs1
          have d0 := decide_eq_false h0
          clear hs1 hgd hq hp h0 ea
          go_wp2
          go_quiet (fail)
          go_wp2
          go_roundg (gk - 1)
          case measure => omega
          case rel => exact ⟨j + 1, by simp, by omega, by rw [Hs.out], by simpa using hk.drewN _⟩
      | some i =>
        have hij := firstB_lt hq
        have ea : atI (some i) = (i : Int) := rfl
        rw [ea]
        obtain ⟨q, hqi⟩ : ∃ q, hs[i]? = some q := ⟨_, List.getElem?_eq_getElem (by omega)⟩
        obtain ⟨g', e, b0, b1⟩ := (H.out.on hk) i q hqi
        simp only [Option.some.injEq, Addr.mk.injEq, and_true] at e
        subst e
        have hgi : hs.getD i (0, 0) = q := by simp [List.getD_eq_getElem?_getD, hqi]
        obtain ⟨qid, qf⟩ := q
        simp only at b0 b1
        have di : decide ((i : Int) < 0) = false := decide_eq_false (by omega)
        have hil : i < hs.length := by omega
        have hne : (i == j) = false := by simp; omega
        by_cases h0 : 0 < pf
        · have d0 := decide_eq_true h0
          by_cases h1 : qf < pf
          · have hs1 : atI (PL.firstB hs (j + 1)) = (j : Int) := by simp only [PL.firstB, hq, hgd, hgi, PL.hlt_iff]; rw [if_pos ⟨h0, .inl h1⟩]; rfl
            have Hs := Lib.hid hs1
            have d1 := decide_eq_true h1
            clear hs1 hgd hq hp h0 ea h1 hgi hqi hij
            go_wp2
            go_quiet (fail)
            go_wp2
            go_roundg (gk - 1)
            case measure => omega
            case rel => exact ⟨j + 1, by simp, by omega, by rw [Hs.out], by simpa using hk.drewN _⟩
          · have d1 := decide_eq_false h1
            by_cases h2 : pf = qf
            · subst h2
              have d2 : (pf == pf) = true := by simp
              by_cases h3 : pid < qid
              · have hs1 : atI (PL.firstB hs (j + 1)) = (j : Int) := by simp only [PL.firstB, hq, hgd, hgi, PL.hlt_iff]; rw [if_pos ⟨h0, .inr ⟨by trivial, h3⟩⟩]; rfl
                have Hs := Lib.hid hs1
                have d3 := decide_eq_true h3
                clear hs1 hgd hq hp h0 ea h1 h3 hgi hqi hij
                go_wp2
                go_quiet (fail)
                go_wp2
                go_roundg (gk - 1)
                case measure => omega
                case rel => exact ⟨j + 1, by simp, by omega, by rw [Hs.out], by simpa using hk.drewN _⟩
              · have hs1 : atI (PL.firstB hs (j + 1)) = (i : Int) := by simp only [PL.firstB, hq, hgd, hgi, PL.hlt_iff]; rw [if_neg (by omega)]; rfl
                have Hs := Lib.hid hs1
                have d3 := decide_eq_false h3
                clear hs1 hgd hq hp h0 ea h1 h3 hgi hqi hij
                go_wp2
                go_quiet (fail)
                go_wp2
                go_roundg (gk - 1)
                case measure => omega
                case rel => exact ⟨j + 1, by simp, by omega, by rw [Hs.out], by simpa using hk.drewN _⟩
            · have d2 : (pf == qf) = false := by simpa using h2
              have hs1 : atI (PL.firstB hs (j + 1)) = (i : Int) := by simp only [PL.firstB, hq, hgd, hgi, PL.hlt_iff]; rw [if_neg (by omega)]; rfl
              have Hs := Lib.hid hs1
              clear hs1 hgd hq hp h0 ea h1 h2 hgi hqi hij
              go_wp2
              go_quiet (fail)
              go_wp2
              go_roundg (gk - 1)
              case measure => omega
              case rel => exact ⟨j + 1, by simp, by omega, by rw [Hs.out], by simpa using hk.drewN _⟩
        · have d0 := decide_eq_false h0
          have hs1 : atI (PL.firstB hs (j + 1)) = (i : Int) := by simp only [PL.firstB, hq, hgd, hgi, PL.hlt_iff]; rw [if_neg (by omega)]; rfl
          have Hs := Lib.hid hs1
          clear hs1 hgd hq hp h0 ea hgi hqi hij
          go_wp2
          go_quiet (fail)
          go_wp2
          go_roundg (gk - 1)
          case measure => omega
          case rel => exact ⟨j + 1, by simp, by omega, by rw [Hs.out], by simpa using hk.drewN _⟩
    · have hjl : ((hs.length : Int) ≤ (j : Int)) := by omega
      have hje : j = hs.length := by omega
      have Hje := Lib.hid hje
      clear hje hkj
      go_wp2
      go_ret
      exact ⟨by rw [Hje.out]; rfl, hk⟩

end Go.Proofs.YthjghcfnopancaaGreat

/-
  Plan of the reference's press.
-/
namespace Go.Proofs.YthjghcfnopancaaGreat
open Go.RowKit Go.Shelf Go.Maps

theorem info_holder : (Tryz.prog.info? 93).map (fun i => (i.zero, i.size, i.bytes)) = some (some (.agg #[.int .i64 0, .int .i64 0]), 2, 16) := by kernel_rfl

theorem add_lit (g j : Nat) : (⟨g, 0, none⟩ : Addr).add j = ⟨g, j, none⟩ := by
  by_cases h : j = 0
  · subst h; simp [Addr.add]
  · simp [Addr.add, h]

theorem HRow.cells {w : World} {g : Nat} {hs : List (Int × Int)} (h : HRow w (some ⟨g, 0, none⟩) hs) {j : Nat} {u : Value} (hj : (hcells hs)[j]? = some u) : w.cell? ((⟨g, 0, none⟩ : Addr).add j) = some u := by
  have hjl := (List.getElem?_eq_some_iff.1 hj).1
  rw [hcells_len] at hjl
  obtain ⟨p, hp⟩ : ∃ p, hs[j / 2]? = some p := ⟨_, List.getElem?_eq_getElem (by omega)⟩
  obtain ⟨g', e, h1, h2⟩ := h _ p hp
  simp only [Option.some.injEq, Addr.mk.injEq, and_true] at e
  subst e
  obtain ⟨k1, k2⟩ := hcells_at hp
  rw [add_lit]
  by_cases hm : j % 2 = 0
  · have e : j / 2 * 2 = j := by omega
    rw [e] at h1 k1
    rw [h1, ← k1, hj]
  · have e : j / 2 * 2 + 1 = j := by omega
    rw [e] at h2 k2
    rw [h2, ← k2, hj]

theorem own_empty {w : World} {base size : Nat} {T : TypeId} (hb : base ≤ w.heap.size) : (w.alloc (.cells #[] T)).ownsRow base T size (.slice (some ⟨w.heap.size, 0, none⟩) 0 0) 0 [] :=
  ⟨by simp, .inr ⟨w.heap.size, 0, #[], rfl, hb, heap_new _ _, Nat.le_refl _, by simp [maxLen], by simp, by simp⟩⟩

theorem hcells_one {hs : List (Int × Int)} : ∀ u ∈ hcells hs, u.oneCell' = true := by
  intro u hu
  obtain ⟨p, hp, hu⟩ := List.mem_flatMap.1 hu
  simp only [List.mem_cons, List.not_mem_nil, or_false] at hu
  rcases hu with rfl | rfl <;> rfl

theorem hrow_addr {w : World} {base : Nat} {a : Option Addr} {n cap : Nat} {hs : List (Int × Int)} (h : w.ownsRow base 93 2 (.slice a n cap) hs.length (hcells hs)) : HRow w a hs := by
  obtain ⟨a', cap', e, hr⟩ := hrow_of h
  simp only [Value.slice.injEq] at e
  rw [e.1]; exact hr

/-- What Plan hands back. -/
def Planned (out : List Int) (w : World) (e : Ending) (w' : World) : Prop :=
  ∃ v f, e = .returned (.tuple #[v, .int .i64 f, .int .i64 0]) ∧ w'.ownsRow w.heap.size 3 1 v out.length (out.map (Value.int .i64)) ∧ Keeps [] w w'

/-- Behind some rounds. -/
structure PlanR (w : World) (gR capR : Nat) (want free : Int) (hs : List (Int × Int)) (k : Nat) (F : Int) (at_ : Int) (v : Value) (wr : World) (R : List (Int × Int)) (out : List Int) : Prop where
  at_ : at_ = atI (PL.firstB R R.length)
  len : R.length = hs.length
  row : wr.ownsRow w.heap.size 93 2 (.slice (some ⟨gR, 0, none⟩) R.length capR) R.length (hcells R)
  orow : wr.ownsRow w.heap.size 3 1 v out.length (out.map (Value.int .i64))
  ne : v.ownBlock ≠ some gR
  keep : Keeps [] w wr
  k : k = (PL.some' R).length
  f : 0 ≤ F ∧ F + 64 * (PL.some' R).length ≤ 20000
  fr : ∀ p ∈ R, 0 ≤ p.2 ∧ p.2 ≤ 64
  few : out.length + (PL.some' R).length ≤ 64
  eq : out ++ PL.plan want (PL.srt (PL.some' R)) F = PL.plan want (PL.srt (PL.some' hs)) free

set_option maxRecDepth 100000 in
set_option maxHeartbeats 2000000 in
theorem r28_plan_nil {w : World} {a : Option Addr} {cap : Nat} (ha : a = none ∧ cap = 0) (free want : Int) (hf : 0 ≤ free ∧ free ≤ 10000) (hw : 0 ≤ want ∧ want ≤ 10000) :
    Calls Tryz.prog 59 #[.slice a 0 cap, .int .i64 free, .int .i64 want] w (Planned [] w) := by
  obtain ⟨rfl, rfl⟩ := ha
  have hr0 : ∀ W, HRow W none [] := fun W i p hp => by simp at hp
  have ho0 : HOk [] := ⟨by simp, by simp, by simp, by simp⟩
  have hC := Lib.hid (r28_check (w := w) (cap := 0) (hr0 w) ho0)
  have d1 : decide (free < 0) = false := decide_eq_false (by omega)
  have d2 : decide ((10000 : Int) < free) = false := decide_eq_false (by omega)
  have d3 : decide (want < 0) = false := decide_eq_false (by omega)
  have d4 : decide ((10000 : Int) < want) = false := decide_eq_false (by omega)
  have hF : Hid (∀ W : World, Calls Tryz.prog 68 #[.slice (some ⟨W.heap.size, 0, none⟩) 0 0] (W.alloc (.cells #[] 93)) fun e w' => e = .returned (.int .i64 (-1)) ∧ Keeps [] (W.alloc (.cells #[] 93)) w') := Lib.hid fun W => r28_first (w := W.alloc (.cells #[] 93)) (cap := 0) (hs := []) (a := some ⟨W.heap.size, 0, none⟩) (fun i p hp => by simp at hp) (by simp)
  obtain ⟨i0, hi, -⟩ := info_parts info_holder
  clear hr0
  go_enter Tryz.func59, Tryz.ntmps59
  go_wp2_with (first
    | (go_at_call 67; refine (hC.out).mono ?_; rintro e w1 ⟨rfl, hk1⟩)
    | (go_at_call 68; refine (hF.out _).mono ?_; rintro e w2 ⟨rfl, hk2⟩)
    | (at_builtin; refine wpList_append_own_none rfl _ _ 91 rfl w1.heap.size 93 i0 2 Tryz.underlying91 hi _ 0 [] rfl (own_empty (Nat.le_refl _)) rfl ?_))
  go_loopg [1, 10, 11] 1 (fun k s1 s10 s11 wr => s1 = .int .i64 free ∧ s10 = .slice none 0 0 ∧ s11 = .int .i64 (-1) ∧ Keeps [] w wr)
  case atStart => exact ⟨rfl, rfl, rfl, (by repeat (first | exact Keeps.refl _ _ | assumption | refine Keeps.drew ?_ | refine Keeps.drewN ?_ _ | refine Keeps.alloc ?_ _ | refine Keeps.setCell ?_ (by simp <;> omega) _ | refine Keeps.trans ?_ (by assumption)))⟩
  case round =>
  obtain ⟨rfl, rfl, rfl, hkr⟩ := hrel
  go_wp2
  go_ret3
  exact ⟨_, _, rfl, World.ownsRow_nil _ _ _ _, (by repeat (first | exact Keeps.refl _ _ | assumption | refine Keeps.drew ?_ | refine Keeps.drewN ?_ _ | refine Keeps.alloc ?_ _ | refine Keeps.setCell ?_ (by simp <;> omega) _ | refine Keeps.trans ?_ (by assumption)))⟩


set_option maxRecDepth 100000 in
set_option maxHeartbeats 4000000 in
theorem r28_plan {w : World} {a : Option Addr} {cap : Nat} {hs : List (Int × Int)} (h : HRow w a hs) (ho : HOk hs) (ha : hs = [] → a = none ∧ cap = 0) (free want : Int) (hf : 0 ≤ free ∧ free ≤ 10000) (hw : 0 ≤ want ∧ want ≤ 10000) :
    Calls Tryz.prog 59 #[.slice a hs.length cap, .int .i64 free, .int .i64 want] w (Planned (PL.plan want (PL.srt (PL.some' hs)) free) w) := by
  by_cases h0 : hs = []
  · subst h0
    have e : PL.plan want (PL.srt (PL.some' [])) free = [] := by simp [PL.some', PL.srt, PL.plan]
    rw [e]
    exact r28_plan_nil (ha rfl) free want hf hw
  obtain ⟨g, rfl⟩ : ∃ g : Nat, a = some ⟨g, 0, none⟩ := by
    cases hs with
    | nil => exact absurd rfl h0
    | cons p t => obtain ⟨g, e, -⟩ := h 0 p rfl; exact ⟨g, by simpa using e⟩
  have hpos : 0 < hs.length := List.length_pos_iff.2 h0
  clear h0 ha
  have hC := Lib.hid (r28_check (cap := cap) h ho)
  have H := Lib.hid h
  have HO := Lib.hid ho
  have hlen := ho.len
  have d1 : decide (free < 0) = false := decide_eq_false (by omega)
  have d2 : decide ((10000 : Int) < free) = false := decide_eq_false (by omega)
  have d3 : decide (want < 0) = false := decide_eq_false (by omega)
  have d4 : decide ((10000 : Int) < want) = false := decide_eq_false (by omega)
  obtain ⟨i0, hi, hz0, hz1, hz2⟩ := info_parts info_holder
  obtain ⟨i1, hi1, hy0, hy1, hy2⟩ := info_parts info_int
  clear h ho
  go_enter Tryz.func59, Tryz.ntmps59
  go_upto_region 3 with (go_at_call 67; refine (hC.out).mono ?_; rintro e w1 ⟨rfl, hk1⟩)
  have hown := (own_empty (w := w1) (base := w.heap.size) (size := 2) (T := 93) hk1.size)
  have hcl : ∀ j u, (hcells hs)[j]? = some u → (w1.alloc (.cells #[] 93)).cell? ((⟨g, 0, none⟩ : Addr).add j) = some u := fun j u hj => (H.out.on (hk1.alloc (.cells #[] 93))).cells hj
  have hcl := Lib.hid hcl
  have hs1 := hk1.size
  have Hk1 := Lib.hid hk1
  clear hk1
  go_wp2_with (at_builtin; refine wpList_append2 _ rfl _ _ 91 rfl w.heap.size 93 i0 _ 2 16 Tryz.underlying91 hi hz0 hz1 hz2 rfl (by decide) (.slice (some ⟨w1.heap.size, 0, none⟩) 0 0) 0 [] rfl hown ⟨g, 0, none⟩ hs.length cap (hcells hs) rfl (hcells_len hs) hcl.out hcells_one (by simp [maxLen]; omega) (by omega) (by simp; omega) ?_; intro v' w2 hown' hgrow _ hnew)
  have hcL : (hcells hs).length = hs.length * 2 := hcells_len hs
  obtain ⟨gR, capR, cur, rfl, hgb, hgo, -⟩ : ∃ gR capR cur, v' = .slice (some ⟨gR, 0, none⟩) hs.length capR ∧ w.heap.size ≤ gR ∧ w2.heap[gR]? = some (.cells cur 93 (0, 0)) ∧ True := by
    obtain ⟨-, ⟨h1, h2⟩ | ⟨gR, capR, cur, e, hb, hg, -⟩⟩ := hown'
    · omega
    · exact ⟨gR, capR, cur, by simpa using e, hb, hg, trivial⟩
  have hrow : w2.ownsRow w.heap.size 93 2 (.slice (some ⟨gR, 0, none⟩) hs.length capR) hs.length (hcells hs) := by simpa using hown'
  have k2 : Keeps [] w w2 := by
    obtain ⟨g1, g2, g3, g4, g5⟩ := hgrow
    have kk := Hk1.out.alloc (.cells #[] 93)
    exact ⟨g1.trans kk.os, g2.trans kk.tape, g3.trans kk.output, Nat.le_trans kk.size g4, fun b hb _ => (g5 b (Nat.lt_of_lt_of_le hb kk.size) (by intro e; simp [Value.ownBlock] at e; omega)).trans (kk.block b hb (by simp))⟩
  have hA : Hid (_ ∧ _) := Lib.hid (And.intro hrow k2)
  have hF := Lib.hid (r28_first (hrow_addr hrow) (cap := capR) hlen)
  clear hown' hgrow hnew hcl hown hgo hrow k2
  go_wp2_with (go_at_call 68; refine (hF.out).mono ?_; rintro e w3 ⟨rfl, hk3⟩)
  go_loopg [1, 10, 11] (PL.some' hs).length (fun k s1 s10 s11 wr => ∃ (F at_ : Int) (R : List (Int × Int)) (out : List Int), s1 = .int .i64 F ∧ s11 = .int .i64 at_ ∧ PlanR w gR capR want free hs k F at_ s10 wr R out)
  case atStart =>
    have hA1 := hA.out.1
    have hsl : (PL.some' hs).length ≤ hs.length := List.length_filter_le _ _
    exact ⟨free, _, hs, [], rfl, rfl, ⟨rfl, rfl, ownsRow_of hA1 (fun g hg => hk3.block g (hA1.lt g hg).2 (by simp)), World.ownsRow_nil _ _ _ _, by simp [Value.ownBlock], hA.out.2.trans hk3, rfl, by omega, HO.out.fr, by simp; omega, rfl⟩⟩
  case round =>
    obtain ⟨F, at_, R, out, rfl, rfl, hP⟩ := hrel
    have HP := Lib.hid hP
    obtain ⟨oa, oc, rfl⟩ := ownsRow_slice hP.orow
    have hRl := hP.len
    cases hq : PL.firstB R R.length with
    | none =>
      obtain rfl : at_ = -1 := by rw [hP.at_, hq]; rfl
      have he : out = PL.plan want (PL.srt (PL.some' hs)) free := by rw [← hP.eq, PL.srt_none hq]; simp [PL.plan]
      have He := Lib.hid he
      clear he hq hP
      go_wp2
      go_ret3
      rw [← He.out]
      exact ⟨_, F, rfl, HP.out.orow, HP.out.keep⟩
    | some i =>
      have hil : i < R.length := firstB_lt hq
      obtain rfl : at_ = (i : Int) := by rw [hP.at_, hq]; rfl
      by_cases hfull : want ≤ F
      · have he : out = PL.plan want (PL.srt (PL.some' hs)) free := by rw [← hP.eq, PL.plan_full hfull]; simp
        have He := Lib.hid he
        clear he hq hP
        go_wp2
        go_ret3
        rw [← He.out]
        exact ⟨_, F, rfl, HP.out.orow, HP.out.keep⟩
      · obtain ⟨p, hp, hp0, hsrt⟩ := PL.srt_first hq
        have hpf := hP.fr p (List.mem_of_getElem? hp)
        obtain ⟨g', e, c0, c1⟩ := (hrow_addr hP.row) i p hp
        simp only [Option.some.injEq, Addr.mk.injEq, and_true] at e
        subst e
        have hfw : F < want := by omega
        have hb := hP.f
        have hrr := hP.orow
        have hsome := PL.some_len_set hp hp0
        have hfew := hP.few
        have hkk := hP.k
        have hlt := hP.row.lt gR rfl
        have hne := Lib.hid hP.ne
        obtain ⟨hrs, hfz⟩ := hrow_set hP.row hp 0
        have hpl : PL.plan want (PL.srt (PL.some' R)) F = p.1 :: PL.plan want (PL.srt (PL.some' (R.set i (p.1, 0)))) (F + p.2) := by
          rw [hsrt]; simp [PL.plan]; omega
        have Hpl := Lib.hid hpl
        have hxw := IntWalk.i64_in (F + p.2) (by omega)
        have Hp := Lib.hid hp
        have Hs := Lib.hid hsome
        have hrow0 := Lib.hid hP.row
        have hsz := hP.keep.size
        have hfl : out.length ≤ 64 := by omega
        have hil2 : i < hs.length := by omega
        have hi64 : i < 64 := by omega
        have hRl := Lib.hid hRl
        clear hq hp hsome hsrt hpl hkk hrs hP
        go_wp2_with (first
          | (at_builtin; refine wpList_append2 _ rfl _ _ 40 rfl w.heap.size 3 i1 (.int .i64 0) 1 8 Tryz.underlying40 hi1 hy0 hy1 hy2 rfl (by decide) (.slice oa out.length oc) out.length _ rfl (hrr.alloc _) ⟨wr.heap.size, 0, none⟩ 1 1 [.int .i64 p.1] rfl rfl (cell_one_new _ _ _) (by simp [Value.oneCell']) (by simp [maxLen]; omega) (by omega) (by simp; omega) ?_; intro v3 w3 hown3 hgrow3 _ hnew3; (have hbl : w3.heap[gR]? = wr.heap[gR]? := (hgrow3.block gR (by simp; omega) (fun e => hne.out e.symm)).trans (((Keeps.refl [] wr).alloc (.cells #[.int .i64 p.1] 3)).block gR hlt.2 (by simp))); (have z1 := (World.cell?_of_block (a := ⟨gR, i * 2 + 1, none⟩) hbl).trans c1); (have zf := (World.frozen?_of_block (a := ⟨gR, i * 2 + 1, none⟩) hbl).trans (hfz _)); (have hrw3 : w3.ownsRow w.heap.size 93 2 (.slice (some ⟨gR, 0, none⟩) R.length capR) R.length (hcells R) := ownsRow_of hrow0.out (fun g hg => by simp only [Value.ownBlock, Option.some.injEq] at hg; subst hg; exact hbl)); (have hrs := (hrow_set hrw3 Hp.out 0).1); have hF2 := Lib.hid (r28_first (hrow_addr hrs) (cap := capR) (by simp; omega)); have hrs := Lib.hid hrs; have hgrow3 := Lib.hid hgrow3; have hnew3 := Lib.hid hnew3; have hown3 := Lib.hid hown3; clear hrw3 hbl)
          | (go_at_call 68; rw [List.length_set, hRl.out] at hF2; refine (hF2.out).mono ?_; rintro e w4 ⟨rfl, hk4⟩))
        go_roundg (gk - 1)
        case measure => have := HP.out.k; have := Hs.out; omega
        case rel =>
          have hk3' : Keeps [] w w3 := ((HP.out.keep).alloc _).grown (v := .slice oa out.length oc) hgrow3.out (fun g hg => (HP.out.orow.lt g hg).1)
          have hkS : Keeps [] w (w3.setCell ⟨gR, i * 2 + 1, none⟩ (.int .i64 0)) := hk3'.setCell (p := ⟨gR, i * 2 + 1, none⟩) (fun h => absurd h (by have := hlt.1; simp only; omega)) _
          have hv3 : ∀ g, v3.ownBlock = some g → g ≠ gR := fun g hg e => by
            subst e
            rcases hnew3.out g hg with h | h
            · exact hne.out h
            · have := hlt.2; simp at h; omega
          have ho3 : w3.ownsRow w.heap.size 3 1 v3 (out ++ [p.1]).length ((out ++ [p.1]).map (Value.int .i64)) := by simpa using hown3.out
          have hso := Hs.out
          have hf0 := HP.out.f
          have hfw0 := HP.out.few
          have heq := HP.out.eq
          rw [Hpl.out] at heq
          refine ⟨F + p.2, _, R.set i (p.1, 0), out ++ [p.1], rfl, rfl, ⟨?_, by simp; exact hRl.out, ?_, ?_, fun e => hv3 gR e rfl, hkS.trans hk4, by have := HP.out.k; omega, by omega, fun q hq => ?_, by simp; omega, by rw [List.append_assoc]; exact heq⟩⟩
          · rw [List.length_set, hRl.out]
          · have := ownsRow_of hrs.out (fun g hg => hk4.block g (hrs.out.lt g hg).2 (by simp))
            simpa using this
          · exact ownsRow_of ho3 (fun g hg => (hk4.block g (by have := (ho3.lt g hg).2; simpa [World.setCell] using this) (by simp)).trans (Below.heap_setCell _ _ _ _ (hv3 g hg)))
          · rcases List.mem_or_eq_of_mem_set hq with h | h
            · exact HP.out.fr q h
            · subst h; simp

end Go.Proofs.YthjghcfnopancaaGreat
