/-
  Check of the program's press.
-/
import Derived.Test.YthjghcfnopancaaGreatGn
import Derived.Test.YthjghcfnopancaaGreatGh
import Derived.Test.YthjghcfnopancaaGreatGu
import Derived.BigRegion
import Derived.WalkSmall
namespace Go.Proofs.YthjghcfnopancaaGreat
open Go.RowKit Go.Shelf Go.Maps

theorem cell_one_new2 (w : World) (o : Obj) (x : Value) (t : TypeId) (j : Nat) (u : Value) (h : [x][j]? = some u) : ((w.alloc o).alloc (.cells #[x] t)).cell? ((⟨w.heap.size + 1, 0, none⟩ : Addr).add j) = some u := by
  have := cell_one_new (w.alloc o) x t j u h
  rwa [show (w.alloc o).heap.size = w.heap.size + 1 by simp] at this

set_option maxRecDepth 100000 in
set_option maxHeartbeats 1000000 in
theorem index_no {w : World} {base : Nat} {v : Value} {xs : List Int} {x : Int} (h : w.ownsRow base 3 1 v xs.length (xs.map (Value.int .i64))) (hl : xs.length ≤ 1000) (hx : x ∉ xs) :
    Calls Tryz.prog 79 #[v, .int .i64 x] w fun e w' => e = .returned (.int .i64 (-1)) ∧ w' = w := by
  have H := Lib.hid h
  obtain ⟨a, cap, rfl⟩ := ownsRow_slice h
  have HX := Lib.hid hx
  clear h hx
  go_enter Tryz.func79, Tryz.ntmps79
  go_wp2
  go_loopg [8] xs.length (fun k s8 wr => ∃ j : Nat, s8 = .int .i64 j ∧ k + j = xs.length ∧ wr = w)
  case atStart => exact ⟨0, rfl, by omega, rfl⟩
  case round =>
    obtain ⟨j, rfl, hkj, rfl⟩ := hrel
    by_cases hj : j < xs.length
    · obtain ⟨g, cap', e, -, -, hc⟩ := row_cell H.out hj
      simp only [Value.slice.injEq] at e
      obtain ⟨rfl, -, -⟩ := e
      obtain ⟨y, hy⟩ : ∃ y, xs.getD j 0 = y := ⟨_, rfl⟩
      rw [hy] at hc
      have hne : (x == y) = false := by
        simp only [beq_eq_false_iff_ne]
        intro e
        apply HX.out
        rw [e, ← hy, List.getD_eq_getElem?_getD, List.getElem?_eq_getElem hj]
        exact List.getElem_mem hj
      clear hy
      go_wp2
      go_roundg (gk - 1)
      case measure => omega
      case rel => exact ⟨j + 1, by simp, by omega, rfl⟩
    · have hjl : ((xs.length : Int) ≤ (j : Int)) := by omega
      go_wp2
      go_ret
      exact ⟨rfl, rfl⟩

theorem contains_no {w : World} {base : Nat} {v : Value} {xs : List Int} {x : Int} (h : w.ownsRow base 3 1 v xs.length (xs.map (Value.int .i64))) (hl : xs.length ≤ 1000) (hx : x ∉ xs) :
    Calls Tryz.prog 72 #[v, .int .i64 x] w fun e w' => e = .returned (.bool false) ∧ w' = w := by
  have hI := Lib.hid (index_no h hl hx)
  clear h hx
  go_enter Tryz.func72, Tryz.ntmps72
  go_wp2_with (go_at_call 79; refine (hI.out).mono ?_; rintro e w' ⟨rfl, rfl⟩)
  go_ret
  exact ⟨rfl, rfl⟩

set_option maxRecDepth 100000 in
set_option maxHeartbeats 2000000 in
theorem press_check {w : World} {a : Option Addr} {cap : Nat} {hs : List (Int × Int)} (h : HRow w a hs) (ho : HOk hs) :
    Calls Tryz.prog 65 #[.slice a hs.length cap] w fun e w' => e = .returned (.int .i64 0) ∧ Keeps [] w w' := by
  have H := Lib.hid h
  have HO := Lib.hid ho
  have hl := ho.len
  have d0 : decide ((64 : Int) < (hs.length : Int)) = false := decide_eq_false (by omega)
  obtain ⟨i1, hi1, hy0, hy1, hy2⟩ := info_parts info_int
  clear h ho
  go_enter Tryz.func65, Tryz.ntmps65
  go_wp2
  go_loopg [3, 11] hs.length (fun k s3 s11 wr => ∃ j : Nat, s11 = .int .i64 j ∧ k + j = hs.length ∧ Keeps [] w wr ∧ wr.ownsRow w.heap.size 3 1 s3 ((hs.take j).map (·.1)).length (((hs.take j).map (·.1)).map (Value.int .i64)))
  case atStart => exact ⟨0, rfl, by omega, Keeps.refl _ _, World.ownsRow_nil _ _ _ _⟩
  case round =>
    obtain ⟨j, rfl, hkj, hk, hrow⟩ := hrel
    by_cases hj : j < hs.length
    · obtain ⟨p, hp⟩ : ∃ p, hs[j]? = some p := ⟨_, List.getElem?_eq_getElem hj⟩
      obtain ⟨g, rfl, c0, c1⟩ := (H.out.on hk) j p hp
      have hid := HO.out.id p (List.mem_of_getElem? hp)
      have hfr := HO.out.fr p (List.mem_of_getElem? hp)
      have hpe : hs[j] = p := by rw [List.getElem?_eq_getElem hj] at hp; simpa using hp
      have hnot : p.1 ∉ (hs.take j).map (·.1) := by
        intro hm
        obtain ⟨q, hq, e⟩ := List.mem_map.1 hm
        obtain ⟨i, hi, hqe⟩ := List.getElem_of_mem hq
        have hij : i < j := by simp at hi; omega
        have hqi : hs[i]? = some q := by rw [← hqe]; simp [List.getElem?_eq_getElem (show i < hs.length by omega)]
        exact HO.out.ne hp hqi hij e
      have hjl : ((hs.take j).map (·.1)).length = j := by simp; omega
      have hs1 : (hs.take (j + 1)).map (·.1) = (hs.take j).map (·.1) ++ [p.1] := by
        rw [List.take_succ_eq_append_getElem hj, hpe]; simp
      have d1 : decide (p.1 < 1) = false := decide_eq_false (by omega)
      have d2 : decide (p.2 < 0) = false := decide_eq_false (by omega)
      have d3 : decide (64 < p.2) = false := decide_eq_false (by omega)
      have hC : Hid (∀ w', Keeps [] wr w' → _) := Lib.hid fun w' (hk : Keeps [] wr w') => contains_no (w := w') (ownsRow_of hrow (fun g hg => hk.block g (hrow.lt g hg).2 (by simp))) (by rw [hjl]; omega) hnot
      rw [hjl] at hrow
      obtain ⟨sa, sc, rfl⟩ := ownsRow_slice hrow
      have Hs := Lib.hid hs1
      have Hjl := Lib.hid hjl
      have hsz := hk.size
      clear hp hpe hnot hs1 hjl
      go_wp2_with (first
        | (go_at_call 72; refine (hC.out _ (by repeat (first | exact Keeps.refl _ _ | assumption | refine Keeps.drew ?_ | refine Keeps.drewN ?_ _ | refine Keeps.alloc ?_ _ | refine Keeps.setCell ?_ (by simp <;> omega) _ | refine Keeps.trans ?_ (by assumption)))).mono ?_; rintro e w2 ⟨rfl, rfl⟩)
        | (at_builtin; refine wpList_append2 _ rfl _ _ 40 rfl w.heap.size 3 i1 (.int .i64 0) 1 8 Tryz.underlying40 hi1 hy0 hy1 hy2 rfl (by decide) (.slice sa j sc) j _ rfl ((hrow.alloc _).alloc _) ⟨wr.heap.size + 1, 0, none⟩ 1 1 [.int .i64 p.1] rfl rfl (cell_one_new2 _ _ _ _) (by simp [Value.oneCell']) (by simp [maxLen]; omega) (by omega) (by simp; omega) ?_; intro v' w3 hown' hgrow _ hnew; have hown' := Lib.hid hown'; have hgrow := Lib.hid hgrow))
      go_roundg (gk - 1)
      case measure => omega
      case rel => exact ⟨j + 1, by simp, by omega, ((hk.alloc _).alloc _).grown (v := .slice sa j sc) hgrow.out (fun g hg => (hrow.lt g hg).1), by rw [Hs.out, List.length_append, Hjl.out, List.map_append]; exact hown'.out⟩
    · have hjl : ((hs.length : Int) ≤ (j : Int)) := by omega
      clear hrow
      go_wp2
      go_ret
      exact ⟨rfl, hk⟩

end Go.Proofs.YthjghcfnopancaaGreat

/-
  container/heap at press.holders.
-/
namespace Go.Proofs.YthjghcfnopancaaGreat
open Go.RowKit Go.Shelf Go.Maps HP PL

theorem hlt_strict : Strict hlt := by
  constructor
  · intro a b h
    rw [hlt_iff] at h; rw [hlt_not]; omega
  · intro a b c h k
    rw [hlt_not] at h k ⊢; omega
theorem hlt_irr (a : Int × Int) : hlt a a = false := by rw [hlt_not]; omega

set_option maxHeartbeats 400000 in
theorem hold_len (a : Option Addr) (n c : Nat) (w : World) : Calls Tryz.prog 121 #[.slice a n c] w fun e w' => e = .returned (.int .i64 n) ∧ w' = w := by
  go_enter Tryz.func121, Tryz.ntmps121
  go_wp2
  go_ret
  exact ⟨rfl, rfl⟩

set_option maxRecDepth 100000 in
set_option maxHeartbeats 1000000 in
theorem hold_less {w : World} {a : Option Addr} {c : Nat} {hs : List (Int × Int)} (h : HRow w a hs) {i k : Nat} {p q : Int × Int} (hi : hs[i]? = some p) (hk : hs[k]? = some q) :
    Calls Tryz.prog 122 #[.slice a hs.length c, .int .i64 i, .int .i64 k] w fun e w' => e = .returned (.bool (hlt p q)) ∧ Keeps [] w w' := by
  obtain ⟨g, rfl, a0, a1⟩ := h i p hi
  obtain ⟨g', e, b0, b1⟩ := h k q hk
  simp only [Option.some.injEq, Addr.mk.injEq, and_true] at e
  subst e
  have hil := (List.getElem?_eq_some_iff.1 hi).1
  have hkl := (List.getElem?_eq_some_iff.1 hk).1
  obtain ⟨pid, pf⟩ := p
  obtain ⟨qid, qf⟩ := q
  unfold hlt
  simp only at *
  clear h hi hk
  by_cases h1 : qf < pf
  · have d1 := decide_eq_true h1
    go_enter Tryz.func122, Tryz.ntmps122
    go_wp2
    go_quiet (fail)
    go_wp2
    go_ret
    exact ⟨by simp [d1], (by repeat (first | exact Keeps.refl _ _ | assumption | refine Keeps.drew ?_ | refine Keeps.drewN ?_ _ | refine Keeps.alloc ?_ _ | refine Keeps.setCell ?_ (by simp <;> omega) _ | refine Keeps.trans ?_ (by assumption)))⟩
  · have d1 := decide_eq_false h1
    by_cases h2 : pf = qf
    · subst h2
      have d2 : (pf == pf) = true := by simp
      clear h1
      go_enter Tryz.func122, Tryz.ntmps122
      go_wp2
      go_quiet (fail)
      go_wp2
      go_ret
      exact ⟨by simp, (by repeat (first | exact Keeps.refl _ _ | assumption | refine Keeps.drew ?_ | refine Keeps.drewN ?_ _ | refine Keeps.alloc ?_ _ | refine Keeps.setCell ?_ (by simp <;> omega) _ | refine Keeps.trans ?_ (by assumption)))⟩
    · have d2 : (pf == qf) = false := by simpa using h2
      have d3 := decide_eq_false h2
      clear h1 h2
      go_enter Tryz.func122, Tryz.ntmps122
      go_wp2
      go_quiet (fail)
      go_wp2
      go_ret
      exact ⟨by simp [d1, d3], (by repeat (first | exact Keeps.refl _ _ | assumption | refine Keeps.drew ?_ | refine Keeps.drewN ?_ _ | refine Keeps.alloc ?_ _ | refine Keeps.setCell ?_ (by simp <;> omega) _ | refine Keeps.trans ?_ (by assumption)))⟩

theorem hcells_put : ∀ {hs : List (Int × Int)} {i : Nat} (x : Int × Int), i < hs.length → ((hcells hs).set (i * 2) (.int .i64 x.1)).set (i * 2 + 1) (.int .i64 x.2) = hcells (hs.set i x)
  | [], i, _, h => by simp at h
  | a :: t, 0, x, _ => by simp [hcells]
  | a :: t, i + 1, x, h => by
    have ih := hcells_put (hs := t) (i := i) x (by simpa using h)
    have e1 : (i + 1) * 2 = i * 2 + 1 + 1 := by omega
    rw [e1]
    simp only [hcells, List.flatMap_cons, List.set_cons_succ, List.cons_append, List.nil_append] at ih ⊢
    rw [ih]

/-- A holder laid into a row. -/
theorem hrow_put {w : World} {base g len cap : Nat} {hs : List (Int × Int)} (h : w.ownsRow base 93 2 (.slice (some ⟨g, 0, none⟩) len cap) hs.length (hcells hs)) {i : Nat} (hi : i < hs.length) (x : Int × Int) :
    ((w.setCell ⟨g, i * 2, none⟩ (.int .i64 x.1)).setCell ⟨g, i * 2 + 1, none⟩ (.int .i64 x.2)).ownsRow base 93 2 (.slice (some ⟨g, 0, none⟩) len cap) (hs.set i x).length (hcells (hs.set i x)) := by
  obtain ⟨hx, ⟨h1, hn⟩ | ⟨g', cap', cur, e1, hb, hg, hnc, hcm, hcs, htake⟩⟩ := id h
  · simp at h1
  · simp only [Value.slice.injEq, Option.some.injEq, Addr.mk.injEq, and_true] at e1
    obtain ⟨rfl, rfl, rfl⟩ := e1
    refine ⟨hcells_len _, .inr ⟨_, _, (cur.set! (i * 2) (.int .i64 x.1)).set! (i * 2 + 1) (.int .i64 x.2), by simp, hb, ?_, by simpa using hnc, hcm, by simpa using hcs, ?_⟩⟩
    · exact blk_setCell (blk_setCell hg _ _) _ _
    · rw [← hcells_put x hi]
      simp only [List.length_set, Array.set!_eq_setIfInBounds, Array.toList_setIfInBounds, List.take_set] at htake ⊢
      rw [htake]

set_option maxRecDepth 100000 in
set_option maxHeartbeats 2000000 in
theorem hold_swap {w : World} {base g c : Nat} {hs : List (Int × Int)} (h : w.ownsRow base 93 2 (.slice (some ⟨g, 0, none⟩) hs.length c) hs.length (hcells hs)) {i k : Nat} (hi : i < hs.length) (hk : k < hs.length) :
    Calls Tryz.prog 123 #[.slice (some ⟨g, 0, none⟩) hs.length c, .int .i64 i, .int .i64 k] w fun e w' => e = .returned (.tuple #[]) ∧ Keeps [g] w w' ∧ w'.ownsRow base 93 2 (.slice (some ⟨g, 0, none⟩) hs.length c) (swp hs i k).length (hcells (swp hs i k)) := by
  obtain ⟨p, hp⟩ : ∃ p, hs[i]? = some p := ⟨_, List.getElem?_eq_getElem hi⟩
  obtain ⟨q, hq⟩ : ∃ q, hs[k]? = some q := ⟨_, List.getElem?_eq_getElem hk⟩
  obtain ⟨g1, e1, a0, a1⟩ := (hrow_addr h) i p hp
  obtain ⟨g2, e2, b0, b1⟩ := (hrow_addr h) k q hq
  simp only [Option.some.injEq, Addr.mk.injEq, and_true] at e1 e2
  subst e1; subst e2
  have hfz := (hrow_set h hp 0).2
  have F : Hid (((((w.setCell ⟨g, i * 2, none⟩ (.int .i64 q.1)).setCell ⟨g, i * 2 + 1, none⟩ (.int .i64 q.2)).setCell ⟨g, k * 2, none⟩ (.int .i64 p.1)).setCell ⟨g, k * 2 + 1, none⟩ (.int .i64 p.2)).ownsRow base 93 2 (.slice (some ⟨g, 0, none⟩) hs.length c) (swp hs i k).length (hcells (swp hs i k))) := Lib.hid <| by
    have h1 := hrow_put h hi q
    have h2 := hrow_put h1 (i := k) (by simpa using hk) p
    have e : swp hs i k = (hs.set i q).set k p := by
      unfold swp
      have ei : hs.getD i default = p := by simp [List.getD_eq_getElem?_getD, hp]
      have ek : hs.getD k default = q := by simp [List.getD_eq_getElem?_getD, hq]
      rw [ei, ek]
    rw [e]
    exact h2
  obtain ⟨z0, z1⟩ : ((w.setCell ⟨g, i * 2, none⟩ (.int .i64 q.1)).setCell ⟨g, i * 2 + 1, none⟩ (.int .i64 q.2)).cell? ⟨g, k * 2, none⟩ = some (.int .i64 q.1) ∧ ((w.setCell ⟨g, i * 2, none⟩ (.int .i64 q.1)).setCell ⟨g, i * 2 + 1, none⟩ (.int .i64 q.2)).cell? ⟨g, k * 2 + 1, none⟩ = some (.int .i64 q.2) := by
    have h1 := hrow_put h hi q
    have hqk : (hs.set i q)[k]? = some q := by
      rw [List.getElem?_set]
      split
      · rfl
      · exact hq
    obtain ⟨g3, e3, c0, c1⟩ := (hrow_addr h1) k q hqk
    simp only [Option.some.injEq, Addr.mk.injEq, and_true] at e3
    subst e3
    exact ⟨c0, c1⟩
  clear h hp hq
  go_enter Tryz.func123, Tryz.ntmps123
  go_wp2
  go_region
  all_goals go_wp2
  all_goals go_end0
  all_goals exact ⟨rfl, (((((Keeps.refl [g] w).setCell (by simp) _).setCell (by simp) _).setCell (by simp) _).setCell (by simp) _).drew, F.out⟩


set_option maxRecDepth 100000 in
set_option maxHeartbeats 1000000 in
theorem hold_pop {w : World} {B g n c : Nat} {p : Int × Int} (hb : n ≤ 1000000) (cp : w.cell? ⟨B, 0, none⟩ = some (.slice (some ⟨g, 0, none⟩) (n + 1) c)) (c0 : w.cell? ⟨g, n * 2, none⟩ = some (.int .i64 p.1)) (c1 : w.cell? ⟨g, n * 2 + 1, none⟩ = some (.int .i64 p.2)) (fp : w.frozen? ⟨B, 0, none⟩ = false) (hc : n + 1 ≤ c) :
    Calls Tryz.prog 124 #[.pointer (some ⟨B, 0, none⟩)] w fun e w' => e = .returned (.iface 93 (.agg #[.int .i64 p.1, .int .i64 p.2])) ∧ ∃ o d, w' = ((w.setCell ⟨B, 0, none⟩ (.slice (some ⟨g, 0, none⟩) n c)).alloc o).drewN d := by
  have hBl := World.block_lt_of_cell? _ _ cp
  have hgl := World.block_lt_of_cell? _ _ c0
  simp only at hBl hgl
  go_enter Tryz.func124, Tryz.ntmps124
  go_wp2
  go_region
  all_goals go_wp2
  all_goals go_region
  all_goals go_wp2
  all_goals go_ret
  all_goals exact ⟨rfl, _, 2, rfl⟩


set_option maxRecDepth 100000 in
set_option maxHeartbeats 2000000 in
theorem hold_push {w : World} {B base : Nat} {v : Value} {hs : List (Int × Int)} {p : Int × Int} (cp : w.cell? ⟨B, 0, none⟩ = some v) (fp : w.frozen? ⟨B, 0, none⟩ = false) (h : w.ownsRow base 93 2 v hs.length (hcells hs)) (hl : hs.length < 1000000) (hp : B < base) (hps : B < w.heap.size) (hbs : base ≤ w.heap.size) :
    Calls Tryz.prog 125 #[.pointer (some ⟨B, 0, none⟩), .iface 93 (.agg #[.int .i64 p.1, .int .i64 p.2])] w fun e w' => e = .returned (.tuple #[]) ∧ ∃ v' w1, Keeps v.ownBlock.toList w w1 ∧ w1.ownsRow base 93 2 v' (hs.length + 1) (hcells (hs ++ [p])) ∧ (∀ g, v'.ownBlock = some g → v.ownBlock = some g ∨ w.heap.size ≤ g) ∧ w' = w1.setCell ⟨B, 0, none⟩ v' := by
  obtain ⟨i0, hi, hz0, hz1, hz2⟩ := info_parts info_holder
  have hta : ∀ w, (Instr.typeAssert (.iface 93 (.agg #[.int .i64 p.1, .int .i64 p.2])) 20 93 false).run Tryz.prog w = .ok (.agg #[.int .i64 p.1, .int .i64 p.2]) w := fun w => by kernel_rfl
  obtain ⟨a, cap, rfl⟩ := ownsRow_slice h
  obtain ⟨v', w1, hap, hown', hgrow, -, hnew⟩ := run_append2 (P := Tryz.prog) ((w.alloc (.cells #[.int .i64 p.1, .int .i64 p.2] 93)).drew) base 114 114 93 i0 _ 2 16 Tryz.underlying114 hi hz0 hz1 hz2 rfl (by decide) (.slice a hs.length cap) hs.length _ (h.alloc _).drew ⟨w.heap.size, 0, none⟩ 1 1 [.int .i64 p.1, .int .i64 p.2] rfl
    (fun j u hj => cells_new (cs := #[.int .i64 p.1, .int .i64 p.2]) hj) (by simp [Value.oneCell']) (by simp [maxLen]; omega) (by omega) (by simp; omega)
  obtain ⟨va, vc, rfl⟩ := ownsRow_slice hown'
  have hbl : w1.heap[B]? = w.heap[B]? := (hgrow.block B (by simp; omega) (fun e => by have := h.lt B e.symm; omega)).trans (((Keeps.refl [] w).alloc _).block B hps (by simp))
  have c1 := (World.cell?_of_block (a := ⟨B, 0, none⟩) hbl).trans cp
  have f1 := (World.frozen?_of_block (a := ⟨B, 0, none⟩) hbl).trans fp
  have H : Hid (∃ v2 w2, Keeps (Value.slice a hs.length cap).ownBlock.toList w w2 ∧ w2.ownsRow base 93 2 v2 (hs.length + 1) (hcells (hs ++ [p])) ∧ (∀ g, v2.ownBlock = some g → (Value.slice a hs.length cap).ownBlock = some g ∨ w.heap.size ≤ g) ∧ w1.setCell ⟨B, 0, none⟩ (.slice va (hs.length + 1) vc) = w2.setCell ⟨B, 0, none⟩ v2) := Lib.hid ⟨_, w1, by
    obtain ⟨g1, g2, g3, g4, g5⟩ := hgrow
    have k1 := ((Keeps.refl [] w).alloc (.cells #[.int .i64 p.1, .int .i64 p.2] 93)).drew
    exact ⟨by rw [g1]; exact k1.os, by rw [g2]; exact k1.tape, by rw [g3]; exact k1.output, by have := k1.size; omega, fun b hb hn => (g5 b (by have := k1.size; omega) (fun e => hn (by simp [← e]))).trans (k1.block b hb (by simp))⟩, by rw [hcells_snoc]; exact hown', fun g hg => (hnew g hg).imp id fun h => by simp at h; omega, rfl⟩
  clear h hgrow hnew hown' hbl
  go_enter Tryz.func125, Tryz.ntmps125
  go_wp2
  go_region_law (refine step_append_run rfl (.tmp 7) (.tmp 10) 114 rfl (by simp [Act.eval]) (by simp [Act.eval]) hap ?_)
  all_goals go_wp2
  all_goals go_end0
  all_goals exact ⟨rfl, H.out⟩

theorem hold_mlen {w : World} {p o : Nat} {v : Value} (h : w.cell? ⟨p, o, none⟩ = some v) : (method 266 116 (.pointer (some ⟨p, o, none⟩)) "Len").run Tryz.prog w = .ok (121, v) w := method_through (E := 114) (by kernel_rfl) (by kernel_rfl) (fun w => by kernel_rfl) h
theorem hold_mless {w : World} {p o : Nat} {v : Value} (h : w.cell? ⟨p, o, none⟩ = some v) : (method 266 116 (.pointer (some ⟨p, o, none⟩)) "Less").run Tryz.prog w = .ok (122, v) w := method_through (E := 114) (by kernel_rfl) (by kernel_rfl) (fun w => by kernel_rfl) h
theorem hold_mswap {w : World} {p o : Nat} {v : Value} (h : w.cell? ⟨p, o, none⟩ = some v) : (method 266 116 (.pointer (some ⟨p, o, none⟩)) "Swap").run Tryz.prog w = .ok (123, v) w := method_through (E := 114) (by kernel_rfl) (by kernel_rfl) (fun w => by kernel_rfl) h
theorem hold_mpush (w : World) (p o : Nat) : (method 266 116 (.pointer (some ⟨p, o, none⟩)) "Push").run Tryz.prog w = .ok (125, .pointer (some ⟨p, o, none⟩)) w := by kernel_rfl
theorem hold_mpop (w : World) (p o : Nat) : (method 266 116 (.pointer (some ⟨p, o, none⟩)) "Pop").run Tryz.prog w = .ok (124, .pointer (some ⟨p, o, none⟩)) w := by kernel_rfl

end Go.Proofs.YthjghcfnopancaaGreat

/-
  The holders of a press are a heap.
-/
namespace Go.Proofs.YthjghcfnopancaaGreat
open Go.RowKit Go.Shelf Go.Maps HP PL

/-- The holders behind block B, seen from an earlier world w0, of which only the blocks in l have changed. -/
structure HoldAt (w0 : World) (B base : Nat) (l : List Nat) (w : World) (hs : List (Int × Int)) (v : Value) : Prop where
  blk : w.heap[B]? = some (.cells #[v] 114 (0, 0))
  row : w.ownsRow base 93 2 v hs.length (hcells hs)
  keep : Keeps l w0 w
  lt : B < base
  le : base ≤ w.heap.size
  pin : B < w0.heap.size → B ∈ l
  gin : ∀ g, v.ownBlock = some g → g < w0.heap.size → g ∈ l
  few : hs.length ≤ 1000000

def HoldI (w0 : World) (B base : Nat) (l : List Nat) (w : World) (hs : List (Int × Int)) : Prop := ∃ v, HoldAt w0 B base l w hs v

theorem HoldAt.keeps {w0 : World} {B base : Nat} {l : List Nat} {w w' : World} {hs : List (Int × Int)} {v : Value} (h : HoldAt w0 B base l w hs v) (k : Keeps [] w w') : HoldAt w0 B base l w' hs v :=
  ⟨k.blk h.blk (by simp), ownsRow_of h.row (fun g hg => k.block g (h.row.lt g hg).2 (by simp)), h.keep.trans' k (by simp), h.lt, Nat.le_trans h.le k.size, h.pin, h.gin, h.few⟩

theorem cell0_1 {w : World} {b : Nat} {T : TypeId} {z : Nat × Nat} {a0 : Value} (h : w.heap[b]? = some (.cells #[a0] T z)) : w.cell? ⟨b, 0, none⟩ = some a0 := cellOf h 0 rfl

theorem hold_heaps (w0 : World) (B base : Nat) (l : List Nat) :
    HeapsX (Int × Int) hlt 116 (.pointer (some ⟨B, 0, none⟩)) (fun p => .iface 93 (.agg #[.int .i64 p.1, .int .i64 p.2])) (HoldI w0 B base l) (fun _ _ => True) 121 122 123 125 124 := by
  refine ⟨⟨fun _ => trivial, fun _ _ _ _ _ => trivial, fun _ _ ⟨_, h⟩ => h.few, enters_of Tryz.func121 (by kernel_rfl) rfl, enters_of Tryz.func122 (by kernel_rfl) rfl, enters_of Tryz.func123 (by kernel_rfl) rfl, ?_, ?_, ?_⟩, enters_of Tryz.func125 (by kernel_rfl) rfl, enters_of Tryz.func124 (by kernel_rfl) rfl, ?_, ?_⟩
  · rintro w xs ⟨v, h⟩
    obtain ⟨a, c, rfl⟩ := ownsRow_slice h.row
    exact ⟨_, hold_mlen (cell0_1 h.blk), (hold_len _ _ _ _).mono fun e w' ⟨h1, h2⟩ => ⟨h1, h2 ▸ ⟨_, h⟩, trivial⟩⟩
  · rintro w xs ⟨v, h⟩
    obtain ⟨a, c, rfl⟩ := ownsRow_slice h.row
    refine ⟨_, hold_mless (cell0_1 h.blk), fun i k hi hk => ?_⟩
    have e1 : xs[i]? = some (xs.getD i default) := by rw [List.getD_eq_getElem?_getD, List.getElem?_eq_getElem hi]; rfl
    have e2 : xs[k]? = some (xs.getD k default) := by rw [List.getD_eq_getElem?_getD, List.getElem?_eq_getElem hk]; rfl
    exact (hold_less (hrow_addr h.row) e1 e2).mono fun e w' ⟨h1, h2⟩ => ⟨h1, ⟨_, h.keeps h2⟩, trivial⟩
  · rintro w xs ⟨v, h⟩
    obtain ⟨a, c, rfl⟩ := ownsRow_slice h.row
    refine ⟨_, hold_mswap (cell0_1 h.blk), fun i k hi hk => ?_⟩
    obtain ⟨g, e, -⟩ := (hrow_addr h.row) i _ (List.getElem?_eq_getElem hi)
    subst e
    refine (hold_swap h.row hi hk).mono fun e w' ⟨h1, h2, h3⟩ => ⟨h1, ⟨.slice (some ⟨g, 0, none⟩) xs.length c, ?_⟩, trivial⟩
    have hl := length_swp xs i k
    have hb := (h.row.lt g rfl).1
    exact ⟨h2.blk h.blk (by have := h.lt; simp; omega), by simpa [hl] using h3, h.keep.trans' h2 (fun g' hg' => h.gin g' (by simpa [eq_comm, Value.ownBlock] using hg')), h.lt, Nat.le_trans h.le h2.size, h.pin, h.gin, by rw [hl]; exact h.few⟩
  · rintro w xs p ⟨v, h⟩ hx
    have hf := frees h.blk
    refine ⟨_, hold_mpush _ _ _, (hold_push (cell0_1 h.blk) (hf 0) h.row hx h.lt (ltOf h.blk) h.le).mono ?_⟩
    rintro e w' ⟨h1, v', w1, k1, hr, hn, rfl⟩
    have hb1 := k1.blk h.blk (fun e => by have := h.lt; have := (h.row.lt B (by simpa using e)).1; omega)
    have hs := blk_setCell hb1 0 v'
    refine ⟨h1, ⟨v', ?_⟩, trivial⟩
    have kk := (h.keep.trans' k1 (fun g hg => h.gin g (by simpa using hg)))
    refine ⟨by simpa using hs, ?_, kk.trans' ((Keeps.refl [B] w1).setCell (by simp) v') (by simp; exact h.pin), h.lt, by have := k1.size; have := h.le; simp; omega, h.pin, fun g hg hg2 => ?_, by simp; omega⟩
    · have := Go.RowKit.ownsRow_setCell_below hr (a := ⟨B, 0, none⟩) h.lt v'
      simpa using this
    · rcases hn g hg with h3 | h3
      · exact h.gin g h3 hg2
      · have := h.keep.size; omega
  · rintro w xs n m ⟨v, h⟩ hn hm
    have hf := frees h.blk
    obtain ⟨a, cap, rfl⟩ := ownsRow_slice h.row
    have em : xs[n]? = some m := by rw [← hm, List.getD_eq_getElem?_getD, List.getElem?_eq_getElem (by omega)]; rfl
    obtain ⟨g, e, c0, c1⟩ := (hrow_addr h.row) n m em
    subst e
    have hcap : n + 1 ≤ cap := by
      obtain ⟨-, ⟨h1, h2⟩ | ⟨g', cap', cur, e, -, -, h3, -⟩⟩ := h.row
      · simp at h1
      · simp only [Value.slice.injEq] at e
        omega
    have hx : xs = xs.take n ++ [m] := by
      have h2 := List.take_append_drop n xs
      have h3 : xs.drop n = [m] := by
        rw [List.drop_eq_getElem_cons (show n < xs.length by omega), List.drop_eq_nil_of_le (by omega)]
        rw [List.getElem?_eq_getElem (show n < xs.length by omega)] at em
        simpa using em
      rw [← h3, h2]
    have hp := hold_pop (B := B) (n := n) (c := cap) (p := m) (w := w) (g := g) (by have := h.few; omega) (by rw [← hn]; exact cell0_1 h.blk) c0 c1 (hf 0) hcap
    refine ⟨_, hold_mpop _ _ _, hp.mono ?_⟩
    rintro e w' ⟨h1, o, d, rfl⟩
    refine ⟨h1, ⟨.slice (some ⟨g, 0, none⟩) n cap, ?_⟩, trivial⟩
    have hr := h.row
    rw [hn] at hr
    have hl : (xs.take n).length = n := by simp; omega
    have hr2 : w.ownsRow base 93 2 (.slice (some ⟨g, 0, none⟩) n cap) n (hcells (xs.take n)) := by
      refine ownsRow_pop (last := [.int .i64 m.1, .int .i64 m.2]) (by rw [hcells_len, hl]) ?_
      have e2 : hcells (xs.take n) ++ [.int .i64 m.1, .int .i64 m.2] = hcells xs := by
        conv => rhs; rw [hx, hcells_snoc]
      rw [e2]
      exact hr
    have hs := blk_setCell h.blk 0 (.slice (some ⟨g, 0, none⟩) n cap)
    have k2 := (((Keeps.refl [B] w).setCell (p := ⟨B, 0, none⟩) (by simp) (.slice (some ⟨g, 0, none⟩) n cap)).alloc o).drewN d
    have k3 : Keeps [] (w.setCell ⟨B, 0, none⟩ (.slice (some ⟨g, 0, none⟩) n cap)) (((w.setCell ⟨B, 0, none⟩ (.slice (some ⟨g, 0, none⟩) n cap)).alloc o).drewN d) := ((Keeps.refl [] _).alloc o).drewN d
    have hr3 := Go.RowKit.ownsRow_setCell_below hr2 (a := ⟨B, 0, none⟩) h.lt (.slice (some ⟨g, 0, none⟩) n cap)
    refine HoldAt.mk (k3.blk (by simpa using hs) (by simp)) ?_ (h.keep.trans' k2 (by simp; exact h.pin)) h.lt (by have := k2.size; have := h.le; omega) h.pin (fun g' hg' => h.gin g' hg') (by rw [hl]; have := h.few; omega)
    rw [hl]
    exact ownsRow_of hr3 (fun g' hg' => k3.block g' (hr3.lt g' hg').2 (by simp))

end Go.Proofs.YthjghcfnopancaaGreat
