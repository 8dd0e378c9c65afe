/-
  The reference's table: contracts.
-/
import Derived.Test.YthjghcfnopancaaGreatGg
import Derived.Test.YthjghcfnopancaaGreatGh
import Derived.Deep.LoopGhost
import Derived.Deep.RegionHeld3
import Derived.OwnWalk
namespace Go.Proofs.YthjghcfnopancaaGreat
open Go.RowKit Go.Shelf Go.Maps

/-- The reference's table in memory: its causes are a row of its own. -/
structure RT (w : World) (base t : Nat) (v : Value) (most : Int) (cs : List Int) : Prop where
  blk : w.heap[t]? = some (.cells #[.int .i64 most, v] 77 (0, 0))
  row : w.ownsRow base 26 1 v cs.length (cs.map (Value.int .i64))
  lt : t < base
  lim : cs.length ≤ 1000

theorem RT.keep {l : List Nat} {w w' : World} {base t : Nat} {v : Value} {most : Int} {cs : List Int} (h : RT w base t v most cs) (k : Keeps l w w') (h1 : t ∉ l) (h2 : ∀ g, v.ownBlock = some g → g ∉ l) : RT w' base t v most cs :=
  ⟨k.blk h.blk h1, ownsRow_of h.row (fun g hg => k.block g (h.row.lt g hg).2 (h2 g hg)), h.lt, h.lim⟩

/-- What the reference tells of a number. -/
def rcause (cs : List Int) (id : Int) : Int × Int := if id < 1 ∨ (cs.length : Int) < id then (0, 18) else (cs.getD (id - 1).toNat 0, 0)

set_option maxHeartbeats 400000 in
theorem rt_cause {base t : Nat} {v : Value} {most : Int} {cs : List Int} {w : World} (h : RT w base t v most cs) (id : Int) :
    Calls Tryz.prog 41 #[.pointer (some ⟨t, 0, none⟩), .int .i64 id] w fun e w' => e = .returned (.tuple #[.int .i64 (rcause cs id).1, .int .i64 (rcause cs id).2]) ∧ Keeps [] w w' := by
  obtain ⟨c0, c1⟩ := cells2 h.blk
  unfold rcause
  have hrow := h.row
  have hlim := h.lim
  clear h
  by_cases h1 : id < 1
  · obtain ⟨a, cap, rfl⟩ := ownsRow_slice hrow
    rw [if_pos (.inl h1)]
    clear hrow
    go_enter Tryz.func41, Tryz.ntmps41
    go_wp2
    go_ret2
    exact ⟨rfl, (by repeat (first | exact Keeps.refl _ _ | assumption | refine Keeps.drew ?_ | refine Keeps.drewN ?_ _ | refine Keeps.alloc ?_ _ | refine Keeps.setCell ?_ (by simp <;> omega) _ | refine Keeps.trans ?_ (by assumption)))⟩
  · by_cases h2 : (cs.length : Int) < id
    · obtain ⟨a, cap, rfl⟩ := ownsRow_slice hrow
      rw [if_pos (.inr h2)]
      clear hrow
      go_enter Tryz.func41, Tryz.ntmps41
      go_wp2
      go_ret2
      exact ⟨rfl, (by repeat (first | exact Keeps.refl _ _ | assumption | refine Keeps.drew ?_ | refine Keeps.drewN ?_ _ | refine Keeps.alloc ?_ _ | refine Keeps.setCell ?_ (by simp <;> omega) _ | refine Keeps.trans ?_ (by assumption)))⟩
    · rw [if_neg (by omega)]
      obtain ⟨k, hk⟩ : ∃ k : Nat, (id - 1).toNat = k := ⟨_, rfl⟩
      have hid : id = (k : Int) + 1 := by omega
      subst hid
      have hkl : k < cs.length := by omega
      obtain ⟨g, cap, rfl, hb, hg, hc⟩ := row_cell hrow hkl
      rw [hk]
      generalize cs.getD k 0 = c at hc ⊢
      have hx := IntWalk.i64_in (k : Int) (by omega)
      clear hrow h1 h2
      go_enter Tryz.func41, Tryz.ntmps41
      go_wp2
      go_ret2
      exact ⟨rfl, (by repeat (first | exact Keeps.refl _ _ | assumption | refine Keeps.drew ?_ | refine Keeps.drewN ?_ _ | refine Keeps.alloc ?_ _ | refine Keeps.setCell ?_ (by simp <;> omega) _ | refine Keeps.trans ?_ (by assumption)))⟩

/-- The live numbers among the first k. -/
def rlive (cs : List Int) (k : Nat) : List Int := ((List.range k).filter fun i => cs.getD i 0 == 0).map fun (i : Nat) => (i : Int) + 1
theorem rlive_succ (cs : List Int) (k : Nat) : rlive cs (k + 1) = rlive cs k ++ (if cs.getD k 0 == 0 then [(k : Int) + 1] else []) := by
  unfold rlive
  rw [List.range_succ, List.filter_append, List.map_append]
  cases h : (cs.getD k 0 == 0)
  · have h' : ¬ cs[k]?.getD 0 = 0 := by simpa using h
    simp [h']
  · have h' : cs[k]?.getD 0 = 0 := by simpa using h
    simp [h']
theorem rlive_le (cs : List Int) (k : Nat) : (rlive cs k).length ≤ k := by
  have h := List.length_filter_le (fun i => cs.getD i 0 == 0) (List.range k)
  simpa [rlive] using h

set_option maxHeartbeats 800000 in
theorem rt_live {base t : Nat} {v : Value} {most : Int} {cs : List Int} {w : World} (h : RT w base t v most cs) :
    Calls Tryz.prog 12 #[.pointer (some ⟨t, 0, none⟩)] w fun e w' => ∃ u, e = .returned u ∧ w'.ownsRow w.heap.size 3 1 u (rlive cs cs.length).length ((rlive cs cs.length).map (Value.int .i64)) ∧ Keeps [] w w' := by
  have hlim := h.lim
  have H := Lib.hid h
  obtain ⟨i0, hi, hz0, hz1, hz2⟩ := info_parts info_int
  obtain ⟨ga, gc, hv⟩ := ownsRow_slice h.row
  subst hv
  have hlb := ltOf h.blk
  have hm0 := h.row
  clear h
  go_enter Tryz.func12, Tryz.ntmps12
  go_wp2
  go_loopg [3, 4] cs.length (fun k u z wr => ∃ j : Nat, z = .int .i64 j ∧ k + j = cs.length ∧ wr.ownsRow w.heap.size 3 1 u (rlive cs j).length ((rlive cs j).map (Value.int .i64)) ∧ Keeps [] w wr)
  case atStart => exact ⟨0, rfl, by omega, World.ownsRow_nil _ _ _ _, Keeps.refl _ _⟩
  case round =>
    obtain ⟨j, rfl, hkj, hrow, hk⟩ := hrel
    have hb := (H.out.keep hk (by simp) (by simp)).blk
    obtain ⟨c0, c1⟩ := cells2 hb
    have hrt := (H.out.keep hk (by simp) (by simp)).row
    by_cases hj : j < cs.length
    · obtain ⟨g, cap, e, hbg, hg, hc⟩ := row_cell hrt hj
      simp only [Value.slice.injEq] at e
      obtain ⟨rfl, -, rfl⟩ := e
      have hle := rlive_le cs j
      have hs := rlive_succ cs j
      generalize cs.getD j 0 = c at hc hs
      cases hc0 : (c == 0)
      · rw [hc0] at hs
        simp at hs
        have Hs := Lib.hid hs
        clear hs hrt hb hm0
        go_wp2
        go_roundg (gk - 1)
        case measure => omega
        case rel => exact ⟨j + 1, by simp, by omega, by rw [Hs.out]; exact hrow, hk⟩
      · rw [hc0] at hs
        simp at hs
        have Hs := Lib.hid hs
        have hks := hk.size
        clear hs hrt hb hm0
        have hx := IntWalk.i64_in ((j : Int) + 1) (by omega)
        go_wp2_with (at_builtin; refine wpList_append2 _ rfl _ _ 40 rfl w.heap.size 3 i0 (.int .i64 0) 1 8 Tryz.underlying40 hi hz0 hz1 hz2 rfl (by decide) _ _ _ rfl (hrow.alloc _) ⟨wr.heap.size, 0, none⟩ 1 1 [.int .i64 ((j : Int) + 1)] rfl rfl (cell_one_new _ _ _) (by simp [Value.oneCell']) (by simp [maxLen]; omega) (by omega) (by simp; omega) ?_; intro v' w1 hown' hgrow _ hnew)
        have hgrow' : (wr.alloc (.cells #[.int .i64 ((j : Int) + 1)] 3)).grownBy w1 u3.ownBlock := hgrow
        have hlo : ∀ g, u3.ownBlock = some g → w.heap.size ≤ g := fun g hg => (hrow.lt g hg).1
        have hown2 : w1.ownsRow w.heap.size 3 1 v' ((rlive cs j).length + 1) ((rlive cs j).map (Value.int .i64) ++ [.int .i64 ((j : Int) + 1)]) := hown'
        clear hown' hgrow hnew
        go_roundg (gk - 1)
        case measure => omega
        case rel => exact ⟨j + 1, by simp, by omega, by rw [Hs.out]; simpa using hown2, (hk.alloc _).grown hgrow' hlo⟩
    · have hjl : ((cs.length : Int) ≤ (j : Int)) := by omega
      have hje : j = cs.length := by omega
      have Hje := Lib.hid hje
      clear hrt hje hm0 hkj
      go_wp2
      go_ret
      rw [← Hje.out]
      exact ⟨_, rfl, hrow, hk⟩

end Go.Proofs.YthjghcfnopancaaGreat

/-
  The reference's table: End, Open, New.
-/
namespace Go.Proofs.YthjghcfnopancaaGreat
open Go.RowKit Go.Shelf Go.Maps

set_option maxHeartbeats 400000 in
theorem rt_end {base t g cap : Nat} {most : Int} {cs : List Int} {w : World} {k : Nat} (hk : k < cs.length) (h : RT w base t (.slice (some ⟨g, 0, none⟩) cs.length cap) most cs) (h0 : cs.getD k 0 = 0) (c : Int) (hc : c ≠ 0) :
    Calls Tryz.prog 55 #[.pointer (some ⟨t, 0, none⟩), .int .i64 ((k : Int) + 1), .int .i64 c] w fun e w' => e = .returned (.int .i64 0) ∧ Keeps [g] w w' ∧ RT w' base t (.slice (some ⟨g, 0, none⟩) cs.length cap) most (cs.set k c) := by
  obtain ⟨c0, c1⟩ := cells2 h.blk
  obtain ⟨g', cap', e, hb, hg, hcell⟩ := row_cell h.row hk
  simp only [Value.slice.injEq, Option.some.injEq, Addr.mk.injEq, and_true, true_and] at e
  obtain ⟨rfl, rfl⟩ := e
  rw [h0] at hcell
  obtain ⟨hset, hfz⟩ := row_set h.row hk c
  have hlim := h.lim
  have hc0 : (c == 0) = false := by simpa using hc
  have hx := IntWalk.i64_in (k : Int) (by omega)
  have H := Lib.hid h
  have hset := Lib.hid hset
  clear h hc h0
  go_enter Tryz.func55, Tryz.ntmps55
  go_wp2
  go_ret
  refine ⟨rfl, (Keeps.refl _ _).setCell (by simp) _, ?_⟩
  have h := H.out
  exact ⟨(blk_setCell_ne h.blk (by have := h.lt; omega)), by simpa using hset.out, h.lt, by simpa using h.lim⟩

theorem info_errno : (Tryz.prog.info? 26).map (fun i => (i.zero, i.size, i.bytes)) = some (some (.int .i64 0), 1, 8) := by kernel_rfl

set_option maxHeartbeats 800000 in
theorem rt_open_full {base t : Nat} {v : Value} {most : Int} {cs : List Int} {w : World} (h : RT w base t v most cs) (hf : most ≤ (rlive cs cs.length).length) :
    Calls Tryz.prog 50 #[.pointer (some ⟨t, 0, none⟩)] w fun e w' => e = .returned (.tuple #[.int .i64 0, .int .i64 15]) ∧ Keeps [] w w' := by
  have hL : Hid (∀ w', Keeps [] w w' → _) := Lib.hid fun w' (hk : Keeps [] w w') => rt_live (h.keep hk (by simp) (by simp))
  have hc0 : Hid (∀ w', Keeps [] w w' → w'.cell? ⟨t, 0, none⟩ = some (.int .i64 most)) := Lib.hid fun w' k => k.cell (cells2 h.blk).1 (by simp)
  have hc1 : Hid (∀ w', Keeps [] w w' → w'.cell? ⟨t, 1, none⟩ = some v) := Lib.hid fun w' k => k.cell (cells2 h.blk).2 (by simp)
  obtain ⟨a, cap, rfl⟩ := ownsRow_slice h.row
  have d : decide (most ≤ ((rlive cs cs.length).length : Int)) = true := decide_eq_true hf
  have x0 := hc0.out w (by repeat (first | exact Keeps.refl _ _ | assumption | refine Keeps.drew ?_ | refine Keeps.drewN ?_ _ | refine Keeps.alloc ?_ _ | refine Keeps.setCell ?_ (by simp <;> omega) _ | refine Keeps.trans ?_ (by assumption)))
  have x1 := hc1.out w (by repeat (first | exact Keeps.refl _ _ | assumption | refine Keeps.drew ?_ | refine Keeps.drewN ?_ _ | refine Keeps.alloc ?_ _ | refine Keeps.setCell ?_ (by simp <;> omega) _ | refine Keeps.trans ?_ (by assumption)))
  clear h hf
  go_enter Tryz.func50, Tryz.ntmps50
  go_wp2
  first
  | (go_region_with (go_at_call 12; refine (hL.out _ (by repeat (first | exact Keeps.refl _ _ | assumption | refine Keeps.drew ?_ | refine Keeps.drewN ?_ _ | refine Keeps.alloc ?_ _ | refine Keeps.setCell ?_ (by simp <;> omega) _ | refine Keeps.trans ?_ (by assumption)))).mono ?_; rintro e w1 ⟨u, rfl, hrow, hk⟩; obtain ⟨ua, uc, rfl⟩ := ownsRow_slice hrow; have y0 := hc0.out w1 (by repeat (first | exact Keeps.refl _ _ | assumption | refine Keeps.drew ?_ | refine Keeps.drewN ?_ _ | refine Keeps.alloc ?_ _ | refine Keeps.setCell ?_ (by simp <;> omega) _ | refine Keeps.trans ?_ (by assumption))); have y1 := hc1.out w1 (by repeat (first | exact Keeps.refl _ _ | assumption | refine Keeps.drew ?_ | refine Keeps.drewN ?_ _ | refine Keeps.alloc ?_ _ | refine Keeps.setCell ?_ (by simp <;> omega) _ | refine Keeps.trans ?_ (by assumption))); clear hrow))
  | fail
  all_goals go_wp2
  all_goals go_ret2
  all_goals exact ⟨rfl, (by repeat (first | exact Keeps.refl _ _ | assumption | refine Keeps.drew ?_ | refine Keeps.drewN ?_ _ | refine Keeps.alloc ?_ _ | refine Keeps.setCell ?_ (by simp <;> omega) _ | refine Keeps.trans ?_ (by assumption)))⟩

set_option maxRecDepth 100000 in
set_option maxHeartbeats 1000000 in
theorem rt_open_yes {base t : Nat} {v : Value} {most : Int} {cs : List Int} {w : World} (h : RT w base t v most cs) (hf : ((rlive cs cs.length).length : Int) < most) (hl : cs.length < 1000) (hbase : base ≤ w.heap.size) :
    Calls Tryz.prog 50 #[.pointer (some ⟨t, 0, none⟩)] w fun e w' => e = .returned (.tuple #[.int .i64 ((cs.length : Int) + 1), .int .i64 0]) ∧ ∃ v', Keeps (t :: v.ownBlock.toList) w w' ∧ RT w' base t v' most (cs ++ [0]) ∧ (∀ g, v'.ownBlock = some g → v.ownBlock = some g ∨ w.heap.size ≤ g) := by
  have hL : Hid (∀ w', Keeps [] w w' → _) := Lib.hid fun w' (hk : Keeps [] w w') => rt_live (h.keep hk (by simp) (by simp))
  have HK : Hid (∀ w', Keeps [] w w' → RT w' base t v most cs) := Lib.hid fun w' hk => h.keep hk (by simp) (by simp)
  have hc0 : Hid (∀ w', Keeps [] w w' → w'.cell? ⟨t, 0, none⟩ = some (.int .i64 most)) := Lib.hid fun w' k => k.cell (cells2 h.blk).1 (by simp)
  have hc1 : Hid (∀ w', Keeps [] w w' → w'.cell? ⟨t, 1, none⟩ = some v) := Lib.hid fun w' k => k.cell (cells2 h.blk).2 (by simp)
  obtain ⟨a, cap, rfl⟩ := ownsRow_slice h.row
  obtain ⟨i0, hi, hz0, hz1, hz2⟩ := info_parts info_errno
  have d : decide (most ≤ ((rlive cs cs.length).length : Int)) = false := decide_eq_false (by omega)
  have d2 : decide (2147483647 ≤ (cs.length : Int)) = false := decide_eq_false (by omega)
  have htl := ltOf h.blk
  have x0 := hc0.out w (by repeat (first | exact Keeps.refl _ _ | assumption | refine Keeps.drew ?_ | refine Keeps.drewN ?_ _ | refine Keeps.alloc ?_ _ | refine Keeps.setCell ?_ (by simp <;> omega) _ | refine Keeps.trans ?_ (by assumption)))
  have x1 := hc1.out w (by repeat (first | exact Keeps.refl _ _ | assumption | refine Keeps.drew ?_ | refine Keeps.drewN ?_ _ | refine Keeps.alloc ?_ _ | refine Keeps.setCell ?_ (by simp <;> omega) _ | refine Keeps.trans ?_ (by assumption)))
  clear h hf
  go_enter Tryz.func50, Tryz.ntmps50
  go_wp2
  first
  | go_region_with (go_at_call 12; refine (hL.out _ (by repeat (first | exact Keeps.refl _ _ | assumption | refine Keeps.drew ?_ | refine Keeps.drewN ?_ _ | refine Keeps.alloc ?_ _ | refine Keeps.setCell ?_ (by simp <;> omega) _ | refine Keeps.trans ?_ (by assumption)))).mono ?_; rintro e w1 ⟨u, rfl, hrow, hk⟩; obtain ⟨ua, uc, rfl⟩ := ownsRow_slice hrow; have y0 := hc0.out w1 (by repeat (first | exact Keeps.refl _ _ | assumption | refine Keeps.drew ?_ | refine Keeps.drewN ?_ _ | refine Keeps.alloc ?_ _ | refine Keeps.setCell ?_ (by simp <;> omega) _ | refine Keeps.trans ?_ (by assumption))); have y1 := hc1.out w1 (by repeat (first | exact Keeps.refl _ _ | assumption | refine Keeps.drew ?_ | refine Keeps.drewN ?_ _ | refine Keeps.alloc ?_ _ | refine Keeps.setCell ?_ (by simp <;> omega) _ | refine Keeps.trans ?_ (by assumption))); clear hrow)
  | fail
  all_goals simp [Act.put]
  all_goals
    have HR := HK.out w1 (by repeat (first | exact Keeps.refl _ _ | assumption | refine Keeps.drew ?_ | refine Keeps.drewN ?_ _ | refine Keeps.alloc ?_ _ | refine Keeps.setCell ?_ (by simp <;> omega) _ | refine Keeps.trans ?_ (by assumption)))
    have hrow := HR.row
    have hks : w.heap.size ≤ w1.heap.size := hk.size
    have hb1 := ltOf HR.blk
    have htb := HR.lt
    have fr := frees HR.blk
    have HR := Lib.hid HR
    go_wp2_with (at_builtin; refine wpList_append2 _ rfl _ _ 75 rfl base 26 i0 (.int .i64 0) 1 8 Tryz.underlying75 hi hz0 hz1 hz2 rfl (by decide) _ _ _ rfl (hrow.alloc _) ⟨w1.heap.size, 0, none⟩ 1 1 [.int .i64 0] rfl rfl (cell_one_new _ _ _) (by simp [Value.oneCell']) (by simp [maxLen]; omega) (by omega) (by simp; omega) ?_; intro v' w2 hown' hgrow _ hnew; obtain ⟨va, vc, rfl⟩ := ownsRow_slice hown'; (have hbl : w2.heap[t]? = w1.heap[t]? := (hgrow.block t (by simp; omega) (fun e => by have := HR.out.row.lt t e.symm; omega)).trans (((Keeps.refl [] w1).alloc (.cells #[.int .i64 0] 26)).block t hb1 (by simp))); (have z0 := (World.cell?_of_block (a := ⟨t, 0, none⟩) hbl).trans y0); (have z1 := (World.cell?_of_block (a := ⟨t, 1, none⟩) hbl).trans y1); (have zf : ∀ i, w2.frozen? ⟨t, i, none⟩ = false := fun i => (World.frozen?_of_block (a := ⟨t, i, none⟩) hbl).trans (fr i)); have hgrow := Lib.hid hgrow; have hnew := Lib.hid hnew; have hown' := Lib.hid hown'; have hbl := Lib.hid hbl)
    go_ret2
    have hown2 : w2.ownsRow base 26 1 (.slice va (cs.length + 1) vc) (cs.length + 1) (cs.map (Value.int .i64) ++ [.int .i64 0]) := hown'.out
    have hgr : (w1.alloc (.cells #[.int .i64 0] 26)).grownBy w2 (Value.slice a cs.length cap).ownBlock := hgrow.out
    have hnw : ∀ g, (Value.slice va (cs.length + 1) vc).ownBlock = some g → (Value.slice a cs.length cap).ownBlock = some g ∨ (w1.alloc (.cells #[.int .i64 0] 26)).heap.size ≤ g := hnew.out
    obtain ⟨g1, g2, g3, g4, g5⟩ := hgr
    have k1 : Keeps [] w (w1.alloc (.cells #[.int .i64 0] 26)) := (((Keeps.refl [] w).drew).trans hk).alloc _
    have k2 : Keeps (t :: (Value.slice a cs.length cap).ownBlock.toList) w w2 :=
      ⟨by rw [g1]; exact k1.os, by rw [g2]; exact k1.tape, by rw [g3]; exact k1.output, by have := k1.size; omega, fun b hb hn => (g5 b (by have := k1.size; omega) (fun e => hn (by simp [← e]))).trans (k1.block b hb (by simp))⟩
    have hb2 := blk_setCell (hbl.out.trans HR.out.blk) 1 (.slice va (cs.length + 1) vc)
    have hr2 := Go.RowKit.ownsRow_setCell_below hown2 (a := ⟨t, 1, none⟩) htb (.slice va (cs.length + 1) vc)
    have hsz := k1.size
    refine ⟨rfl, _, k2.setCell (by simp) _, ⟨by simpa using hb2, by simpa using hr2, htb, by simp; omega⟩, fun g hg => (hnw g hg).imp id fun h => by omega⟩

end Go.Proofs.YthjghcfnopancaaGreat
