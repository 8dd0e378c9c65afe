/-
  Open of the reference's model: a number is given.
-/
import Derived.Test.YthjghcfnopancaaGreatGk
import Derived.Deep.DeepCutAuto
import Derived.Deep.RegionLaw
namespace Go.Proofs.YthjghcfnopancaaGreat
open Go.RowKit Go.Shelf Go.Maps

/-- append, as one step of a region that draws: its run is laid ahead. -/
theorem step_append_run {P : Program} {ops : Array Oper} {o : Oper} {a : Act} {w w' : World} {v' : Value} {K : Act → World → Prop} {Q : Exit → Act → World → Prop} {E : Prop}
    (hg : o.guard = none) (s x : Operand) (t : TypeId) (hop : o.op = Op.call { callee := Callee.builtin Builtin.append, args := #[s, x], argTypes := #[t, t] }) {vs vx : Value} (hs : a.eval s = vs) (hx : a.eval x = vx)
    (hrun : (Builtin.append_ #[t, t] o.type #[vs, vx]).run P w = .ok v' w') (hK : K (a.put o.dst v') w') :
    if Region.wanted o (yielded ops a.tmps) = true then Oper.wp P o a w K Q else E := by
  have hw : Region.wanted o (yielded ops a.tmps) = true := by simp [Region.wanted, hg]
  rw [if_pos hw]
  subst hs; subst hx
  unfold Oper.wp execOp
  simp only [hop, resolve, invoke, builtin, Sem.run_bind, Sem.run_pure, Result.andThen_ok, List.map_toArray, List.map_cons, List.map_nil, hrun]
  exact hK

theorem info_kn : (Tryz.prog.info? 74).map (fun i => (i.zero, i.size, i.bytes)) = some (some (.agg #[.int .i64 0, .bool false, .int .i64 0, .int .i64 0, .int .i64 0, .int .i64 0, .int .i64 0, .int .i64 0, .int .i64 0]), 9, 72) := by kernel_rfl

theorem RMAt.ne {w : World} {base m t : Nat} {tv lv : Value} {c : Cf} {cs : List Int} {ks : List Kn} (h : RMAt w base m t tv lv c cs ks) : m ≠ t := by
  intro e
  have h1 := h.blk
  rw [e, h.tbl.blk] at h1
  simp at h1

theorem cells_new {w : World} {cs : Array Value} {T : TypeId} {j : Nat} {u : Value} (h : cs.toList[j]? = some u) : (w.alloc (.cells cs T)).cell? ((⟨w.heap.size, 0, none⟩ : Addr).add j) = some u := by
  have h' : cs[j]? = some u := by simpa using h
  have := cellOf (heap_new w (.cells cs T)) j h'
  by_cases h0 : j = 0
  · subst h0; simpa [Addr.add] using this
  · simpa [Addr.add, h0] using this

theorem kcells_snoc (ks : List Kn) (k : Kn) : kcells (ks ++ [k]) = kcells ks ++ k.cells := by simp [kcells]

/-- What Open answers where the quota lets it. -/
def RmOpened (base m t : Nat) (tv lv : Value) (c : Cf) (cs : List Int) (ks : List Kn) (w : World) (e : Ending) (w' : World) : Prop :=
  (c.sessions ≤ ((rlive cs cs.length).length : Int) ∧ e = .returned (.tuple #[.int .i64 0, .int .i64 15]) ∧ Keeps [] w w') ∨
  (((rlive cs cs.length).length : Int) < c.sessions ∧ e = .returned (.tuple #[.int .i64 ((cs.length : Int) + 1), .int .i64 0]) ∧
      ∃ tv' lv', Keeps (m :: t :: (tv.ownBlock.toList ++ lv.ownBlock.toList)) w w' ∧ RMAt w' base m t tv' lv' c (cs ++ [0]) (ks ++ [⟨0, false, ⟨0, 0, 0, c.room, 0, 0, 0⟩⟩]) ∧ (∀ g, tv'.ownBlock = some g → tv.ownBlock = some g ∨ w.heap.size ≤ g) ∧ (∀ g, lv'.ownBlock = some g → lv.ownBlock = some g ∨ w.heap.size ≤ g))

set_option maxRecDepth 100000 in
set_option maxHeartbeats 2000000 in
theorem rm_open_yes {w : World} {base m t : Nat} {tv lv : Value} {c : Cf} {cs : List Int} {ks : List Kn} (h : RMAt w base m t tv lv c cs ks) (hq : 0 ≤ c.quota ∧ c.quota ≤ 64) (hf : ¬ c.frames < (((rlive cs cs.length).length : Int) + 1) * c.quota)
    (hl : cs.length < 1000) (hbase : base ≤ w.heap.size) :
    Calls Tryz.prog 26 #[.pointer (some ⟨m, 0, none⟩)] w (RmOpened base m t tv lv c cs ks w) := by
  have hL : Hid (∀ w', Keeps [] w w' → _) := Lib.hid fun w' (hk : Keeps [] w w') => rt_live (h.on hk).tbl
  have H := Lib.hid h
  obtain ⟨la, lc, rfl⟩ := ownsRow_slice h.row
  obtain ⟨q0, q1, q2, q3, q4, q5, q6⟩ := cells7 h.blk
  have hle := rlive_le cs cs.length
  have hlim := h.tbl.lim
  obtain ⟨n, hn⟩ : ∃ n, (rlive cs cs.length).length = n := ⟨_, rfl⟩
  have hm1 : 0 ≤ ((n : Int) + 1) * c.quota := Int.mul_nonneg (by omega) hq.1
  have hm2 : ((n : Int) + 1) * c.quota ≤ 1001 * 64 := Int.mul_le_mul (by omega) hq.2 hq.1 (by omega)
  have hx : IntKind.i64.wrap (((n : Int) + 1) * c.quota) = ((n : Int) + 1) * c.quota := IntWalk.i64_in _ (by omega)
  have hx1 : IntKind.i64.wrap ((n : Int) + 1) = (n : Int) + 1 := IntWalk.i64_in _ (by omega)
  rw [hn] at hf
  have d : decide (c.frames < ((n : Int) + 1) * c.quota) = false := decide_eq_false hf
  clear h hf
  go_enter Tryz.func26, Tryz.ntmps26
  go_upto_region 1 with fail
  go_cut [24] (fun s24 wx => s24 = .bool false ∧ Keeps [] w wx)
  case first =>
    go_region_with (go_at_call 12; refine (hL.out _ (by repeat (first | exact Keeps.refl _ _ | assumption | refine Keeps.drew ?_ | refine Keeps.drewN ?_ _ | refine Keeps.alloc ?_ _ | refine Keeps.setCell ?_ (by simp <;> omega) _ | refine Keeps.trans ?_ (by assumption)))).mono ?_; rintro e w1 ⟨u, rfl, hrow, hk⟩; obtain ⟨ua, uc, rfl⟩ := ownsRow_slice hrow; rw [hn]; obtain ⟨r0, r1, r2, r3, r4, r5, r6⟩ := cells7 (H.out.on (w' := w1) (by repeat (first | exact Keeps.refl _ _ | assumption | refine Keeps.drew ?_ | refine Keeps.drewN ?_ _ | refine Keeps.alloc ?_ _ | refine Keeps.setCell ?_ (by simp <;> omega) _ | refine Keeps.trans ?_ (by assumption)))).blk; clear hrow)
    all_goals (go_wp2_with fail; go_meet; exact ⟨rfl, (by repeat (first | exact Keeps.refl _ _ | assumption | refine Keeps.drew ?_ | refine Keeps.drewN ?_ _ | refine Keeps.alloc ?_ _ | refine Keeps.setCell ?_ (by simp <;> omega) _ | refine Keeps.trans ?_ (by assumption)))⟩)
  case rest =>
    obtain ⟨rfl, hk⟩ := hcut
    clear q0 q1 q2 q3 q4 q5 q6 hx hx1 d hm1 hm2
    have H1 := H.out.on hk
    obtain ⟨q0, q1, q2, q3, q4, q5, q6⟩ := cells7 H1.blk
    have H1 := Lib.hid H1
    by_cases hT : c.sessions ≤ ((rlive cs cs.length).length : Int)
    · have hO := Lib.hid (rt_open_full H1.out.tbl hT)
      have HT := Lib.hid hT
      clear hT
      go_wp2_with (go_at_call 50; refine (hO.out).mono ?_; rintro e w1 ⟨rfl, hk1⟩)
      go_ret2
      exact .inl ⟨HT.out, rfl, (by repeat (first | exact Keeps.refl _ _ | assumption | refine Keeps.drew ?_ | refine Keeps.drewN ?_ _ | refine Keeps.alloc ?_ _ | refine Keeps.setCell ?_ (by simp <;> omega) _ | refine Keeps.trans ?_ (by assumption)))⟩
    have hT' : ((rlive cs cs.length).length : Int) < c.sessions := by omega
    have hO : Hid (∀ w', Keeps [] w w' → _) := Lib.hid fun w' (hk : Keeps [] w w') => rt_open_yes (H.out.on hk).tbl hT' hl (Nat.le_trans hbase hk.size)
    have HT := Lib.hid hT'
    clear hT hT'
    go_wp2_with (go_at_call 50; refine (hO.out wc hk).mono ?_; rintro e w1 ⟨rfl, tv', hk1, hT1, hn1⟩; have hT1 := Lib.hid hT1; have hn1 := Lib.hid hn1)
    have hms := H1.out.lt
    have hb1 : w1.heap[m]? = _ := hk1.blk H1.out.blk (by simp only [List.mem_cons, Option.mem_toList, not_or]; exact ⟨H1.out.ne, fun e => by have := (H1.out.tbl.row.lt m e).1; omega⟩)
    have hr1 : w1.ownsRow base 74 9 (.slice la ks.length lc) ks.length (kcells ks) := ownsRow_of H1.out.row (fun g hg => hk1.block g (H1.out.row.lt g hg).2 (by
      simp only [List.mem_cons, Option.mem_toList, not_or]; exact ⟨fun e => by have := (H1.out.row.lt g hg).1; have := H1.out.tbl.lt; omega, fun e => H1.out.apart e hg⟩))
    obtain ⟨p0, p1, p2, p3, p4, p5, p6⟩ := cells7 hb1
    have pf := frees hb1
    have hmb := ltOf hb1
    have hs1 := hk1.size
    obtain ⟨i0, hi, hz0, hz1, hz2⟩ := info_parts info_kn
    obtain ⟨v', w2, hap, hown', hgrow, -, hnew⟩ := run_append2 (P := Tryz.prog) ((w1.alloc (.cells #[.int .i64 0, .bool false, .int .i64 0, .int .i64 0, .int .i64 0, .int .i64 c.room, .int .i64 0, .int .i64 0, .int .i64 0] 74)).drew) base 44 44 74 i0 _ 9 72 Tryz.underlying44 hi hz0 hz1 hz2 rfl (by decide) (.slice la ks.length lc) ks.length _ (hr1.alloc _).drew ⟨w1.heap.size, 0, none⟩ 1 1 [.int .i64 0, .bool false, .int .i64 0, .int .i64 0, .int .i64 0, .int .i64 c.room, .int .i64 0, .int .i64 0, .int .i64 0] rfl (fun j u hj => cells_new (cs := #[.int .i64 0, .bool false, .int .i64 0, .int .i64 0, .int .i64 0, .int .i64 c.room, .int .i64 0, .int .i64 0, .int .i64 0]) hj) (by simp [Value.oneCell']) (by have := H1.out.len; simp [maxLen]; omega) (by have := H1.out.len; omega) (by have := hk.size; simp; omega)
    obtain ⟨va, vc, rfl⟩ := ownsRow_slice hown'
    have hbl : w2.heap[m]? = w1.heap[m]? := (hgrow.block m (by simp; omega) (fun e => by have := (H1.out.row.lt m e.symm).1; omega)).trans (((Keeps.refl [] w1).alloc _).block m hmb (by simp))
    have z6 := (World.cell?_of_block (a := ⟨m, 6, none⟩) hbl).trans p6
    have zf := (World.frozen?_of_block (a := ⟨m, 6, none⟩) hbl).trans (pf 6)
    have hap := hap
    have F : Hid (∃ tv' lv', Keeps (m :: t :: (tv.ownBlock.toList ++ (Value.slice la ks.length lc).ownBlock.toList)) w (w2.setCell ⟨m, 6, none⟩ (.slice va (ks.length + 1) vc)) ∧ RMAt (w2.setCell ⟨m, 6, none⟩ (.slice va (ks.length + 1) vc)) base m t tv' lv' c (cs ++ [0]) (ks ++ [⟨0, false, ⟨0, 0, 0, c.room, 0, 0, 0⟩⟩]) ∧ (∀ g, tv'.ownBlock = some g → tv.ownBlock = some g ∨ w.heap.size ≤ g) ∧ (∀ g, lv'.ownBlock = some g → (Value.slice la ks.length lc).ownBlock = some g ∨ w.heap.size ≤ g)) := Lib.hid (by
      have hgl : ∀ b, b < w1.heap.size → b ≠ m → (Value.slice la ks.length lc).ownBlock ≠ some b → (w2.setCell ⟨m, 6, none⟩ (.slice va (ks.length + 1) vc)).heap[b]? = w1.heap[b]? := fun b hb h1 h2 =>
        (Below.heap_setCell _ _ _ _ (fun e => h1 (by simpa using e))).trans ((hgrow.block b (by simp; omega) (fun e => h2 e.symm)).trans (((Keeps.refl [] w1).alloc _).block b hb (by simp)))
      have h1l := hT1.out.lt
      have hlg := fun g hg => (H1.out.row.lt g hg)
      obtain ⟨g1, g2, g3, g4, g5⟩ := hgrow
      have k1 : Keeps [] w1 ((w1.alloc (.cells #[.int .i64 0, .bool false, .int .i64 0, .int .i64 0, .int .i64 0, .int .i64 c.room, .int .i64 0, .int .i64 0, .int .i64 0] 74)).drew) := ((Keeps.refl [] w1).alloc _).drew
      have k2 : Keeps (Value.slice la ks.length lc).ownBlock.toList w1 w2 := ⟨by rw [g1]; exact k1.os, by rw [g2]; exact k1.tape, by rw [g3]; exact k1.output, by have := k1.size; omega, fun b hb hn => (g5 b (by have := k1.size; omega) (fun e => hn (by simp [← e]))).trans (k1.block b hb (by simp))⟩
      have hLL : ∀ x, x ∈ (Value.slice la ks.length lc).ownBlock.toList → x ∈ (m :: t :: (tv.ownBlock.toList ++ (Value.slice la ks.length lc).ownBlock.toList)) := fun x hx => List.mem_cons_of_mem _ (List.mem_cons_of_mem _ (List.mem_append.2 (.inr hx)))
      have k3 : Keeps (m :: t :: (tv.ownBlock.toList ++ (Value.slice la ks.length lc).ownBlock.toList)) w w1 := (hk.mono (by simp)).trans (hk1.mono (fun x hx => by
        rcases List.mem_cons.1 hx with rfl | hx
        · simp
        · exact List.mem_cons_of_mem _ (List.mem_cons_of_mem _ (List.mem_append.2 (.inl hx)))))
      refine ⟨tv', .slice va (ks.length + 1) vc, ((k3.trans (k2.mono hLL)).setCell (by simp) _), ?_, fun g hg => (hn1.out g hg).imp id (fun h => Nat.le_trans hk.size h), fun g hg => (hnew g hg).imp id (fun h => by have := hk.size; have := hk1.size; simp at h; omega)⟩
      have ht1 : t < w1.heap.size := ltOf hT1.out.blk
      refine ⟨by simpa using blk_setCell (hbl.trans hb1) 6 (.slice va (ks.length + 1) vc), ⟨(hgl t ht1 (fun e => H1.out.ne e.symm) (fun e => by have := (hlg t e).1; omega)).trans hT1.out.blk, ownsRow_of hT1.out.row (fun g hg => hgl g (hT1.out.row.lt g hg).2 (fun e => by have := (hT1.out.row.lt g hg).1; omega) (fun e => ?_)), h1l, by simp; omega⟩, ?_, by have := H1.out.len; simp; omega, hms⟩
      · rcases hn1.out g hg with h3 | h3
        · exact H1.out.apart h3 e
        · have := (hlg g e).2; omega
      · have hr2 := Go.RowKit.ownsRow_setCell_below hown' (a := ⟨m, 6, none⟩) hms (.slice va (ks.length + 1) vc)
        rw [kcells_snoc, show (ks ++ [(⟨0, false, ⟨0, 0, 0, c.room, 0, 0, 0⟩⟩ : Kn)]).length = ks.length + 1 by simp]
        exact hr2)
    clear hown' hgrow hnew hbl
    go_region_law (refine step_append_run rfl (.tmp 40) (.tmp 48) 44 rfl (by simp [Act.eval]) (by simp [Act.eval]) hap ?_)
    all_goals go_wp2
    all_goals go_ret2
    all_goals exact .inr ⟨HT.out, rfl, F.out⟩

end Go.Proofs.YthjghcfnopancaaGreat
