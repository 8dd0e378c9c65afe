/-
  Open and Free of the reference's model, told by the state.
-/
import Derived.Test.YthjghcfnopancaaGreatGm
import Derived.Test.YthjghcfnopancaaGreatGu
import Derived.Test.YthjghcfnopancaaGreatGn
import Derived.Test.YthjghcfnopancaaGreatGk
import Derived.Test.YthjghcfnopancaaGreatGj
namespace Go.Proofs.YthjghcfnopancaaGreat
open Go.RowKit Go.Shelf Go.Maps

theorem Rel.count {S : MS} {cs : List Int} {ks : List Kn} (h : Rel S cs ks) (hV : Valid S) : S.live.length = (rlive cs cs.length).length := by
  rw [← h.ids, ← hV.live]
  simp

theorem MineR.open_full {n0 : Pl} {w : World} {m t : Nat} {S : MS} (h : MineR n0 w m t S) (hV : Valid S) (hf : S.c.frames < ((S.live.length : Int) + 1) * S.c.quota) :
    Calls Tryz.prog 26 #[.pointer (some ⟨m, 0, none⟩)] w fun e w' => e = .returned (.tuple #[.int .i64 0, .int .i64 15]) ∧ MineR n0 w' m t S ∧ Above n0 w w' := by
  obtain ⟨base, tv, lv, cs, ks, h1, h2, h3, h4, h5, h6⟩ := _root_.id h
  rw [h2.count hV] at hf
  have := hV.ok.q
  have := hV.ok.f
  exact (rm_open_full h1 (by omega) hf).mono fun e w' q => ⟨q.1, h.on q.2, .of q.2⟩

theorem MineR.opens {n0 : Pl} {w : World} {m t : Nat} {S : MS} (h : MineR n0 w m t S) (hV : Valid S) (hlim : S.l.length < 1000) :
    Calls Tryz.prog 26 #[.pointer (some ⟨m, 0, none⟩)] w fun e w' => e = .returned (.tuple #[.int .i64 S.opens.1, .int .i64 S.opens.2.1]) ∧ MineR n0 w' m t S.opens.2.2 ∧ Above n0 w w' := by
  by_cases h1 : S.c.frames < ((S.live.length : Int) + 1) * S.c.quota
  · have e : S.opens = (0, 15, S) := by simp only [MS.opens, if_pos h1]
    rw [e]
    exact h.open_full hV h1
  · obtain ⟨base, tv, lv, cs, ks, r1, r2, r3, r4, r5, r6⟩ := _root_.id h
    have hq := hV.ok.q
    have hf := hV.ok.f
    have hcl : cs.length < 1000 := by rw [r2.l, numsFrom_length] at hlim; exact hlim
    have h1' := h1
    rw [r2.count hV] at h1'
    refine (rm_open_yes r1 (by omega) h1' hcl r6.le).mono ?_
    have hfew := hV.few
    rw [r2.ids] at hfew
    rintro e w' (⟨hs, he, hk⟩ | ⟨hs, he, tv', lv', hk, hR, hT1, hL1⟩)
    · have e' : S.opens = (0, 15, S) := by
        simp only [MS.opens, if_neg h1]
        rw [if_pos (by rw [r2.ids]; omega)]
      rw [e']
      exact ⟨he, h.on hk, .of hk⟩
    · have e' : S.opens = (S.last + 1, 0, S.more) := by
        simp only [MS.opens, if_neg h1]
        rw [if_neg (by rw [r2.ids]; omega)]
        rfl
      rw [e']
      refine ⟨by rw [he, r2.last], ⟨base, tv', lv', _, _, hR, r2.more, r3, r4, ⟨r5.1, fun g hg hm => by rcases hT1 g hg with h | h; exact r5.2.1 g h hm; have := r6.x g hm; omega, fun g hg hm => by rcases hL1 g hg with h | h; exact r5.2.2 g h hm; have := r6.x g hm; omega⟩, r6.up hk.size⟩, ⟨_, fun b hb => ?_, hk⟩⟩
      simp only [List.mem_cons, List.mem_append, Option.mem_toList] at hb
      rcases hb with rfl | rfl | hb | hb
      · exact r3
      · exact r4
      · exact ⟨Nat.le_trans r5.1 (r1.tbl.row.lt b hb).1, r5.2.1 b hb⟩
      · exact ⟨Nat.le_trans r5.1 (r1.row.lt b hb).1, r5.2.2 b hb⟩

theorem MineR.free {n0 : Pl} {w : World} {m t : Nat} {S : MS} (h : MineR n0 w m t S) (hV : Valid S) (hN : Known S) :
    Calls Tryz.prog 14 #[.pointer (some ⟨m, 0, none⟩)] w fun e w' => e = .returned (.int .i64 S.free) ∧ MineR n0 w' m t S ∧ Above n0 w w' := by
  obtain ⟨base, tv, lv, cs, ks, r1, r2, r3, r4, r5, r6⟩ := _root_.id h
  have hq := hV.ok.q
  have hf := hV.ok.f
  exact (rm_free r1 (r2.lives hV) (fun p hp => by have := hN.frames p hp; omega) hf).mono fun e w' q => ⟨q.1, h.on q.2, .of q.2⟩

end Go.Proofs.YthjghcfnopancaaGreat

/-
  Press of the reference's model.
-/
namespace Go.Proofs.YthjghcfnopancaaGreat
open Go.RowKit Go.Shelf Go.Maps

/-- Some are evicted. -/
def rset (cs : List Int) (ids : List Int) : List Int := ids.foldl (fun cs id => cs.set (id - 1).toNat 22) cs
theorem rset_snoc (cs ids : List Int) (id : Int) : rset cs (ids ++ [id]) = (rset cs ids).set (id - 1).toNat 22 := by simp [rset]
theorem rset_len : ∀ (ids cs : List Int), (rset cs ids).length = cs.length
  | [], _ => rfl
  | a :: t, cs => by
    have := rset_len t (cs.set (a - 1).toNat 22)
    simp only [rset, List.foldl_cons] at this ⊢
    rw [this, List.length_set]
theorem rset_get {i : Nat} : ∀ (ids cs : List Int), (∀ id ∈ ids, 1 ≤ id) → ((i : Int) + 1) ∉ ids → (rset cs ids).getD i 0 = cs.getD i 0
  | [], _, _, _ => rfl
  | a :: t, cs, h1, h2 => by
    simp only [List.mem_cons, not_or] at h2
    have ih := rset_get t (cs.set (a - 1).toNat 22) (fun id hid => h1 id (List.mem_cons_of_mem _ hid)) h2.2
    have ha := h1 a (by simp)
    have hne : (a - 1).toNat ≠ i := by omega
    simp only [rset, List.foldl_cons] at ih ⊢
    rw [ih]
    rw [List.getD_eq_getElem?_getD, List.getD_eq_getElem?_getD, List.getElem?_set_ne hne]

/-- Who holds how many. -/
def holdOf (L : List (Int × Kn)) : List (Int × Int) := L.map fun p => (p.1, p.2.s.frames)
/-- Whom Press evicts. -/
def victimsOf (c : Cf) (L : List (Int × Kn)) (want : Int) : List Int := PL.plan want (PL.srt (PL.some' (holdOf L))) (max 0 (c.frames - sumF L))

theorem victimsOf_mem {c : Cf} {L : List (Int × Kn)} {want id : Int} (h : id ∈ victimsOf c L want) : id ∈ L.map (·.1) := by
  have h1 := (PL.plan_mem want (PL.srt (PL.some' (holdOf L))) (max 0 (c.frames - sumF L))).subset h
  have h2 := ((PL.srt_perm (PL.some' (holdOf L))).map (·.1)).subset h1
  obtain ⟨p, hp, rfl⟩ := List.mem_map.1 h2
  obtain ⟨q, hq, rfl⟩ := List.mem_map.1 (PL.mem_some.1 hp).1
  exact List.mem_map.2 ⟨q, hq, rfl⟩
theorem holdOf_keys (L : List (Int × Kn)) : (holdOf L).map (·.1) = L.map (·.1) := by simp [holdOf]
theorem victimsOf_nodup {c : Cf} {L : List (Int × Kn)} (hn : (L.map (·.1)).Nodup) (want : Int) : (victimsOf c L want).Nodup := by
  rw [← holdOf_keys] at hn
  have h2 : ((PL.some' (holdOf L)).map (·.1)).Nodup := hn.sublist (List.Sublist.map _ List.filter_sublist)
  have h3 : ((PL.srt (PL.some' (holdOf L))).map (·.1)).Nodup := (((PL.srt_perm (PL.some' (holdOf L))).map (·.1)).nodup_iff).2 h2
  exact h3.sublist (PL.plan_mem want _ _).sublist
theorem holdOf_ok {cs : List Int} {ks : List Kn} {L : List (Int × Kn)} (hL : RLive cs ks L) (hb : ∀ p ∈ L, 0 ≤ p.2.s.frames ∧ p.2.s.frames ≤ 64) (hn : (L.map (·.1)).Nodup) (hl : L.length ≤ 64) (hcs : cs.length ≤ 1000) : HOk (holdOf L) := by
  refine ⟨by simpa [holdOf] using hl, fun p hp => ?_, fun p hp => ?_, by rw [holdOf_keys]; exact hn⟩
  · obtain ⟨q, hq, rfl⟩ := List.mem_map.1 hp
    obtain ⟨i, h1, -, h3, -⟩ := hL.get q hq
    simp only; omega
  · obtain ⟨q, hq, rfl⟩ := List.mem_map.1 hp
    exact hb q hq

set_option maxRecDepth 100000 in
set_option maxHeartbeats 2000000 in
theorem rm_press_no {w : World} {base m t : Nat} {tv lv : Value} {c : Cf} {cs : List Int} {ks : List Kn} (h : RMAt w base m t tv lv c cs ks) (want : Int) (hn : ¬ (0 ≤ want ∧ want ≤ c.frames)) :
    Calls Tryz.prog 38 #[.pointer (some ⟨m, 0, none⟩), .int .i64 want] w fun e w' => e = .returned (.tuple #[.slice none 0 0, .int .i64 3]) ∧ Keeps [] w w' := by
  obtain ⟨q0, q1, q2, q3, q4, q5, q6⟩ := cells7 h.blk
  have d := decide_eq_false hn
  clear h hn
  go_enter Tryz.func38, Tryz.ntmps38
  go_wp2_with (go_at_call 18; refine (rwithin _ _ _ _).mono ?_; rintro e w' ⟨rfl, rfl⟩)
  go_ret2
  exact ⟨rfl, (by repeat (first | exact Keeps.refl _ _ | assumption | refine Keeps.drew ?_ | refine Keeps.drewN ?_ _ | refine Keeps.alloc ?_ _ | refine Keeps.setCell ?_ (by simp <;> omega) _ | refine Keeps.trans ?_ (by assumption)))⟩

/-- What Press leaves. -/
def RmPressed (base m t : Nat) (tv lv : Value) (c : Cf) (cs : List Int) (ks : List Kn) (out : List Int) (w : World) (e : Ending) (w' : World) : Prop :=
  ∃ v, e = .returned (.tuple #[v, .int .i64 0]) ∧ w'.ownsRow w.heap.size 3 1 v out.length (out.map (Value.int .i64)) ∧ Keeps tv.ownBlock.toList w w' ∧ RMAt w' base m t tv lv c (rset cs out) ks

set_option maxRecDepth 100000 in
set_option maxHeartbeats 4000000 in
theorem rm_press {w : World} {base m t : Nat} {tv lv : Value} {c : Cf} {cs : List Int} {ks : List Kn} (h : RMAt w base m t tv lv c cs ks) {L : List (Int × Kn)} (hL : RLive cs ks L) (hb : ∀ p ∈ L, 0 ≤ p.2.s.frames ∧ p.2.s.frames ≤ 64) (hc : 1 ≤ c.frames ∧ c.frames ≤ 64)
    (hn : (L.map (·.1)).Nodup) (hl : L.length ≤ 64) (want : Int) (hw : 0 ≤ want ∧ want ≤ c.frames) :
    Calls Tryz.prog 38 #[.pointer (some ⟨m, 0, none⟩), .int .i64 want] w (RmPressed base m t tv lv c cs ks (victimsOf c L want) w) := by
  obtain ⟨q0, q1, q2, q3, q4, q5, q6⟩ := cells7 h.blk
  have d := decide_eq_true hw
  have hV : Hid (∀ w', Keeps [] w w' → _) := Lib.hid fun w' (hk : Keeps [] w w') => rt_live (h.on hk).tbl
  have hFr : Hid (∀ w', Keeps [] w w' → _) := Lib.hid fun w' (hk : Keeps [] w w') => rm_free (h.on hk) hL hb hc
  have H := Lib.hid h
  have HL := Lib.hid hL
  have HB := Lib.hid hb
  have hlim := h.tbl.lim
  have hlen := h.len
  have hkl : ks.length ≤ 1000 := by omega
  have hlen := Lib.hid hlen
  obtain ⟨i0, hi, hz0, hz1, hz2⟩ := info_parts info_holder
  clear h hL hb
  go_enter Tryz.func38, Tryz.ntmps38
  go_wp2_with (first
    | (go_at_call 18; refine (rwithin _ _ _ _).mono ?_; rintro e w' ⟨rfl, rfl⟩)
    | (go_at_call 12; refine (hV.out _ (by repeat (first | exact Keeps.refl _ _ | assumption | refine Keeps.drew ?_ | refine Keeps.drewN ?_ _ | refine Keeps.alloc ?_ _ | refine Keeps.setCell ?_ (by simp <;> omega) _ | refine Keeps.trans ?_ (by assumption)))).mono ?_; rintro e w1 ⟨u, rfl, hrow, hk⟩; rw [HL.out.ids] at hrow; obtain ⟨la, lcap, rfl, hr⟩ := live_row hrow; have hr := Lib.hid hr; clear hrow))
  go_loopg [6, 8] L.length (fun k s6 s8 wr => ∃ j : Nat, s8 = .int .i64 j ∧ k + j = L.length ∧ Keeps [] w1 wr ∧ wr.ownsRow w1.heap.size 93 2 s6 (holdOf (L.take j)).length (hcells (holdOf (L.take j))) ∧ (j = 0 → s6 = .slice none 0 0))
  case atStart => exact ⟨0, rfl, by omega, Keeps.refl _ _, World.ownsRow_nil _ _ _ _, fun _ => rfl⟩
  case round =>
    obtain ⟨j, rfl, hkj, hkr, hrow, hnil⟩ := hrel
    by_cases hj : j < L.length
    · obtain ⟨p, hp⟩ : ∃ p, L[j]? = some p := ⟨_, List.getElem?_eq_getElem hj⟩
      obtain ⟨g, rfl, hg, cg⟩ := hr.out j p hp
      have cg := hkr.cell cg (by simp)
      obtain ⟨i, e1, e2, e3, e4⟩ := HL.out.get p (List.mem_of_getElem? hp)
      have HR := H.out.on (hk.trans hkr)
      obtain ⟨q0, q1, q2, q3, q4, q5, q6⟩ := cells7 HR.blk
      obtain ⟨g', cap', e, -, -, hcell, hfz⟩ := krow_cell HR.row e2
      subst e
      have r6 : wr.cell? ⟨g', i * 9 + 2 + 4, none⟩ = some (.int .i64 p.2.s.frames) := hcell 6 _ rfl
      have hs : holdOf (L.take (j + 1)) = holdOf (L.take j) ++ [(p.1, p.2.s.frames)] := by
        rw [List.take_succ_eq_append_getElem hj]
        have : L[j] = p := by rw [List.getElem?_eq_getElem hj] at hp; simpa using hp
        simp [holdOf, this]
      have hw2 : IntKind.i64.wrap (i : Int) = (i : Int) := IntWalk.i64_in (i : Int) (by have := hlen.out; omega)
      have hik : i < ks.length := by have := hlen.out; omega
      have hik2 : i < cs.length := e3
      have hjl : (holdOf (L.take j)).length = j := by simp [holdOf]; omega
      rw [hjl] at hrow
      obtain ⟨sa, sc, rfl⟩ := ownsRow_slice hrow
      rw [e1] at cg
      obtain ⟨v', w2, hap, hown', hgrow, -, hnew⟩ := run_append2 (P := Tryz.prog) ((wr.alloc (.cells #[.int .i64 ((i : Int) + 1), .int .i64 p.2.s.frames] 93)).drew) w1.heap.size 91 91 93 i0 _ 2 16 Tryz.underlying91 hi hz0 hz1 hz2 rfl (by decide) (.slice sa j sc) j _ (hrow.alloc _).drew ⟨wr.heap.size, 0, none⟩ 1 1 [.int .i64 ((i : Int) + 1), .int .i64 p.2.s.frames] rfl
        (fun j u hj => cells_new (cs := #[.int .i64 ((i : Int) + 1), .int .i64 p.2.s.frames]) hj) (by simp [Value.oneCell']) (by simp [maxLen]; omega) (by omega) (by have := hk.size; have := hkr.size; simp; omega)
      have Hs := Lib.hid hs
      have hcell := Lib.hid hcell
      have HR := Lib.hid HR
      have hown' := Lib.hid hown'
      have hgrow := Lib.hid hgrow
      have hrow := Lib.hid hrow
      have E1 := Lib.hid e1
      have Hjl := Lib.hid hjl
      clear hs hp e1 e2 e3 e4 hnew hnil hjl
      go_wp2
      go_region_law (refine step_append_run rfl (.tmp 32) (.tmp 51) 91 rfl (by simp [Act.eval]) (by simp [Act.eval]) hap ?_)
      all_goals go_wp2
      all_goals go_roundg (gk - 1)
      all_goals first
        | omega
        | (refine ⟨j + 1, by simp, by omega, ((hkr.alloc _).drew).grown (v := .slice sa j sc) hgrow.out (fun g hg => (hrow.out.lt g hg).1), ?_, by omega⟩; rw [Hs.out, List.length_append, hcells_snoc, Hjl.out, E1.out]; exact hown'.out)
    · have hjl : ((L.length : Int) ≤ (j : Int)) := by omega
      have hje : j = L.length := by omega
      rw [hje, List.take_length] at hrow
      have hll : (holdOf L).length = L.length := by simp [holdOf]
      obtain ⟨sa, sc, hsv⟩ := ownsRow_slice hrow
      have hnil2 : holdOf L = [] → sa = none ∧ sc = 0 := fun e => by
        have : L = [] := by simpa [holdOf] using e
        subst this
        have := hnil (by simpa using hje)
        rw [hsv] at this
        simp only [Value.slice.injEq] at this
        exact ⟨this.1, this.2.2⟩
      rw [hll] at hsv hrow
      have hkW : Keeps [] w wr := hk.trans hkr
      have hP : Hid (∀ w', Keeps [] wr w' → _) := Lib.hid fun w' (hk : Keeps [] wr w') => r28_plan ((hrow_addr (hs := holdOf L) (a := sa) (n := (holdOf L).length) (cap := sc) (by rw [hll, ← hsv]; exact hrow)).on hk) (holdOf_ok HL.out HB.out hn hl hlim) hnil2 (max 0 (c.frames - sumF L)) want ⟨Int.le_max_left _ _, by have := (sumF_take_bound L HB.out L.length).1; rw [List.take_length] at this; omega⟩ (by omega)
      rw [hll] at hP
      have hP : Hid (∀ w', Keeps [] wr w' → Calls Tryz.prog 59 #[.slice sa L.length sc, .int .i64 (max 0 (c.frames - sumF L)), .int .i64 want] w' (Planned (victimsOf c L want) w')) := hP
      subst hsv
      clear hje hkj hrow hnil hnil2
      go_wp2_with (first
        | (go_at_call 14; refine (hFr.out _ hkW).mono ?_; rintro e w2 ⟨rfl, hk2⟩)
        | (go_at_call 59; refine (hP.out w2 hk2).mono ?_; rintro e w3 ⟨v, f, rfl, hout, hk3⟩; obtain ⟨oa, oc, rfl⟩ := ownsRow_slice hout; have hout := Lib.hid hout))
      have hk3' : Keeps [] w w3 := (hkW.trans hk2).trans hk3
      have hws : w.heap.size ≤ w2.heap.size := (hkW.trans hk2).size
      have hvm : ∀ id ∈ victimsOf c L want, id ∈ L.map (·.1) := fun id hid => victimsOf_mem hid
      have hvn := victimsOf_nodup (c := c) hn want
      have hvm := Lib.hid hvm
      have hvn := Lib.hid hvn
      have hvl : (victimsOf c L want).length ≤ 64 := by
        have h1 := (PL.plan_mem want (PL.srt (PL.some' (holdOf L))) (max 0 (c.frames - sumF L))).length_le
        have h2 := (PL.srt_perm (PL.some' (holdOf L))).length_eq
        have h3 : (PL.some' (holdOf L)).length ≤ (holdOf L).length := List.length_filter_le _ _
        simp only [List.length_map] at h1
        show (PL.plan want (PL.srt (PL.some' (holdOf L))) (max 0 (c.frames - sumF L))).length ≤ 64
        omega
      generalize victimsOf c L want = out at *
      clear hP hFr
      go_loopg [12] out.length (fun k s12 wr => ∃ j : Nat, s12 = .int .i64 j ∧ k + j = out.length ∧ Keeps tv.ownBlock.toList w3 wr ∧ RMAt wr base m t tv lv c (rset cs (out.take j)) ks)
      case atStart => exact ⟨0, rfl, by omega, Keeps.refl _ _, H.out.on hk3'⟩
      case round =>
        obtain ⟨j2, rfl, hkj2, hkr2, HR⟩ := hrel
        have hrow3 : wr.ownsRow w2.heap.size 3 1 (.slice oa out.length oc) out.length (out.map (Value.int .i64)) := ownsRow_of hout.out (fun g hg => hkr2.block g (hout.out.lt g hg).2 (fun e => by
          have h1 := (hout.out.lt g hg).1
          have h2 := (H.out.tbl.row.lt g (by simpa using e)).2
          omega))
        by_cases hj2 : j2 < out.length
        · obtain ⟨g2, cap2, e2, -, -, cid⟩ := row_cell hrow3 hj2
          simp only [Value.slice.injEq] at e2
          obtain ⟨rfl, -, rfl⟩ := e2
          obtain ⟨id, hid⟩ : ∃ id, out.getD j2 0 = id := ⟨_, rfl⟩
          have hide : out[j2] = id := by rw [← hid]; simp [List.getD_eq_getElem?_getD, List.getElem?_eq_getElem hj2]
          rw [hid] at cid
          obtain ⟨p, hp, hpe⟩ := List.mem_map.1 (hvm.out id (by rw [← hide]; exact List.getElem_mem hj2))
          obtain ⟨i, a1, a2, a3, a4⟩ := HL.out.get p hp
          obtain rfl : id = (i : Int) + 1 := by rw [← hpe]; exact a1
          have hnot : ((i : Int) + 1) ∉ out.take j2 := by
            intro hm
            have h1 := hvn.out
            rw [← List.take_append_drop j2 out] at h1
            exact (List.nodup_append.1 h1).2.2 _ hm _ (by rw [List.drop_eq_getElem_cons hj2, hide]; simp) rfl
          have hge : ∀ id ∈ out.take j2, 1 ≤ id := fun id hm => by
            obtain ⟨q, hq, rfl⟩ := List.mem_map.1 (hvm.out id (List.mem_of_mem_take hm))
            obtain ⟨i', b1, -⟩ := HL.out.get q hq
            omega
          have h0 : (rset cs (out.take j2)).getD i 0 = 0 := by rw [rset_get _ _ hge hnot]; exact a4
          have hil : i < (rset cs (out.take j2)).length := by rw [rset_len]; exact a3
          obtain ⟨gt, ct, et, -, -, -⟩ := row_cell HR.tbl.row hil
          have hE : Hid (∀ w', Keeps [] wr w' → _) := Lib.hid fun w' (hk : Keeps [] wr w') => rt_end (g := gt) (cap := ct) hil (by have := (HR.on hk).tbl; rw [et] at this; exact this) h0 22 (by decide)
          have hs : rset cs (out.take (j2 + 1)) = (rset cs (out.take j2)).set i 22 := by
            rw [List.take_succ_eq_append_getElem hj2, hide, rset_snoc]
            congr 1; omega
          have Hs := Lib.hid hs
          have Het := Lib.hid et
          obtain ⟨q0, q1, q2, q3, q4, q5, q6⟩ := cells7 HR.blk
          have HR := Lib.hid HR
          clear hs hid hide a1 a2 a4 h0 hnot hge hpe et hrow3
          go_wp2
          refine wp_region_seg [8] (by kernel_rfl) (by kernel_rfl) ?_
          simp only [wpSeg, List.drop_zero, List.drop_succ_cons, List.take_succ_cons, List.take_zero, Nat.reduceSub, Nat.reduceAdd]
          repeat still_step
          refine wpStill_nil ?_
          go_wp2_with (go_at_call 55; refine (hE.out _ ((Keeps.refl [] wr).drewN 1)).mono ?_; rintro e w4 ⟨rfl, hk4, hT4⟩; have hT4 := Lib.hid hT4)
          refine wpStill_nil ?_
          go_wp2
          go_roundg (gk - 1)
          case measure => omega
          case rel =>
            have hkg : Keeps tv.ownBlock.toList wr w4 := (((Keeps.refl [] wr).drewN 1).mono (by simp)).trans (hk4.mono (by rw [Het.out]; simp [Value.ownBlock]))
            refine ⟨j2 + 1, by simp, by omega, hkr2.trans hkg, ?_⟩
            rw [Hs.out]
            refine ((HR.out.on ((Keeps.refl [] wr).drewN 1))).over (g := gt) (by rw [Het.out]; rfl) hk4 ?_ (by simp)
            have := hT4.out
            rw [← Het.out] at this
            exact this
        · have hjl2 : ((out.length : Int) ≤ (j2 : Int)) := by omega
          have hje2 : j2 = out.length := by omega
          have Hje := Lib.hid hje2
          have hrow3 := Lib.hid hrow3
          clear hje2 hkj2
          go_wp2
          go_ret2
          refine ⟨_, rfl, ownsRow_base_a hrow3.out hws, (hk3'.mono (by simp)).trans hkr2, ?_⟩
          have := HR
          rw [Hje.out, List.take_length] at this
          exact this

end Go.Proofs.YthjghcfnopancaaGreat

/-
  Press of the reference's model, told by the state.
-/
namespace Go.Proofs.YthjghcfnopancaaGreat
open Go.RowKit Go.Shelf Go.Maps

theorem victims_of (S : MS) (want : Int) : victimsOf S.c S.live want = S.victims want := by
  unfold victimsOf MS.victims MS.free
  rw [Int.max_comm]
  rfl

theorem Rel.evicts {ks : List Kn} : ∀ (ids : List Int) {S : MS} {cs : List Int}, Rel S cs ks → (∀ id ∈ ids, 1 ≤ id) → Rel (S.evicts ids) (rset cs ids) ks
  | [], _, _, h, _ => h
  | a :: t, S, cs, h, h1 => by
    have ha := h1 a (by simp)
    have ih := Rel.evicts t (h.over (a - 1).toNat 22 (by decide)) (fun id hid => h1 id (List.mem_cons_of_mem _ hid))
    have e : (((a - 1).toNat : Nat) : Int) + 1 = a := by omega
    rw [e] at ih
    exact ih

theorem MineR.press {n0 : Pl} {w : World} {m t : Nat} {S : MS} (h : MineR n0 w m t S) (hV : Valid S) (hN : Known S) (want : Int) :
    Calls Tryz.prog 38 #[.pointer (some ⟨m, 0, none⟩), .int .i64 want] w fun e w' => ∃ v, e = .returned (.tuple #[v, .int .i64 (S.press want).2.1]) ∧
      w'.ownsRow w.heap.size 3 1 v (S.press want).1.length ((S.press want).1.map (Value.int .i64)) ∧ MineR n0 w' m t (S.press want).2.2 ∧ Above n0 w w' := by
  obtain ⟨base, tv, lv, cs, ks, r1, r2, r3, r4, r5, r6⟩ := _root_.id h
  have hq := hV.ok.q
  have hf := hV.ok.f
  by_cases hw : 0 ≤ want ∧ want ≤ S.c.frames
  · have e : S.press want = (S.victims want, 0, S.evicts (S.victims want)) := by simp [MS.press, hw]
    rw [e]
    have hc := hV.count
    have hs := hV.ok.s
    refine (rm_press r1 (r2.lives hV) (fun p hp => by have := hN.frames p hp; omega) hf hV.nodup (by omega) want hw).mono ?_
    rintro e w' ⟨v, h1, h2, h3, h4⟩
    rw [victims_of] at h2 h4
    refine ⟨v, h1, h2, ⟨base, tv, lv, _, ks, ?_, Rel.evicts _ r2 (fun id hid => ?_), r3, r4, r5, r6.up h3.size⟩, ⟨_, fun b hb => ⟨Nat.le_trans r5.1 (r1.tbl.row.lt b (by simpa using hb)).1, r5.2.1 b (by simpa using hb)⟩, h3⟩⟩
    · rw [MS.evicts_c]; exact h4
    · obtain ⟨p, hp, rfl⟩ := List.mem_map.1 (MS.victims_mem hid)
      obtain ⟨i, h5, -⟩ := (r2.lives hV).get p hp
      omega
  · have e : S.press want = ([], 3, S) := by simp [MS.press, hw]
    rw [e]
    exact (rm_press_no r1 want hw).mono fun e w' q => ⟨_, q.1, World.ownsRow_nil _ _ _ _, h.on q.2, .of q.2⟩

end Go.Proofs.YthjghcfnopancaaGreat
