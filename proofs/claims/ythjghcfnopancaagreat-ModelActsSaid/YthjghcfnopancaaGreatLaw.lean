/-
  ModelActs returns true at every input: a model answers as the document's does, and knows the same, whatever is asked of both. No condition.
-/
import Derived.Test.YthjghcfnopancaaGreatGt
import Derived.Test.YthjghcfnopancaaGreatGs
import Derived.Test.YthjghcfnopancaaGreatGg
import Derived.ProofKit
import Derived.OpenShut
import Derived.ShutString
import Derived.ChangeArms
import Derived.Deep.Slices
import Derived.Deep.Fields
import Derived.ChangeSame
import Derived.Carry
/-
  Any acts, one behind the other: ModelActs walked.
-/
namespace Go.Proofs.YthjghcfnopancaaGreat
open Go.RowKit Go.Shelf Go.Maps

set_option maxRecDepth 100000 in
set_option maxHeartbeats 1000000 in
theorem acted_else {w0 : World} {lo : Nat} {w : World} {m t tb lb m' t' : Nat} {S : MS} (h : Both w0 lo w m t tb lb m' t' S) (kind id n : Int) (s : St) (hk : kind < 0 ∨ 7 < kind) :
    Calls Tryz.prog 7 #[.pointer (some ⟨m, 0, none⟩), .pointer (some ⟨m', 0, none⟩), actVal kind id n s] w (Acted w0 lo m t tb lb m' t' S) := by
  have e0 : (kind == 0) = false := by simp; omega
  have e1 : (kind == 1) = false := by simp; omega
  have e2 : (kind == 2) = false := by simp; omega
  have e3 : (kind == 3) = false := by simp; omega
  have e4 : (kind == 4) = false := by simp; omega
  have e5 : (kind == 5) = false := by simp; omega
  have e6 : (kind == 6) = false := by simp; omega
  have e7 : (kind == 7) = false := by simp; omega
  obtain ⟨hM1, hR1, hA, hlo⟩ := h.boxed (actObj kind id n s)
  have HB := Lib.hid h
  have hF : Hid (Both w0 lo (w.alloc (actObj kind id n s)) m t tb lb m' t' S) := Lib.hid ⟨hM1, hR1.drop, h.few, h.u, h.lo⟩
  obtain ⟨W, hW⟩ : ∃ W, w.alloc (actObj kind id n s) = W := ⟨_, rfl⟩
  rw [hW] at hF
  have hW' := Lib.hid hW
  obtain ⟨s0, s1, s2, s3, s4, s5, s6⟩ := s
  unfold actVal
  unfold actObj at hW'
  simp only at *
  clear h hW hM1 hR1 hA
  go_enter Tryz.func7, Tryz.ntmps7
  go_wp2
  rw [hW'.out]
  go_ret
  exact ⟨rfl, _, hF.out, by omega⟩

theorem acted_any {w0 : World} {lo : Nat} {w : World} {m t tb lb m' t' : Nat} {S : MS} (h : Both w0 lo w m t tb lb m' t' S) (hlim : S.l.length < 1000) (kind id n : Int) (s : St) :
    Calls Tryz.prog 7 #[.pointer (some ⟨m, 0, none⟩), .pointer (some ⟨m', 0, none⟩), actVal kind id n s] w (Acted w0 lo m t tb lb m' t' S) := by
  by_cases hk : kind < 0 ∨ 7 < kind
  · exact acted_else h kind id n s hk
  · have : kind = 0 ∨ kind = 1 ∨ kind = 2 ∨ kind = 3 ∨ kind = 4 ∨ kind = 5 ∨ kind = 6 ∨ kind = 7 := by omega
    rcases this with rfl | rfl | rfl | rfl | rfl | rfl | rfl | rfl
    · exact acted_open h hlim id n s
    · exact acted_feed h id n s
    · exact acted_stop h id n s
    · by_cases hn : 0 < n ∧ n < 1000
      · exact acted_see_near h id n s hn.1 hn.2
      · exact acted_see_far h id n s hn
    · exact acted_drain h id n s
    · exact acted_close h id n s
    · exact acted_evict h id n s
    · exact acted_press h id n s

/-- An act. -/
structure ActV where
  (kind id n : Int)
  s : St
def ActV.val (a : ActV) : Value := actVal a.kind a.id a.n a.s
def ActV.cells (a : ActV) : List Value := [.int .i64 a.kind, .int .i64 a.id, .int .i64 a.n, .int .i64 a.s.cause, .int .i64 a.s.queued, .int .i64 a.s.left, .int .i64 a.s.free, .int .i64 a.s.frames, .int .i64 a.s.pictures, .int .i64 a.s.gone]

/-- A slice that reads as acts. -/
structure ActRow (w : World) (a : Option Addr) (l : List ActV) : Prop where
  few : l.length ≤ 9223372036854775807
  cell : ∀ (i : Nat) (x : ActV), l[i]? = some x → ∃ g o, a = some ⟨g, o, none⟩ ∧ ∀ (j : Nat) (v : Value), x.cells[j]? = some v → w.cell? ⟨g, o + i * 10 + j, none⟩ = some v
theorem ActRow.on {w w' : World} {a : Option Addr} {l : List ActV} (h : ActRow w a l) (k : Keeps [] w w') : ActRow w' a l :=
  ⟨h.few, fun i x hx => by obtain ⟨g, o, e, hc⟩ := h.cell i x hx; exact ⟨g, o, e, fun j v hv => k.cell (hc j v hv) (by simp)⟩⟩

theorem same_ints_self {w : World} {a b : Option Addr} {xs : List Int} {c d : Nat} (hA : IntRow w a xs) (hB : IntRow w b xs) :
    Calls Tryz.prog 11 #[.slice a xs.length c, .slice b xs.length d] w fun e w' => e = .returned (.bool true) ∧ Keeps [] w w' := by
  have h := same_ints (c := c) (d := d) hA hB
  rw [decide_eq_true (rfl : xs = xs)] at h
  exact h

theorem MineR.freeK {n0 : Pl} {w : World} {m t : Nat} {S : MS} (h : MineR n0 w m t S) (hV : Valid S) (hN : Known S) :
    Calls Tryz.prog 14 #[.pointer (some ⟨m, 0, none⟩)] w fun e w' => e = .returned (.int .i64 S.free) ∧ Keeps [] w w' := by
  obtain ⟨base, tv, lv, cs, ks, r1, r2, r3, r4, r5, r6⟩ := h
  have hq := hV.ok.q
  have hf := hV.ok.f
  exact rm_free r1 (r2.lives hV) (fun p hp => by have := hN.frames p hp; omega) hf

theorem MineR.live {n0 : Pl} {w : World} {m t : Nat} {S : MS} (h : MineR n0 w m t S) : w.cell? ⟨m, 5, none⟩ = some (.pointer (some ⟨t, 0, none⟩)) ∧
    Calls Tryz.prog 12 #[.pointer (some ⟨t, 0, none⟩)] w fun e w' => ∃ u, e = .returned u ∧ w'.ownsRow w.heap.size 3 1 u (liveIds S.l).length ((liveIds S.l).map (Value.int .i64)) ∧ Keeps [] w w' := by
  obtain ⟨base, tv, lv, cs, ks, h1, h2, h3, h4, h5, h6⟩ := h
  refine ⟨(cells7 h1.blk).2.2.2.2.2.1, ?_⟩
  rw [h2.ids]
  exact rt_live h1.tbl

set_option maxRecDepth 100000 in
set_option maxHeartbeats 2000000 in
theorem acts_calls (c : Cf) (l : List ActV) (a : Option Addr) (cap : Nat) (w : World) (h : ActRow w a l) :
    Calls Tryz.prog 3 #[c.val, .slice a l.length cap] w fun e w' => e = .returned (.bool true) ∧ Keeps [] w w' := by
  have hlim := h.few
  have H := Lib.hid h
  clear h
  by_cases hc : c.ok
  · have hN := Lib.hid (fun w => Mine.new c hc w)
    have hR := Lib.hid (fun (n0 : Nat) w hn => MineR.new (n0 := n0) c hc w hn)
    have Hc := Lib.hid hc
    obtain ⟨c0, c1, c2, c3, c4⟩ := c
    clear hc
    go_enter Tryz.func3, Tryz.ntmps3
    go_wp2_with fail
    refine (hN.out _).mono ?_
    rintro e w1 ⟨m, t, tb, lb, rfl, hM⟩
    have hb := hM.kept.blk (heap_new w _) (by simp)
    obtain ⟨x0, x1, x2, x3, x4⟩ := cells5 hb
    have hbl := ltOf hb
    have hM := Lib.hid hM
    clear hb
    go_wp2_with fail
    refine (hR.out w1.heap.size w1 (Nat.le_refl _)).mono ?_
    rintro e w2 ⟨m', t', rfl, hk2, hR2⟩
    have hB : Both (w.alloc (.cells #[.int .i64 c0, .int .i64 c1, .int .i64 c2, .int .i64 c3, .int .i64 c4] 23)) w1.heap.size w2 m t tb lb m' t' (MS.fresh ⟨c0, c1, c2, c3, c4⟩) :=
      ⟨hM.out.on hk2, hR2, Few.fresh _, ⟨ltOf hM.out.at_.blk, ltOf hM.out.at_.tbl.blk, hM.out.at_.tbl.map.lt, hM.out.at_.live.lt⟩, hM.out.kept.size⟩
    have hW0 : Keeps [] w (w.alloc (.cells #[.int .i64 c0, .int .i64 c1, .int .i64 c2, .int .i64 c3, .int .i64 c4] 23)) := (Keeps.refl _ _).alloc _
    have hW0 := Lib.hid hW0
    have hB := Lib.hid hB
    generalize (w.alloc (.cells #[.int .i64 c0, .int .i64 c1, .int .i64 c2, .int .i64 c3, .int .i64 c4] 23)) = W0 at *
    clear x0 x1 x2 x3 x4 hM hk2 hR2
    by_cases hll : 80 < l.length
    · have d : decide ((80 : Int) < (l.length : Int)) = true := decide_eq_true (by omega)
      go_wp2_with (go_at_call 6; refine (awake_calls _).mono ?_; rintro e w' ⟨rfl, hk3⟩)
      go_ret
      exact ⟨rfl, (hW0.out.trans hB.out.p.kept).trans hk3⟩
    · have d : decide ((80 : Int) < (l.length : Int)) = false := decide_eq_false (by omega)
      have hl80 : l.length ≤ 80 := by omega
      generalize hlo : w1.heap.size = lo at hB
      clear hbl hlo hll
      go_wp2_with fail
      go_loopg [9] l.length (fun k s9 wr => ∃ (j : Nat) (S : MS), s9 = .int .i64 j ∧ k + j = l.length ∧ Both W0 lo wr m t tb lb m' t' S ∧ S.l.length ≤ j)
      case atStart => exact ⟨0, _, rfl, by omega, hB.out, by simp [MS.fresh]⟩
      case round =>
        obtain ⟨j, S, rfl, hkj, hBr, hSl⟩ := hrel
        by_cases hj : j < l.length
        · obtain ⟨x, hx⟩ : ∃ x, l[j]? = some x := ⟨_, List.getElem?_eq_getElem hj⟩
          obtain ⟨g, o, rfl, hcell⟩ := (H.out.on (hW0.out.trans hBr.p.kept)).cell j x hx
          have hA := Lib.hid (acted_any hBr (by omega) x.kind x.id x.n x.s)
          obtain ⟨xk, xid, xn, ⟨s0, s1, s2, s3, s4, s5, s6⟩⟩ := x
          have y0 : wr.cell? ⟨g, o + j * 10, none⟩ = _ := hcell 0 _ rfl
          have y1 := hcell 1 _ rfl
          have y2 := hcell 2 _ rfl
          have y3 := hcell 3 _ rfl
          have y4 := hcell 4 _ rfl
          have y5 := hcell 5 _ rfl
          have y6 := hcell 6 _ rfl
          have y7 := hcell 7 _ rfl
          have y8 := hcell 8 _ rfl
          have y9 := hcell 9 _ rfl
          simp only at y0 y1 y2 y3 y4 y5 y6 y7 y8 y9
          have hx := Lib.hid hx
          clear hcell
          go_wp2_with fail
          refine (hA.out).mono ?_
          rintro e wa ⟨rfl, S', hB', hSl'⟩
          obtain ⟨K, E, hKE⟩ : ∃ K E, S'.status xid = (K, E) := ⟨_, _, rfl⟩
          obtain ⟨k0, k1, k2, k3, k4, k5, k6⟩ := K
          have HB2 : Hid (∀ w', Keeps [] wa w' → Both W0 lo w' m t tb lb m' t' S') := Lib.hid fun w' k => ⟨hB'.p.on k, hB'.r.on k, hB'.few, hB'.u, hB'.lo⟩
          have HY : Hid (∀ w', Keeps [] wa w' → w'.cell? ⟨g, o + j * 10 + 1, none⟩ = some (.int .i64 xid)) := Lib.hid fun w' k => by
            obtain ⟨g', o', e, hc⟩ := (H.out.on ((hW0.out.trans hB'.p.kept).trans k)).cell j _ hx.out
            simp only [Option.some.injEq, Addr.mk.injEq, and_true] at e
            obtain ⟨rfl, rfl⟩ := e
            exact hc 1 _ rfl
          have HS1 : Hid (∀ w', Keeps [] wa w' → Calls Tryz.prog 8 #[.pointer (some ⟨m, 0, none⟩), .int .i64 xid] w' fun e w2 => e = .returned (.tuple #[.agg #[.int .i64 k0, .int .i64 k1, .int .i64 k2, .int .i64 k3, .int .i64 k4, .int .i64 k5, .int .i64 k6], .int .i64 E]) ∧ Keeps [] w' w2) := Lib.hid fun w' k => by
            have := status_any (HB2.out w' k).p.at_ (HB2.out w' k).p.valid xid
            rw [hKE] at this
            exact this
          have HS2 : Hid (∀ w', Keeps [] wa w' → Calls Tryz.prog 9 #[.pointer (some ⟨m', 0, none⟩), .int .i64 xid] w' fun e w2 => e = .returned (.tuple #[.agg #[.int .i64 k0, .int .i64 k1, .int .i64 k2, .int .i64 k3, .int .i64 k4, .int .i64 k5, .int .i64 k6], .int .i64 E]) ∧ Keeps [] w' w2) := Lib.hid fun w' k => by
            have := (HB2.out w' k).r.status hB'.p.valid xid
            rw [hKE] at this
            exact this
          have hSl2 : S'.l.length ≤ j + 1 := by omega
          have hid0 := HY.out wa (Keeps.refl _ _)
          have hk0 : Keeps [] wa wa := Keeps.refl _ _
          clear hA hBr hSl hSl' hB' y0 y1 y2 y3 y4 y5 y6 y7 y8 y9 hKE
          go_wp2_with fail
          refine (HS1.out wa hk0).mono ?_
          rintro e wb ⟨rfl, hkb⟩
          have hid1 := HY.out wb hkb
          have hgl : g < wb.heap.size := World.block_lt_of_cell? _ _ hid1
          clear hid0
          go_wp2_with fail
          refine (HS2.out _ (by repeat (first | exact Keeps.refl _ _ | assumption | refine Keeps.drew ?_ | refine Keeps.drewN ?_ _ | refine Keeps.alloc ?_ _ | refine Keeps.setCell ?_ (by simp <;> omega) _ | refine Keeps.trans ?_ (by assumption)))).mono ?_
          rintro e wd ⟨rfl, hkd⟩
          obtain ⟨bb, hkd2⟩ := hkd.new1 (by simp)
          have hid2 := HY.out wd (by repeat (first | exact Keeps.refl _ _ | assumption | refine Keeps.drew ?_ | refine Keeps.drewN ?_ _ | refine Keeps.alloc ?_ _ | refine Keeps.setCell ?_ (by simp <;> omega) _ | refine Keeps.trans ?_ (by assumption)))
          have hbb := Lib.hid bb
          clear hid1 bb
          have hke : Keeps [] wa (wd.alloc (.cells #[.int .i64 k0, .int .i64 k1, .int .i64 k2, .int .i64 k3, .int .i64 k4, .int .i64 k5, .int .i64 k6] 35)) := (by repeat (first | exact Keeps.refl _ _ | assumption | refine Keeps.drew ?_ | refine Keeps.drewN ?_ _ | refine Keeps.alloc ?_ _ | refine Keeps.setCell ?_ (by simp <;> omega) _ | refine Keeps.trans ?_ (by assumption)))
          have hBe := HB2.out _ hke
          have hbb2 := ((Keeps.refl [] wd).alloc (.cells #[.int .i64 k0, .int .i64 k1, .int .i64 k2, .int .i64 k3, .int .i64 k4, .int .i64 k5, .int .i64 k6] 35)).blk hbb.out (by simp)
          have hbc := heap_new wd (.cells #[.int .i64 k0, .int .i64 k1, .int .i64 k2, .int .i64 k3, .int .i64 k4, .int .i64 k5, .int .i64 k6] 35)
          have hL := Lib.hid (mlive_any hBe.p.at_ hBe.p.valid)
          have hBe := Lib.hid hBe
          have hbb2 := Lib.hid hbb2
          have hbc := Lib.hid hbc
          have hke := Lib.hid hke
          go_wp2_with fail
          generalize (wd.alloc (.cells #[.int .i64 k0, .int .i64 k1, .int .i64 k2, .int .i64 k3, .int .i64 k4, .int .i64 k5, .int .i64 k6] 35)) = we at *
          refine (hL.out).mono ?_
          rintro e wf ⟨v, rfl, hrow, -, hkf⟩
          have hids : (liveIds S'.l).length ≤ 1000 := by
            have h1 := hBe.out.p.valid.few
            have h2 := hBe.out.p.valid.ok.s
            omega
          obtain ⟨va, vc, rfl, ir1⟩ := introw_of_row hrow
          have hrow := Lib.hid hrow
          obtain ⟨x0, x1, x2, x3, x4, x5, x6⟩ := cells7 (hkf.blk hbb2.out (by simp))
          obtain ⟨y0, y1, y2, y3, y4, y5, y6⟩ := cells7 (hkf.blk hbc.out (by simp))
          have hBf := HB2.out wf (hke.out.trans hkf)
          obtain ⟨q5, hRL⟩ := hBf.r.live
          have hRL := Lib.hid hRL
          have HF1 : Hid (∀ w', Keeps [] wf w' → _) := Lib.hid fun w' (k : Keeps [] wf w') => free_any (hBf.p.on k).at_ hBf.p.valid hBf.p.known
          have HF2 : Hid (∀ w', Keeps [] wf w' → _) := Lib.hid fun w' (k : Keeps [] wf w') => (hBf.r.on k).freeK hBf.p.valid hBf.p.known
          have hBf := Lib.hid hBf
          have ir1 := Lib.hid ir1
          clear hid2 hgl
          go_wp2_with fail
          refine (hRL.out).mono ?_
          rintro e wg ⟨u, rfl, hrow2, hkg⟩
          obtain ⟨ua, uc, rfl, ir2⟩ := introw_of_row hrow2
          have hsame := same_ints_self (c := vc) (d := uc) (ir1.out.on hkg) ir2
          have hsame := Lib.hid hsame
          clear hrow2 ir2
          go_wp2_with fail
          refine (hsame.out).mono ?_
          rintro e wh ⟨rfl, hkh⟩
          go_wp2_with fail
          refine (HF1.out _ (by repeat (first | exact Keeps.refl _ _ | assumption | refine Keeps.drew ?_ | refine Keeps.drewN ?_ _ | refine Keeps.alloc ?_ _ | refine Keeps.setCell ?_ (by simp <;> omega) _ | refine Keeps.trans ?_ (by assumption)))).mono ?_
          rintro e wi ⟨rfl, hki⟩
          go_wp2_with fail
          refine (HF2.out _ (by repeat (first | exact Keeps.refl _ _ | assumption | refine Keeps.drew ?_ | refine Keeps.drewN ?_ _ | refine Keeps.alloc ?_ _ | refine Keeps.setCell ?_ (by simp <;> omega) _ | refine Keeps.trans ?_ (by assumption)))).mono ?_
          rintro e wj ⟨rfl, hkj2⟩
          have hkfj : Keeps [] wf wj := ((hkg.trans hkh).trans hki).trans hkj2
          have hrow4 := ownsRow_of hrow.out (fun g hg => hkfj.block g (hrow.out.lt g hg).2 (by simp))
          have hO := Lib.hid (over_ints hrow4 hids)
          have hwl : lo ≤ we.heap.size := hBe.out.r.size
          have hkej : Keeps [] we wj := hkf.trans hkfj
          have hRj : MineR ⟨lo, (Value.slice va (liveIds S'.l).length vc).ownBlock.toList⟩ wj m' t' S' := hBe.out.r.step hkej (by simp) (fun b hb => by have := hrow4.lt b (by simpa using hb); exact ⟨.inr this.1, this.2⟩)
          have hMj := (hBe.out.p.on hkej)
          have hrow4 := Lib.hid hrow4
          have hRj := Lib.hid hRj
          have hMj := Lib.hid hMj
          clear x0 x1 x2 x3 x4 x5 x6 y0 y1 y2 y3 y4 y5 y6 q5
          go_wp2_with fail
          refine (hO.out).mono ?_
          rintro e wk ⟨rfl, hkk⟩
          go_wp2
          go_roundg (gk - 1)
          case measure => omega
          case rel =>
            exact ⟨j + 1, S', by simp, by omega, ⟨hMj.out.byR hBe.out.u hkk (fun b hb => by have := (hrow4.out.lt b (by simpa using hb)).1; omega) hBe.out.lo, hRj.out.step hkk (fun b hb => .inr (.inl hb)) (by simp), hBe.out.few, hBe.out.u, hBe.out.lo⟩, by omega⟩
        · have hjl : ((l.length : Int) ≤ (j : Int)) := by omega
          go_wp2_with (go_at_call 6; refine (awake_calls _).mono ?_; rintro e w' ⟨rfl, hk3⟩)
          go_ret
          exact ⟨rfl, (hW0.out.trans hBr.p.kept).trans hk3⟩
  · have hN := Lib.hid (fun w => new_no c w hc)
    have hR := Lib.hid (fun w => rm_new_no c w hc)
    obtain ⟨c0, c1, c2, c3, c4⟩ := c
    clear hc
    go_enter Tryz.func3, Tryz.ntmps3
    go_wp2_with fail
    refine (hN.out _).mono ?_
    rintro e w1 ⟨rfl, hk1⟩
    obtain ⟨hb, hk1'⟩ := hk1.new1 (by simp)
    obtain ⟨x0, x1, x2, x3, x4⟩ := cells5 hb
    have hbl := ltOf hb
    clear hb
    go_wp2_with fail
    refine (hR.out _).mono ?_
    rintro e w2 ⟨rfl, hk2⟩
    clear x0 x1 x2 x3 x4
    go_wp2_with (go_at_call 6; refine (awake_calls _).mono ?_; rintro e w' ⟨rfl, hk3⟩)
    go_ret
    exact ⟨rfl, (hk1'.trans hk2).trans hk3⟩

end Go.Proofs.YthjghcfnopancaaGreat

namespace Go.Proofs.YthjghcfnopancaaGreat.modelActs
open Go.ChangeShapes Go.WideShapes Go.ChangeAt Go.RowKit Go.Deep

section
variable {H : Type} {enc : TypeId × Value → H} {P : Program} {w : World} {base : Nat} {spare : Nat → Bool} {held : Bool}

/-- A struct whose fields are all integers, cell by cell. -/
theorem row_of_ints {fs : Array Field} {t : TypeId} {fuel : Nat} {cs : List Value} {x : DataW H × List MemPlace} (hs : P.underlying t = some (.struct fs)) (hC : P.cellsOf t = fs.size)
    (hall : ∀ (i : Nat) (f : Field), fs[i]? = some f → P.underlying f.type = some (.int .i64) ∧ f.offset = i ∧ P.cellsOf f.type = 1)
    (h : DataW.trod enc P w base spare held fuel t cs = some x) : ∃ l : List Int, l.length = fs.size ∧ cs = l.map (Value.int .i64) := by
  obtain ⟨xs, n, -, -, hlen, hxs, hf⟩ := DataW.trod_struct hs h
  rw [hC] at hlen
  have key : ∀ i, i < fs.size → ∃ z, cs[i]? = some (Value.int .i64 z) := by
    intro i hi
    have hg : fs[i]? = some fs[i] := Array.getElem?_eq_getElem hi
    obtain ⟨h1, h2, h3⟩ := hall i _ hg
    have h4 := hf i _ hg
    rw [h2, h3] at h4
    have hx : xs[i]? = some (xs[i]'(by omega)) := List.getElem?_eq_getElem (by omega)
    rw [hx] at h4
    obtain ⟨z, hz, -, -⟩ := DataW.trod_int h1 h4
    refine ⟨z, ?_⟩
    have h5 : ((cs.drop i).take 1)[0]? = some (Value.int .i64 z) := by rw [hz]; rfl
    simpa using h5
  refine ⟨cs.map fun v => match v with | .int _ z => z | _ => 0, by simpa using hlen, ?_⟩
  apply List.ext_getElem?
  intro i
  by_cases hi : i < fs.size
  · obtain ⟨z, hz⟩ := key i hi
    simp [hz]
  · rw [List.getElem?_eq_none (by omega), List.getElem?_eq_none (by simp; omega)]
end

set_option maxRecDepth 100000 in
theorem open_config {r : Reach} {b0 : Nat} {H : Type} {enc : TypeId × Value → H} {w : World} {base : Nat} {spare : Nat → Bool} {held : Bool} {v : Value} {d : DataW H} {p : List MemPlace}
    (hv : Value.okWide Tryz.prog w r b0 23 v) (h : DataW.Trod enc Tryz.prog w base spare held 23 v d p) : ∃ c : Cf, v = c.val := by
  obtain ⟨cs, rfl, hsz⟩ := okWide_struct Tryz.underlying23 hv
  obtain ⟨fuel, hf⟩ := h
  obtain ⟨l, hl, hcs⟩ := row_of_ints Tryz.underlying23 (by kernel_rfl) (by
    intro i f h
    rcases i with _ | _ | _ | _ | _ | i <;> simp at h <;> subst h <;> exact ⟨by kernel_rfl, rfl, by kernel_rfl⟩) hf
  obtain ⟨cl⟩ := cs
  match l, hl with
  | [a0, a1, a2, a3, a4], _ =>
    simp [Value.cells] at hcs
    subst hcs
    exact ⟨⟨a0, a1, a2, a3, a4⟩, rfl⟩

set_option maxRecDepth 100000 in
theorem open_act {H : Type} {enc : TypeId × Value → H} {w : World} {base : Nat} {spare : Nat → Bool} {held : Bool} {fuel : Nat} {cl : List Value} {x : DataW H × List MemPlace}
    (hf : DataW.trod enc Tryz.prog w base spare held fuel 37 cl = some x) : ∃ a : ActV, cl = a.cells := by
  obtain ⟨xs, m, -, -, hlen, hxs, hg⟩ := DataW.trod_struct Tryz.underlying37 hf
  have hc : Tryz.prog.cellsOf 37 = 10 := by kernel_rfl
  have hc1 : Tryz.prog.cellsOf 3 = 1 := by kernel_rfl
  have hc7 : Tryz.prog.cellsOf 35 = 7 := by kernel_rfl
  rw [hc] at hlen
  match cl, hlen with
  | [a0, a1, a2, a3, a4, a5, a6, a7, a8, a9], _ =>
    match xs, hxs with
    | [y0, y1, y2, y3], _ =>
      have g0 : DataW.trod enc Tryz.prog w base spare held m 3 [a0] = some y0 := by
        have g : DataW.trod enc Tryz.prog w base spare held m 3 (([a0, a1, a2, a3, a4, a5, a6, a7, a8, a9].drop 0).take (Tryz.prog.cellsOf 3)) = [y0, y1, y2, y3][0]? := hg 0 _ rfl
        rw [hc1] at g
        exact g
      have g1 : DataW.trod enc Tryz.prog w base spare held m 3 [a1] = some y1 := by
        have g : DataW.trod enc Tryz.prog w base spare held m 3 (([a0, a1, a2, a3, a4, a5, a6, a7, a8, a9].drop 1).take (Tryz.prog.cellsOf 3)) = [y0, y1, y2, y3][1]? := hg 1 _ rfl
        rw [hc1] at g
        exact g
      have g2 : DataW.trod enc Tryz.prog w base spare held m 3 [a2] = some y2 := by
        have g : DataW.trod enc Tryz.prog w base spare held m 3 (([a0, a1, a2, a3, a4, a5, a6, a7, a8, a9].drop 2).take (Tryz.prog.cellsOf 3)) = [y0, y1, y2, y3][2]? := hg 2 _ rfl
        rw [hc1] at g
        exact g
      have g3 : DataW.trod enc Tryz.prog w base spare held m 35 [a3, a4, a5, a6, a7, a8, a9] = some y3 := by
        have g : DataW.trod enc Tryz.prog w base spare held m 35 (([a0, a1, a2, a3, a4, a5, a6, a7, a8, a9].drop 3).take (Tryz.prog.cellsOf 35)) = [y0, y1, y2, y3][3]? := hg 3 _ rfl
        rw [hc7] at g
        exact g
      obtain ⟨z0, e0, -, -⟩ := DataW.trod_int Tryz.underlying3 g0
      obtain ⟨z1, e1, -, -⟩ := DataW.trod_int Tryz.underlying3 g1
      obtain ⟨z2, e2, -, -⟩ := DataW.trod_int Tryz.underlying3 g2
      obtain ⟨l, hl, e3⟩ := row_of_ints Tryz.underlying35 (by kernel_rfl) (by
        intro i f h
        rcases i with _ | _ | _ | _ | _ | _ | _ | i <;> simp at h <;> subst h <;> exact ⟨by kernel_rfl, rfl, by kernel_rfl⟩) g3
      simp at e0 e1 e2
      match l, hl with
      | [b0, b1, b2, b3, b4, b5, b6], _ =>
        simp at e3
        obtain ⟨f0, f1, f2, f3, f4, f5, f6⟩ := e3
        subst e0 e1 e2 f0 f1 f2 f3 f4 f5 f6
        exact ⟨⟨z0, z1, z2, ⟨b0, b1, b2, b3, b4, b5, b6⟩⟩, rfl⟩

theorem choose_list {α : Type} {Q : Nat → α → Prop} : ∀ (n : Nat), (∀ i, i < n → ∃ x, Q i x) → ∃ l : List α, l.length = n ∧ ∀ i x, l[i]? = some x → Q i x
  | 0, _ => ⟨[], rfl, by simp⟩
  | n + 1, h => by
    obtain ⟨l, hl, hq⟩ := choose_list n (fun i hi => h i (by omega))
    obtain ⟨x, hx⟩ := h n (by omega)
    refine ⟨l ++ [x], by simp [hl], fun i y hy => ?_⟩
    rcases Nat.lt_trichotomy i n with h1 | h1 | h1
    · rw [List.getElem?_append_left (by omega)] at hy; exact hq i y hy
    · subst h1
      rw [← hl, List.getElem?_append_right (Nat.le_refl _)] at hy
      simp at hy
      subst hy; exact hx
    · rw [List.getElem?_eq_none (by simp; omega)] at hy; cases hy

theorem open_acts {H : Type} {enc : TypeId × Value → H} {w : World} {base : Nat} {spare : Nat → Bool} {held : Bool} {a : Option Addr} {len cap : Nat} {d : DataW H} {p : List MemPlace}
    (h : DataW.Trod enc Tryz.prog w base spare held 24 (.slice a len cap) d p) : ∃ l : List ActV, l.length = len ∧ ActRow w a l := by
  obtain ⟨fuel, hf⟩ := h
  have hc : Tryz.prog.cellsOf 37 = 10 := by kernel_rfl
  rcases open_slice Tryz.underlying24 hf with ⟨hcs, _⟩ | ⟨x, len', cap', m, n, D, Pl, hcs, _, hl, hm, hmm, _, hi⟩
  · simp [Value.cells] at hcs
    obtain ⟨rfl, rfl, rfl⟩ := hcs
    exact ⟨[], rfl, by simp, by simp⟩
  · simp [Value.cells] at hcs
    obtain ⟨rfl, rfl, rfl⟩ := hcs
    rw [hc] at hi
    have hlm : len ≤ m := by rw [hmm]; split <;> omega
    obtain ⟨l, hll, hq⟩ := choose_list (Q := fun i (y : ActV) => ∀ (j : Nat) (v : Value), y.cells[j]? = some v → w.cell? ((x.add (i * 10)).add j) = some v) len (fun i hilt => by
      obtain ⟨cs', hcc, ht⟩ := hi i (by omega)
      obtain ⟨y, rfl⟩ := open_act ht
      obtain ⟨_, hcl, hat⟩ := World.cells?_some hcc
      refine ⟨y, fun j v hv => ?_⟩
      have hj : j < 10 := (List.getElem?_eq_some_iff.1 hv).1
      rw [hat j hj, hv])
    refine ⟨l, hll, by unfold maxLen at hm; omega, fun i y hy => ?_⟩
    obtain ⟨g, o, sp⟩ := x
    have h0 : sp = none := by
      obtain ⟨z, hz⟩ : ∃ z, l[0]? = some z := ⟨_, List.getElem?_eq_getElem (by have := (List.getElem?_eq_some_iff.1 hy).1; omega)⟩
      have := hq 0 z hz 0 _ rfl
      simp only [Nat.zero_mul, Addr.add, if_pos] at this
      cases sp with
      | none => rfl
      | some q =>
        simp only [World.cell?] at this
        split at this <;> simp at this
    subst h0
    refine ⟨g, o, rfl, fun j v hv => ?_⟩
    have := hq i y hy j v hv
    by_cases e1 : i * 10 = 0
    · by_cases e2 : j = 0
      · subst e2; simp only [Addr.add, e1, if_pos] at this; rw [e1]; exact this
      · simp only [Addr.add, e1, if_pos, if_neg e2] at this; rw [e1]; simpa using this
    · by_cases e2 : j = 0
      · subst e2; simp only [Addr.add, if_neg e1, if_pos] at this; exact this
      · simp only [Addr.add, if_neg e1, if_neg e2] at this; exact this

theorem laidOut : laidOutB Tryz.prog = true := by kernel_rfl
theorem own0 : ownKnob Tryz.prog.godebug = none := by kernel_rfl

theorem walk (c : Cf) (a : Option Addr) (l : List ActV) (cap : Nat) (w : World) (h : ActRow w a l) :
    Calls Tryz.prog 3 #[c.val, .slice a l.length cap] w fun e w' => e = .returned (.bool true) ∧ Below w.heap.size w w' :=
  (acts_calls c l a cap w h).mono fun _ _ ⟨he, hk⟩ => ⟨he, hk.below'⟩

set_option maxRecDepth 100000 in
theorem lifted (os : Os) (started : os.Started) (H : Type) (enc : TypeId × Value → H) :
    ReturnsInHanded {} Tryz.checked os 3 .any (Rows.modelActsSpec.pre6 enc Tryz.prog Tryz.f3 Rows.modelActsRow.domain false) (Rows.modelActsSpec.post enc Tryz.prog Tryz.f3 false true false false) := by
  refine returnsInHanded_of_change (C := Tryz.checked) own0 started (by kernel_rfl) Tryz.func3
    (ChangeSpec.witness6 (enc := enc) (C := Tryz.checked) false ⟨#[], #[.agg #[.int .i64 0, .int .i64 0, .int .i64 0, .int .i64 0, .int .i64 0], .slice none 0 0], []⟩ 8 (by kernel_rfl) (by kernel_rfl) (by kernel_rfl) (by kernel_rfl)) ?_
  intro W base args ds gs before hval0 hW hcnd _
  have hval : ∀ (j : Nat) t v, Tryz.f3.params[j]? = some t → args[j]? = some v → Value.okWide Tryz.prog W .any base t v := hval0
  have hW' := hW
  obtain ⟨p, q, hA0, hV, rfl, hfz, hnd⟩ := hW
  have hA : DataW.TrodAll enc Tryz.prog W 0 (fun _ => true) true Tryz.f3.params.toList args.toList ds p := hA0
  rw [Tryz.params3] at hA hval
  obtain ⟨v0, vs0, d0, ds0, p0, q0, hargs, rfl, rfl, h0, r0⟩ := trodAll_cons hA
  obtain ⟨v1, vs1, d1, ds1, p1, q1, rfl, rfl, rfl, h1, r1⟩ := trodAll_cons r0
  obtain ⟨rfl, rfl, rfl⟩ := trodAll_nil r1
  obtain rfl : args = #[v0, v1] := by cases args; simp_all
  obtain ⟨rfl, rfl⟩ := trodVars_none hV
  obtain ⟨c, rfl⟩ := open_config (hval 0 23 v0 rfl rfl) h0
  obtain ⟨a1, len1, cap1, rfl⟩ := okWide_slice Tryz.underlying24 (hval 1 24 v1 rfl rfl)
  have k0 := h0
  have k1 := h1
  have lt0 : ∀ x ∈ p0, x.block < W.heap.size := by obtain ⟨m, hm⟩ := k0; exact DataW.trod_lt m _ _ _ hm
  have lt1 : ∀ x ∈ p1, x.block < W.heap.size := by obtain ⟨m, hm⟩ := k1; exact DataW.trod_lt m _ _ _ hm
  clear hA0 hval0
  obtain ⟨l, rfl, hrow⟩ := open_acts h1
  refine (walk c a1 l cap1 W hrow).mono fun e W' ⟨he, bel⟩ => ?_
  subst he
  exact ⟨_, rfl, _, _, _, [], _, [], hW', trodAll_mk1 (shut_bool Tryz.underlying4 _), (trodAll_cons_mk (Below.trod laidOut (by kernel_rfl) (of_decide_eq_true (by kernel_rfl)) k0 bel lt0) (trodAll_cons_mk (Below.trod laidOut (by kernel_rfl) (of_decide_eq_true (by kernel_rfl)) k1 bel lt1) trodAll_mk0)), rfl, bel.frame _, fun h => by cases h⟩

theorem over : Rows.modelActsRow.holds Tryz.pinned (OpenSpec.ofChange Rows.modelActsSpec) :=
  OpenClaim.holds_of_wide 3 Tryz.f3 rfl rfl rfl rfl rfl rfl rfl ⟨rfl, rfl, rfl, rfl, rfl⟩ rfl rfl rfl rfl rfl (by kernel_rfl) Tryz.func3 (by kernel_rfl)
    (of_decide_eq_true (by kernel_rfl)) (by unfold Func.isWrapper; first | (rw [if_pos (by decide +kernel)]; kernel_rfl) | (rw [if_neg (by decide +kernel)]; exact ⟨rfl, rfl⟩))
    (fun os started H enc _ => lifted os started H enc)

theorem proved : Rows.ModelActsSaid := over
#print axioms proved
end Go.Proofs.YthjghcfnopancaaGreat.modelActs
