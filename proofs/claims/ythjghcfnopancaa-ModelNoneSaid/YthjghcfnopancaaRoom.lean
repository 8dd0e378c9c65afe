/-
  ModelRoom walked.
-/
import Derived.Test.YthjghcfnopancaaRoomP
import Derived.Deep.LoopGhost
namespace Go.Proofs.Ythjghcfnopancaa
open Go.RowKit Go.Shelf Go.Maps

/-- Integers that came in. -/
def IntsAt (w : World) (a : Option Addr) (len : Nat) : Prop :=
  ∀ i, i < len → ∃ b x, a = some b ∧ w.cell? (b.add i) = some (.int .i64 x)

theorem IntsAt.keep {w w' : World} {a : Option Addr} {len : Nat} (h : IntsAt w a len) (k : Keeps [] w w') : IntsAt w' a len := by
  intro i hi
  obtain ⟨b, x, e, hc⟩ := h i hi
  exact ⟨b, x, e, k.cell hc (by simp)⟩

set_option maxRecDepth 100000 in
set_option maxHeartbeats 1000000 in
theorem room_calls (c : Cf) (a1 a2 : Option Addr) (l1 c1 l2 c2 : Nat) (w : World) (h1 : IntsAt w a1 l1) (h2 : IntsAt w a2 l2) (m1 : l1 ≤ 9223372036854775807) (m2 : l2 ≤ 9223372036854775807) :
    Calls Try.prog 4 #[c.val, .slice a1 l1 c1, .slice a2 l2 c2] w fun e w' => e = .returned (.bool true) ∧ Keeps [] w w' := by
  have hC := tameC_ok c
  have hTm := Lib.hid (fun w => tame_any c w)
  generalize tameC c = C at *
  obtain ⟨s, f, q, r, o⟩ := c
  go_enter Try.func4, Try.ntmps4
  go_wp2_with fail
  refine (known_calls _).mono ?_
  rintro e w1 ⟨rfl, hk0⟩
  obtain ⟨b0, hk⟩ := hk0.new1 (by simp)
  clear hk0
  have hb0 := Lib.hid b0
  obtain ⟨r0, r1, r2, r3, r4⟩ := cells5 b0
  have fr := frees b0
  clear b0
  go_wp2_with fail
  refine (hTm.out w1).mono ?_
  rintro e w2 ⟨rfl, hk2⟩
  have hb2 := hk2.blk hb0.out (by simp)
  clear r0 r1 r2 r3 r4 fr
  obtain ⟨r0, r1, r2, r3, r4⟩ := cells5 hb2
  have fr := frees hb2
  have hbs0 := blk_setCell (blk_setCell (blk_setCell (blk_setCell (blk_setCell hb2 0 (.int .i64 C.sessions)) 1 (.int .i64 C.frames)) 2 (.int .i64 C.quota)) 3 (.int .i64 C.room)) 4 (.int .i64 C.slots)
  have hx : w.heap.size < w.heap.size → w.heap.size ∈ ([] : List Nat) := fun h => absurd h (by omega)
  have hkw := ((((((hk.trans hk2).setCell (p := ⟨w.heap.size, 0, none⟩) hx (.int .i64 C.sessions)).setCell (p := ⟨w.heap.size, 1, none⟩) hx (.int .i64 C.frames)).setCell (p := ⟨w.heap.size, 2, none⟩) hx (.int .i64 C.quota)).setCell (p := ⟨w.heap.size, 3, none⟩) hx (.int .i64 C.room)).setCell (p := ⟨w.heap.size, 4, none⟩) hx (.int .i64 C.slots))
  have hbs := Lib.hid hbs0
  clear hbs0
  clear hb2 hb0
  go_wp2_with fail
  have hbw : Hid (((((((w2.setCell ⟨w.heap.size, 0, none⟩ (.int .i64 C.sessions)).setCell ⟨w.heap.size, 1, none⟩ (.int .i64 C.frames)).setCell ⟨w.heap.size, 2, none⟩ (.int .i64 C.quota)).setCell ⟨w.heap.size, 3, none⟩ (.int .i64 C.room)).setCell ⟨w.heap.size, 4, none⟩ (.int .i64 C.slots))).heap[w.heap.size]? = some (.cells #[.int .i64 C.sessions, .int .i64 C.frames, .int .i64 C.quota, .int .i64 C.room, .int .i64 C.slots] 36 (0, 0))) := Lib.hid (by simpa using hbs.out)
  clear hbs r0 r1 r2 r3 r4 fr hx hk hk2 hTm
  revert hkw hbw
  generalize (((((w2.setCell ⟨w.heap.size, 0, none⟩ (.int .i64 C.sessions)).setCell ⟨w.heap.size, 1, none⟩ (.int .i64 C.frames)).setCell ⟨w.heap.size, 2, none⟩ (.int .i64 C.quota)).setCell ⟨w.heap.size, 3, none⟩ (.int .i64 C.room)).setCell ⟨w.heap.size, 4, none⟩ (.int .i64 C.slots)) = w3
  intro hkw hbw
  refine (Mine.new C hC w3).mono ?_
  rintro e w4 ⟨m, t, tb, lb, rfl, hM⟩
  go_wp2_with fail
  have hO := hM.opens (by simp [MS.fresh])
  rw [rS_opens hC] at hO
  refine hO.mono ?_
  rintro e w5 ⟨rfl, hM1⟩
  clear hM hO
  by_cases hlen : 60 < l1
  · go_wp2
    go_ret
    exact ⟨rfl, hkw.trans hM1.kept⟩
  have hI1 := Lib.hid (h1.keep hkw)
  have hI2 := Lib.hid (h2.keep hkw)
  have hr0 := hC.r
  have ok0 : rOk C 0 0 := ⟨hr0, by omega, by omega, by simp; omega⟩
  have ok0 := Lib.hid ok0
  clear h1 h2
  go_wp2
  go_loopg [12, 13, 14] l1 (fun k x y z wr => ∃ (i : Nat) (cm gn : Int), x = .int .i64 cm ∧ y = .int .i64 gn ∧ z = .int .i64 i ∧ k + i = l1 ∧ rOk C cm gn ∧ cm ≤ 2000 * i ∧ Mine w3 wr m t tb lb (rS C cm gn))
  case atStart => exact ⟨0, 0, 0, rfl, rfl, rfl, by omega, ok0.out, by omega, hM1⟩
  case round =>
    obtain ⟨i, cm, gn, rfl, rfl, rfl, hki, hok, hcm, hM⟩ := hrel
    have Hok := Lib.hid hok
    by_cases hi : i < l1
    · obtain ⟨b, xi, rfl, hcell⟩ := hI1.out i hi
      have hcr := hM.kept.cell hcell (by simp)
      clear hcell
      go_wp2_with fail
      have hp := pick_lt xi 2000 (by decide)
      refine (pick_any xi 2000 wr (by decide) (by decide)).mono ?_
      rintro e w' ⟨rfl, rfl⟩
      generalize pick xi 2000 = n at *
      have hcell := hM.kept.cell (cellOf hbw.out 3 rfl) (by simp)
      obtain ⟨e1, e2, e3, e4⟩ := hok
      have e8 := tdiv8 e3.1
      have x1 := IntWalk.i64_in (C.room - cm) (by omega)
      have x2 := IntWalk.i64_in (gn.tdiv 8) (by omega)
      have x3 := IntWalk.i64_in (C.room - cm + gn.tdiv 8) (by omega)
      have hfd := rS_feed Hok.out n hp.1
      obtain ⟨fr, hfr⟩ : ∃ fr, fr = C.room - cm + gn.tdiv 8 := ⟨_, rfl⟩
      have hm1 : 0 ≤ min n fr ∧ min n fr < 2000 ∧ min n fr ≤ fr := by omega
      rw [← hfr] at hfd
      have hfeeds := feeds_true hM 1 n (min n fr) 0 (by rw [hfd]) (by rw [hfd])
      rw [hfd] at hfeeds
      have x4 := IntWalk.i64_in (cm + min n fr) (by omega)
      have hok1 : rOk C (cm + min n fr) gn := ⟨e1, by omega, by omega, by omega⟩
      have Hf := Lib.hid hfeeds
      have Hok1 := Lib.hid hok1
      have HM := Lib.hid hM
      clear hfd hok1 hfeeds e2 e3 e4 e8 hM
      have x3 := x3.trans hfr.symm
      have Hfr := Lib.hid hfr
      clear hfr
      go_wp2_with fail
      rw [← Hfr.out]
      refine (Hf.out).mono ?_
      rintro e wf ⟨rfl, hM⟩
      clear Hf HM hcell x1 x2 hcr
      obtain ⟨c2, hc2⟩ : ∃ c2, c2 = cm + min n fr := ⟨_, rfl⟩
      rw [← hc2] at x4 hM Hok1
      have x4 : IntKind.i64.wrap (cm + min n fr) = c2 := by rw [← hc2]; exact x4
      have hcell := hM.kept.cell (cellOf hbw.out 3 rfl) (by simp)
      have hlt : c2 ≤ 2000 * (i + 1) := by omega
      have Hlt := Lib.hid hlt
      have hok := Hok1.out
      obtain ⟨e1, e2, e3, e4⟩ := hok
      have y1 := IntWalk.i64_in (8 * c2) (by omega)
      have y2 := IntWalk.i64_in (8 * c2 - gn) (by omega)
      have y3 := IntWalk.i64_in (8 * c2 - gn + 1) (by omega)
      have y4 := IntWalk.i64_in (C.room - c2) (by omega)
      have hpp := Lib.hid fun x w => pick_any x (8 * c2 - gn + 1) w (by omega) (by omega)
      have hpl := Lib.hid fun x => pick_lt x (8 * c2 - gn + 1) (by omega)
      have Hr : Hid ((1024 ≤ C.room ∧ C.room ≤ 1048576) ∧ (0 ≤ c2 ∧ c2 ≤ 200000) ∧ (0 ≤ gn ∧ gn ≤ 8 * c2)) := Lib.hid ⟨e1, e2, e3⟩
      have HM := Lib.hid hM
      clear e1 e2 e3 e4 hlt hm1 hc2 hM hp hcm hM1 hr0 x3
      by_cases hi2 : i < l2
      · obtain ⟨b2, yi, rfl, hcell2⟩ := hI2.out i hi2
        have hcr2 := HM.out.kept.cell hcell2 (by simp)
        clear hcell2
        go_wp2_with fail
        refine (hpp.out yi wf).mono ?_
        rintro e w' ⟨rfl, rfl⟩
        have hpl := hpl.out yi
        generalize pick yi (8 * c2 - gn + 1) = p at *
        obtain ⟨g2, hg2⟩ : ∃ g2, g2 = gn + p := ⟨_, rfl⟩
        have x5 : IntKind.i64.wrap (gn + p) = g2 := by rw [hg2]; exact IntWalk.i64_in _ (by have := Hr.out; omega)
        clear hcr2
        have hok2 : rOk C c2 g2 := ⟨Hr.out.1, Hr.out.2.1, by have := Hr.out.2.2; omega, by have := Hr.out.2.2; have := Hok1.out.f; rw [tdiv8 (by omega)] at this ⊢; omega⟩
        have e8 := tdiv8 (g := g2) hok2.g.1
        have hgg : gn ≤ g2 := by omega
        have hsee := rS_see Hok1.out hok2 hgg hC
        have z0 := IntWalk.i64_in (8 * c2) (by have := hok2.c; omega)
        have z1 := IntWalk.i64_in (8 * c2 - g2) (by have := hok2.c; have := hok2.g; omega)
        have z2 := IntWalk.i64_in (g2.tdiv 8) (by have := hok2.c; have := hok2.g; omega)
        have z4 := IntWalk.i64_in (C.room - c2) (by have := hok2.c; have := hok2.r; omega)
        have z3 := IntWalk.i64_in (C.room - c2 + g2.tdiv 8) (by have := hok2.c; have := hok2.g; have := hok2.r; omega)
        have d1 : decide (C.room < C.room - c2 + g2.tdiv 8) = false := by rw [e8]; have := hok2.g; simp; omega
        have d2 : decide (C.room - c2 + g2.tdiv 8 < 0) = false := by have := hok2.f; simp; omega
        have d1 := Lib.hid d1
        have d2 := Lib.hid d2
        have hok2 := Lib.hid hok2
        clear e8 hgg hg2 hpl
        have hM1 := HM.out.on ((Keeps.refl _ _).alloc (.cells #[.int .i64 0, .int .i64 0, .int .i64 (8 * c2 - g2), .int .i64 (C.room - c2 + g2.tdiv 8), .int .i64 0, .int .i64 0, .int .i64 g2] 27))
        have hS := see_any hM1.at_ hM1.valid 1 ⟨0, 0, 8 * c2 - g2, C.room - c2 + g2.tdiv 8, 0, 0, g2⟩
        have hks := keep_see hM1.valid hM1.known 1 ⟨0, 0, 8 * c2 - g2, C.room - c2 + g2.tdiv 8, 0, 0, g2⟩
        rw [hsee] at hS hks
        have hS := Lib.hid hS
        have hks := Lib.hid hks
        have hM1 := Lib.hid hM1
        have hlb := HM.out.at_.live.lt
        have hlb := Lib.hid hlb
        clear hsee
        go_wp2_with fail
        refine hS.out.mono ?_
        rintro e w9 ⟨rfl, hl⟩
        have hM2 := hM1.out.left hl hks.out
        have hxb := hl.1.blk (heap_new_at _ rfl) (by have := hlb.out; simp; omega)
        obtain ⟨q0, q1, q2, q3, q4, q5, q6⟩ := cells7 hxb
        have hcell := hM2.kept.cell (cellOf hbw.out 3 rfl) (by simp)
        have d1 := d1.out
        have d2 := d2.out
        have hM2 := Lib.hid hM2
        clear hl hS hks hM1 hxb q0 q1 q2 q4 q5 q6 HM hpp Hfr
        go_wp2
        go_roundg (gk - 1)
        case measure => omega
        case rel => exact ⟨i + 1, c2, g2, rfl, rfl, by simp, by omega, hok2.out, by have := Hlt.out; omega, hM2.out⟩
      · 
        have hok2 : rOk C c2 gn := ⟨Hr.out.1, Hr.out.2.1, by have := Hr.out.2.2; omega, by have := Hr.out.2.2; have := Hok1.out.f; rw [tdiv8 (by omega)] at this ⊢; omega⟩
        have e8 := tdiv8 (g := gn) hok2.g.1
        have hgg : gn ≤ gn := by omega
        have hsee := rS_see Hok1.out hok2 hgg hC
        have z0 := IntWalk.i64_in (8 * c2) (by have := hok2.c; omega)
        have z1 := IntWalk.i64_in (8 * c2 - gn) (by have := hok2.c; have := hok2.g; omega)
        have z2 := IntWalk.i64_in (gn.tdiv 8) (by have := hok2.c; have := hok2.g; omega)
        have z4 := IntWalk.i64_in (C.room - c2) (by have := hok2.c; have := hok2.r; omega)
        have z3 := IntWalk.i64_in (C.room - c2 + gn.tdiv 8) (by have := hok2.c; have := hok2.g; have := hok2.r; omega)
        have d1 : decide (C.room < C.room - c2 + gn.tdiv 8) = false := by rw [e8]; have := hok2.g; simp; omega
        have d2 : decide (C.room - c2 + gn.tdiv 8 < 0) = false := by have := hok2.f; simp; omega
        have d1 := Lib.hid d1
        have d2 := Lib.hid d2
        have hok2 := Lib.hid hok2
        clear e8 hgg
        have hM1 := HM.out.on ((Keeps.refl _ _).alloc (.cells #[.int .i64 0, .int .i64 0, .int .i64 (8 * c2 - gn), .int .i64 (C.room - c2 + gn.tdiv 8), .int .i64 0, .int .i64 0, .int .i64 gn] 27))
        have hS := see_any hM1.at_ hM1.valid 1 ⟨0, 0, 8 * c2 - gn, C.room - c2 + gn.tdiv 8, 0, 0, gn⟩
        have hks := keep_see hM1.valid hM1.known 1 ⟨0, 0, 8 * c2 - gn, C.room - c2 + gn.tdiv 8, 0, 0, gn⟩
        rw [hsee] at hS hks
        have hS := Lib.hid hS
        have hks := Lib.hid hks
        have hM1 := Lib.hid hM1
        have hlb := HM.out.at_.live.lt
        have hlb := Lib.hid hlb
        clear hsee
        go_wp2_with fail
        refine hS.out.mono ?_
        rintro e w9 ⟨rfl, hl⟩
        have hM2 := hM1.out.left hl hks.out
        have hxb := hl.1.blk (heap_new_at _ rfl) (by have := hlb.out; simp; omega)
        obtain ⟨q0, q1, q2, q3, q4, q5, q6⟩ := cells7 hxb
        have hcell := hM2.kept.cell (cellOf hbw.out 3 rfl) (by simp)
        have d1 := d1.out
        have d2 := d2.out
        have hM2 := Lib.hid hM2
        clear hl hS hks hM1 hxb q0 q1 q2 q4 q5 q6 HM hpp Hfr
        go_wp2
        go_roundg (gk - 1)
        case measure => omega
        case rel => exact ⟨i + 1, c2, gn, rfl, rfl, by simp, by omega, hok2.out, by have := Hlt.out; omega, hM2.out⟩
    · clear hok hcm
      go_wp2
      go_ret
      exact ⟨rfl, hkw.trans hM.kept⟩

end Go.Proofs.Ythjghcfnopancaa
