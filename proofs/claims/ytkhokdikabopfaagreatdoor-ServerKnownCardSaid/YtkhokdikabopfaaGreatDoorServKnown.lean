/-
  ServerKnown walked.
-/
import Derived.Test.YtkhokdikabopfaaGreatDoorServerQ
namespace Go.Proofs.YtkhokdikabopfaaGreatDoor
open Go.RowKit Go.Shelf Go.Maps

theorem Srv.picked {w0 w : World} {P : SrvP} {c : Cf} {last : Int} {l : List (Int × Int)} {L : List Sess} (h : Srv w0 w P c last l L) {z : Sess} (hz : z ∈ L) (he : z.ended = true) (hx : z.nx = .func (.func 72) #[.pointer (some ⟨z.x, 0, none⟩)] #[]) {id : Int} (hid : z.id = id) :
    Calls Tryz.prog 12 #[.pointer (some ⟨P.s, 0, none⟩), .int .i64 id] w fun e w' => e = .returned (.tuple #[.int .i64 5, .int .i64 0]) ∧ Srv w0 w' P c last l (swap L { z with nx := .nilFunc, cause := 20 }) := by
  subst hid
  exact (vpick h.at_ h.cok h.ok hz he hx).mono fun _ _ ⟨h1, h2, h3⟩ => ⟨h1, h.step h2 (by have := h.lo z hz; have := (h.at_.sess z hz).1.ne; simp; omega) h3 (h.ok.swap _) (fun y hy => by
    obtain ⟨x, hx, rfl⟩ := List.mem_map.1 hy
    by_cases e : x.id = z.id
    · simp only [e, if_true]; exact h.lo z hz
    · rw [if_neg e]; exact h.lo x hx)⟩

theorem Srv.drained_over {w0 w : World} {P : SrvP} {c : Cf} {last : Int} {l : List (Int × Int)} {L : List Sess} (h : Srv w0 w P c last l L) {z : Sess} (hz : z ∈ L) (hx : z.nx = .nilFunc) {id cause : Int} (hid : z.id = id) (hca : z.cause = cause) (h0 : cause ≠ 0) (h16 : cause ≠ 16) :
    Calls Tryz.prog 17 #[.pointer (some ⟨P.s, 0, none⟩), .int .i64 id] w fun e w' => e = .returned (.tuple #[noPic, .int .i64 cause]) ∧ Srv w0 w' P c last (ended l id cause) (L.filter fun y => y.id != id) := by
  subst hid hca
  exact (vdrain_over h.at_ h.cok h.ok hz hx h0 h16).mono fun _ _ ⟨h1, h2, h3⟩ => ⟨h1, h.over hz h0 h2 (by simp) h3⟩

theorem Srv.drained_no {w0 w : World} {P : SrvP} {c : Cf} {last : Int} {l : List (Int × Int)} {L : List Sess} (h : Srv w0 w P c last l L) (id : Int) (hr : vref l id ≠ 0) :
    Calls Tryz.prog 17 #[.pointer (some ⟨P.s, 0, none⟩), .int .i64 id] w fun e w' => e = .returned (.tuple #[noPic, .int .i64 (vref l id)]) ∧ Srv w0 w' P c last l L :=
  (vdrain_no h.at_ h.cok id hr).mono fun _ _ ⟨h1, h2⟩ => ⟨h1, h.on h2⟩

theorem stat_same (w : World) : (binOp BinOp.neq 31 (overStat 21) (overStat 21)).run Tryz.prog w = .ok (.bool false) w := by kernel_rfl

set_option maxRecDepth 100000 in
set_option maxHeartbeats 2000000 in
theorem srvknown_calls (w : World) : Calls Tryz.prog 3 #[] w fun e w' => e = .returned (.bool true) ∧ Keeps [] w w' := by
  have hss := stat_same
  go_enter Tryz.func3, Tryz.ntmps3
  go_wp2_with fail
  refine (two_calls w).mono ?_
  rintro e w1 ⟨v, rfl, P, z1, z2, rfl, i1, b1, i2, b2, h1⟩
  have i1 := Lib.hid i1
  have b1 := Lib.hid b1
  have i2 := Lib.hid i2
  have b2 := Lib.hid b2
  go_wp2_with fail
  have hC := h1.closed (z := z1) (by simp) i1.out
  rw [filter_ne1 i1.out i2.out] at hC
  refine hC.mono ?_
  rintro e w2 ⟨rfl, h2⟩
  clear h1 hC
  go_wp2_with fail
  have hC := h2.closed_no 1 (by decide)
  have hv : vref (ended [(1, 0), (2, 0)] 1 21) 1 = 21 := by decide
  rw [hv] at hC
  refine hC.mono ?_
  rintro e w3 ⟨rfl, h3⟩
  clear h2 hC
  go_wp2_with fail
  have h3 := h3.on ((Keeps.refl [] w3).alloc (.cells #[.int .u8 5] 5))
  have hF := vfeed_no h3.at_ h3.cok 1 (by decide) (some ⟨w3.heap.size, 0, none⟩) 1 1
  rw [hv] at hF
  refine hF.mono ?_
  rintro e w4 ⟨rfl, hk4⟩
  have h4 := h3.on hk4
  clear h3 hF hk4 hv
  go_wp2_with fail
  refine (opens_yes h4 (by simp [exC]) (by simp [exC]) (by decide) (by decide)).mono ?_
  rintro e w5 ⟨z3, rfl, i3, b3, h5⟩
  have i3 := Lib.hid i3
  have b3 := Lib.hid b3
  clear h4
  go_wp2_with fail
  refine (vstatus_over h5.at_ h5.cok 1 21 (by decide) (by decide)).mono ?_
  rintro e w6 ⟨rfl, hk6⟩
  have h6 := h5.on hk6
  clear h5 hk6
  go_wp2_with fail
  have h7 := h6.on ((Keeps.refl [] w6).alloc (.cells #[.int .i64 21, .int .i64 0, .int .i64 0, .int .i64 0, .int .i64 0, .int .i64 0, .int .i64 0] 31))
  have h7 := h7.on ((Keeps.refl [] _).alloc (.cells #[.int .u8 5] 5))
  have hF := vfeed_no h7.at_ h7.cok 9 (by decide) (some ⟨w6.heap.size + 1, 0, none⟩) 1 1
  have hv : vref (ended [(1, 0), (2, 0)] 1 21 ++ [(2 + 1, 0)]) 9 = 18 := by decide
  rw [hv] at hF
  refine hF.mono ?_
  rintro e w8 ⟨rfl, hk8⟩
  have h8 := h7.on hk8
  obtain ⟨b4, -, -⟩ := hk8.new2 (by simp) (by simp)
  obtain ⟨p0, p1, p2, p3, p4, p5, p6⟩ := cells7 b4
  clear h6 h7 hF hk8 hv b4
  go_wp2_with fail
  have hE := h8.endd (z := z2) (by simp) (by simp [b2.out.2.2]) b2.out.1 i2.out
  refine hE.mono ?_
  rintro e w9 ⟨rfl, h9⟩
  clear h8 hE p0 p1 p2 p3 p4 p5 p6
  go_wp2_with fail
  have hm9 : ({ z2 with ended := true } : Sess) ∈ swap ([z2] ++ [z3]) { z2 with ended := true } := mem_swap (z := z2) (by simp) rfl
  have hD := h9.drained hm9 _ _ _ b2.out.2.1 i2.out
  refine (drains_of hD (fun w' h => h.on ((Keeps.refl [] w').alloc _))).mono ?_
  rintro e w10 ⟨rfl, h10⟩
  clear h9 hD
  go_wp2_with fail
  have hP := h10.picked hm9 rfl b2.out.2.1 i2.out
  refine hP.mono ?_
  rintro e w11 ⟨rfl, h11⟩
  clear h10 hP
  have e1 : swap (swap ([z2] ++ [z3]) { z2 with ended := true }) { z2 with ended := true, nx := .nilFunc, cause := 20 } = [{ z2 with ended := true, nx := .nilFunc, cause := 20 }, z3] := by
    have := i2.out; have := i3.out
    simp [swap, *]
  simp only [e1] at h11
  clear e1 hm9
  go_wp2_with fail
  have hD := h11.drained_over (z := { z2 with ended := true, nx := .nilFunc, cause := 20 }) (by simp) rfl i2.out (cause := 20) rfl (by decide) (by decide)
  refine (drains_of hD (fun w' h => h.on ((Keeps.refl [] w').alloc _))).mono ?_
  rintro e w12 ⟨rfl, h12⟩
  clear h11 hD
  go_wp2_with fail
  have hv : vref (ended (ended [(1, 0), (2, 0)] 1 21 ++ [(2 + 1, 0)]) 2 20) 2 = 20 := by decide
  have hD := h12.drained_no 2 (by decide)
  rw [hv] at hD
  refine (drains_of hD (fun w' h => h.on ((Keeps.refl [] w').alloc _))).mono ?_
  rintro e w13 ⟨rfl, h13⟩
  clear h12 hD hv
  go_wp2_with fail
  refine (vpress_idle h13.at_ h13.cok h13.ok 5 (by decide)).mono ?_
  rintro e w14 ⟨rfl, hk14⟩
  have h14 := h13.on hk14
  clear h13 hk14
  go_wp2_with fail
  refine (vpress_no h14.at_ 6 (by decide)).mono ?_
  rintro e w15 ⟨rfl, hk15⟩
  have h15 := h14.on hk15
  clear h14 hk15
  go_wp2_with fail
  refine (vnew_bad 2 5 1 1024 2 _ (by omega)).mono ?_
  rintro e w16 ⟨rfl, hk16⟩
  go_wp2_with fail
  refine (vnew_bad 2 2 3 1024 2 _ (by omega)).mono ?_
  rintro e w17 ⟨rfl, hk17⟩
  go_wp2_with fail
  refine (awake_calls _).mono ?_
  rintro e w18 ⟨rfl, hk18⟩
  go_wp2
  go_ret
  exact ⟨rfl, ((h15.kept.trans hk16).trans hk17).trans hk18⟩

end Go.Proofs.YtkhokdikabopfaaGreatDoor
