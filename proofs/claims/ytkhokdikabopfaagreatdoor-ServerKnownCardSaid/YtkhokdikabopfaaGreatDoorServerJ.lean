/-
  The chapter's examples on servers: awake.
-/
import Derived.Test.YtkhokdikabopfaaGreatDoorServerI
namespace Go.Proofs.YtkhokdikabopfaaGreatDoor
open Go.RowKit Go.Shelf Go.Maps

theorem filter_ne1 {z1 z2 : Sess} (h1 : z1.id = 1) (h2 : z2.id = 2) : [z1, z2].filter (fun y => y.id != 1) = [z2] := by simp [h1, h2]

set_option maxRecDepth 100000 in
set_option maxHeartbeats 1000000 in
theorem awake_calls (w : World) : Calls Tryz.prog 15 #[] w fun e w' => e = .returned (.bool true) ∧ Keeps [] w w' := by
  go_enter Tryz.func15, Tryz.ntmps15
  go_wp2_with fail
  refine (two_calls w).mono ?_
  rintro e w1 ⟨v, rfl, P, z1, z2, rfl, i1, b1, i2, b2, h1⟩
  have i1 := Lib.hid i1
  have b1 := Lib.hid b1
  have i2 := Lib.hid i2
  have b2 := Lib.hid b2
  go_wp2_with fail
  have hC := h1.closed (z := z1) (by simp) i1.out
  rw [filter_ne1 i1.out i2.out] at hC
  refine hC.mono ?_
  rintro e w2 ⟨rfl, h2⟩
  clear h1 hC
  go_wp2_with fail
  have hC := h2.closed_no 1 (by decide)
  have hv : vref (ended [(1, 0), (2, 0)] 1 21) 1 = 21 := by decide
  rw [hv] at hC
  refine hC.mono ?_
  rintro e w3 ⟨rfl, h3⟩
  clear h2 hC hv
  go_wp2_with fail
  refine (opens_yes h3 (by simp [exC]) (by simp [exC]) (by decide) (by decide)).mono ?_
  rintro e w4 ⟨z3, rfl, i3, b3, h4⟩
  have i3 := Lib.hid i3
  have b3 := Lib.hid b3
  clear h3
  go_wp2_with fail
  have hE := h4.endd (z := z2) (by simp) (by simp [b2.out.2.2]) b2.out.1 i2.out
  refine hE.mono ?_
  rintro e w5 ⟨rfl, h5⟩
  clear h4 hE
  go_wp2_with fail
  have hD := h5.drained (z := { z2 with ended := true }) (mem_swap (L := [z2] ++ [z3]) (z := z2) (z' := { z2 with ended := true }) (by simp) rfl) _ _ _ b2.out.2.1 i2.out
  refine (drains_of hD (fun w' h => h.on ((Keeps.refl [] w').alloc _))).mono ?_
  rintro e w6 ⟨rfl, h6⟩
  clear h5 hD
  go_wp2
  go_ret
  exact ⟨rfl, h6.kept⟩

end Go.Proofs.YtkhokdikabopfaaGreatDoor
