/-
  ServerNone walked.
-/
import Derived.Test.YtkhokdikabopfaaGreatDoorServNone
import Derived.Deep.LoopGhost
namespace Go.Proofs.YtkhokdikabopfaaGreatDoor
open Go.RowKit Go.Shelf Go.Maps

/-- An act's value. -/
abbrev actVal (kind id n : Int) (q : Option Addr) (len cap : Nat) : Value := .agg #[.int .i64 kind, .int .i64 id, .int .i64 n, .slice q len cap]

set_option maxRecDepth 100000 in
set_option maxHeartbeats 1000000 in
theorem srvnone_calls (kind id n : Int) (q : Option Addr) (n9 m9 : Nat) (w : World) :
    Calls Tryz.prog 4 #[actVal kind id n q n9 m9] w fun e w' => e = .returned (.bool true) ∧ Keeps [] w w' := by
  by_cases h300 : 300 < n9
  · have d : decide ((300 : Int) < (n9 : Int)) = true := decide_eq_true (by omega)
    go_enter Tryz.func4, Tryz.ntmps4
    go_wp2_with (go_at_call 15; refine (awake_calls _).mono ?_; rintro e w' ⟨rfl, hk2⟩)
    go_ret
    exact ⟨rfl, (by repeat (first | exact Keeps.refl _ _ | assumption | refine Keeps.drew ?_ | refine Keeps.drewN ?_ _ | refine Keeps.alloc ?_ _ | refine Keeps.setCell ?_ (by simp <;> omega) _ | refine Keeps.trans ?_ (by assumption)))⟩
  have d : decide ((300 : Int) < (n9 : Int)) = false := decide_eq_false (by omega)
  go_enter Tryz.func4, Tryz.ntmps4
  go_wp2
  generalize hW : (((w.alloc (.cells #[.int .i64 kind, .int .i64 id, .int .i64 n, .slice q n9 m9] 44)).alloc (.cells #[.int .i64 0, .int .i64 0, .int .i64 0, .int .i64 0, .int .i64 0, .pointer none, .pointer none, .map none] 49)).alloc (.cells #[.pointer none, .pointer (some ⟨w.heap.size + 1, 0, none⟩)] 22)) = w3
  have hk0 : Keeps [] (((w.alloc (.cells #[.int .i64 kind, .int .i64 id, .int .i64 n, .slice q n9 m9] 44)).alloc (.cells #[.int .i64 0, .int .i64 0, .int .i64 0, .int .i64 0, .int .i64 0, .pointer none, .pointer none, .map none] 49)).alloc (.cells #[.pointer none, .pointer (some ⟨w.heap.size + 1, 0, none⟩)] 22)) w3 := by subst hW; exact Keeps.refl _ _
  have hkw : Keeps [] w w3 := by subst hW; exact ((Keeps.refl _ _).alloc _).alloc _ |>.alloc _
  obtain ⟨b0, b1, b2, -⟩ := hk0.new3 (by simp) (by simp) (by simp)
  have hb0 := Lib.hid b0
  have hb2 := Lib.hid b2
  have hE := Lib.hid (NoSrv.empty (cellOf b1 5 rfl))
  clear b0 b1 b2 hk0 hW
  go_loopg [4] 2 (fun k z wr => ∃ i : Nat, z = .int .i64 i ∧ k + i = 2 ∧ Keeps [] w3 wr)
  case atStart => exact ⟨0, rfl, by omega, Keeps.refl _ _⟩
  case round =>
    obtain ⟨i, rfl, hki, hk⟩ := hrel
    by_cases hi : i < 2
    · obtain ⟨p, hp, hN⟩ : ∃ p, wr.cell? ⟨w.heap.size + 1 + 1, i, none⟩ = some (.pointer p) ∧ NoSrv wr p := by
        have : i = 0 ∨ i = 1 := by omega
        rcases this with rfl | rfl
        · exact ⟨none, hk.cell (cellOf hb2.out 0 rfl) (by simp), NoSrv.nil _⟩
        · exact ⟨_, hk.cell (cellOf hb2.out 1 rfl) (by simp), hE.out.keep hk⟩
      have hp2 := Lib.hid hN
      have hbr := hk.blk hb0.out (by simp)
      obtain ⟨c0, c1, c2, c3⟩ := cells4 hbr
      have hbr := Lib.hid hbr
      clear hN hE hb2
      go_wp2_with fail
      refine (nos_open (hp2.out.keep ?_)).mono ?_
      · exact (by repeat (first | exact Keeps.refl _ _ | assumption | refine Keeps.drew ?_ | refine Keeps.drewN ?_ _ | refine Keeps.alloc ?_ _ | refine Keeps.setCell ?_ (by simp <;> omega) _ | refine Keeps.trans ?_ (by assumption)))
      rintro e v0 ⟨rfl, hj⟩
      have K0 : Keeps [] wr v0 := Keeps.trans (by repeat (first | exact Keeps.refl _ _ | assumption | refine Keeps.drew ?_ | refine Keeps.drewN ?_ _ | refine Keeps.alloc ?_ _ | refine Keeps.setCell ?_ (by simp <;> omega) _ | refine Keeps.trans ?_ (by assumption))) hj
      clear hj c0 c1 c2 c3
      obtain ⟨c0, c1, c2, c3⟩ := cells4 (K0.blk hbr.out (by simp))
      have lt := ltOf (K0.blk hbr.out (by simp))
      go_wp2_with fail
      refine (nos_feed (hp2.out.keep ?_) id q n9 m9).mono ?_
      · exact (by repeat (first | exact Keeps.refl _ _ | assumption | refine Keeps.drew ?_ | refine Keeps.drewN ?_ _ | refine Keeps.alloc ?_ _ | refine Keeps.setCell ?_ (by simp <;> omega) _ | refine Keeps.trans ?_ (by assumption)))
      rintro e v1 ⟨rfl, hj⟩
      have K1 : Keeps [] wr v1 := Keeps.trans (by repeat (first | exact Keeps.refl _ _ | assumption | refine Keeps.drew ?_ | refine Keeps.drewN ?_ _ | refine Keeps.alloc ?_ _ | refine Keeps.setCell ?_ (by simp <;> omega) _ | refine Keeps.trans ?_ (by assumption))) hj
      clear hj c0 c1 c2 c3 lt K0
      obtain ⟨c0, c1, c2, c3⟩ := cells4 (K1.blk hbr.out (by simp))
      have lt := ltOf (K1.blk hbr.out (by simp))
      go_wp2_with fail
      refine (nos_pick (hp2.out.keep ?_) id).mono ?_
      · exact (by repeat (first | exact Keeps.refl _ _ | assumption | refine Keeps.drew ?_ | refine Keeps.drewN ?_ _ | refine Keeps.alloc ?_ _ | refine Keeps.setCell ?_ (by simp <;> omega) _ | refine Keeps.trans ?_ (by assumption)))
      rintro e v2 ⟨rfl, hj⟩
      have K2 : Keeps [] wr v2 := Keeps.trans (by repeat (first | exact Keeps.refl _ _ | assumption | refine Keeps.drew ?_ | refine Keeps.drewN ?_ _ | refine Keeps.alloc ?_ _ | refine Keeps.setCell ?_ (by simp <;> omega) _ | refine Keeps.trans ?_ (by assumption))) hj
      clear hj c0 c1 c2 c3 lt K1
      obtain ⟨c0, c1, c2, c3⟩ := cells4 (K2.blk hbr.out (by simp))
      have lt := ltOf (K2.blk hbr.out (by simp))
      go_wp2_with fail
      refine (nos_drain (hp2.out.keep ?_) id).mono ?_
      · exact (by repeat (first | exact Keeps.refl _ _ | assumption | refine Keeps.drew ?_ | refine Keeps.drewN ?_ _ | refine Keeps.alloc ?_ _ | refine Keeps.setCell ?_ (by simp <;> omega) _ | refine Keeps.trans ?_ (by assumption)))
      rintro e v3 ⟨rfl, hj⟩
      have K3 : Keeps [] wr v3 := Keeps.trans (by repeat (first | exact Keeps.refl _ _ | assumption | refine Keeps.drew ?_ | refine Keeps.drewN ?_ _ | refine Keeps.alloc ?_ _ | refine Keeps.setCell ?_ (by simp <;> omega) _ | refine Keeps.trans ?_ (by assumption))) hj
      clear hj c0 c1 c2 c3 lt K2
      obtain ⟨c0, c1, c2, c3⟩ := cells4 (K3.blk hbr.out (by simp))
      have lt := ltOf (K3.blk hbr.out (by simp))
      go_wp2_with fail
      refine (nos_press (hp2.out.keep ?_) n).mono ?_
      · exact (by repeat (first | exact Keeps.refl _ _ | assumption | refine Keeps.drew ?_ | refine Keeps.drewN ?_ _ | refine Keeps.alloc ?_ _ | refine Keeps.setCell ?_ (by simp <;> omega) _ | refine Keeps.trans ?_ (by assumption)))
      rintro e v4 ⟨rfl, hj⟩
      have K4 : Keeps [] wr v4 := Keeps.trans (by repeat (first | exact Keeps.refl _ _ | assumption | refine Keeps.drew ?_ | refine Keeps.drewN ?_ _ | refine Keeps.alloc ?_ _ | refine Keeps.setCell ?_ (by simp <;> omega) _ | refine Keeps.trans ?_ (by assumption))) hj
      clear hj c0 c1 c2 c3 lt K3
      obtain ⟨c0, c1, c2, c3⟩ := cells4 (K4.blk hbr.out (by simp))
      have lt := ltOf (K4.blk hbr.out (by simp))
      go_wp2_with fail
      refine (nos_status (hp2.out.keep ?_) id).mono ?_
      · exact (by repeat (first | exact Keeps.refl _ _ | assumption | refine Keeps.drew ?_ | refine Keeps.drewN ?_ _ | refine Keeps.alloc ?_ _ | refine Keeps.setCell ?_ (by simp <;> omega) _ | refine Keeps.trans ?_ (by assumption)))
      rintro e v5 ⟨rfl, hj⟩
      have K5 : Keeps [] wr v5 := Keeps.trans (by repeat (first | exact Keeps.refl _ _ | assumption | refine Keeps.drew ?_ | refine Keeps.drewN ?_ _ | refine Keeps.alloc ?_ _ | refine Keeps.setCell ?_ (by simp <;> omega) _ | refine Keeps.trans ?_ (by assumption))) hj
      clear hj c0 c1 c2 c3 lt K4
      obtain ⟨c0, c1, c2, c3⟩ := cells4 (K5.blk hbr.out (by simp))
      have lt := ltOf (K5.blk hbr.out (by simp))
      go_wp2_with fail
      refine (nos_look (hp2.out.keep ?_) 0 0).mono ?_
      · exact (by repeat (first | exact Keeps.refl _ _ | assumption | refine Keeps.drew ?_ | refine Keeps.drewN ?_ _ | refine Keeps.alloc ?_ _ | refine Keeps.setCell ?_ (by simp <;> omega) _ | refine Keeps.trans ?_ (by assumption)))
      rintro e v6 ⟨rfl, hj⟩
      have K6 : Keeps [] wr v6 := Keeps.trans (by repeat (first | exact Keeps.refl _ _ | assumption | refine Keeps.drew ?_ | refine Keeps.drewN ?_ _ | refine Keeps.alloc ?_ _ | refine Keeps.setCell ?_ (by simp <;> omega) _ | refine Keeps.trans ?_ (by assumption))) hj
      clear hj c0 c1 c2 c3 lt K5
      obtain ⟨c0, c1, c2, c3⟩ := cells4 (K6.blk hbr.out (by simp))
      have lt := ltOf (K6.blk hbr.out (by simp))
      go_wp2_with fail
      refine (nos_frame (hp2.out.keep ?_) 0).mono ?_
      · exact (by repeat (first | exact Keeps.refl _ _ | assumption | refine Keeps.drew ?_ | refine Keeps.drewN ?_ _ | refine Keeps.alloc ?_ _ | refine Keeps.setCell ?_ (by simp <;> omega) _ | refine Keeps.trans ?_ (by assumption)))
      rintro e v7 ⟨rfl, hj⟩
      have K7 : Keeps [] wr v7 := Keeps.trans (by repeat (first | exact Keeps.refl _ _ | assumption | refine Keeps.drew ?_ | refine Keeps.drewN ?_ _ | refine Keeps.alloc ?_ _ | refine Keeps.setCell ?_ (by simp <;> omega) _ | refine Keeps.trans ?_ (by assumption))) hj
      clear hj c0 c1 c2 c3 lt K6
      obtain ⟨c0, c1, c2, c3⟩ := cells4 (K7.blk hbr.out (by simp))
      have lt := ltOf (K7.blk hbr.out (by simp))
      go_wp2_with fail
      refine (nos_end (hp2.out.keep ?_) id).mono ?_
      · exact (by repeat (first | exact Keeps.refl _ _ | assumption | refine Keeps.drew ?_ | refine Keeps.drewN ?_ _ | refine Keeps.alloc ?_ _ | refine Keeps.setCell ?_ (by simp <;> omega) _ | refine Keeps.trans ?_ (by assumption)))
      rintro e v8 ⟨rfl, hj⟩
      have K8 : Keeps [] wr v8 := Keeps.trans (by repeat (first | exact Keeps.refl _ _ | assumption | refine Keeps.drew ?_ | refine Keeps.drewN ?_ _ | refine Keeps.alloc ?_ _ | refine Keeps.setCell ?_ (by simp <;> omega) _ | refine Keeps.trans ?_ (by assumption))) hj
      clear hj c0 c1 c2 c3 lt K7
      obtain ⟨c0, c1, c2, c3⟩ := cells4 (K8.blk hbr.out (by simp))
      have lt := ltOf (K8.blk hbr.out (by simp))
      go_wp2_with fail
      refine (nos_Close (hp2.out.keep ?_) id).mono ?_
      · exact (by repeat (first | exact Keeps.refl _ _ | assumption | refine Keeps.drew ?_ | refine Keeps.drewN ?_ _ | refine Keeps.alloc ?_ _ | refine Keeps.setCell ?_ (by simp <;> omega) _ | refine Keeps.trans ?_ (by assumption)))
      rintro e v9 ⟨rfl, hj⟩
      have K9 : Keeps [] wr v9 := Keeps.trans (by repeat (first | exact Keeps.refl _ _ | assumption | refine Keeps.drew ?_ | refine Keeps.drewN ?_ _ | refine Keeps.alloc ?_ _ | refine Keeps.setCell ?_ (by simp <;> omega) _ | refine Keeps.trans ?_ (by assumption))) hj
      clear hj c0 c1 c2 c3 lt K8
      obtain ⟨c0, c1, c2, c3⟩ := cells4 (K9.blk hbr.out (by simp))
      have lt := ltOf (K9.blk hbr.out (by simp))
      go_wp2_with fail
      refine (nos_Evict (hp2.out.keep ?_) id).mono ?_
      · exact (by repeat (first | exact Keeps.refl _ _ | assumption | refine Keeps.drew ?_ | refine Keeps.drewN ?_ _ | refine Keeps.alloc ?_ _ | refine Keeps.setCell ?_ (by simp <;> omega) _ | refine Keeps.trans ?_ (by assumption)))
      rintro e v10 ⟨rfl, hj⟩
      have K10 : Keeps [] wr v10 := Keeps.trans (by repeat (first | exact Keeps.refl _ _ | assumption | refine Keeps.drew ?_ | refine Keeps.drewN ?_ _ | refine Keeps.alloc ?_ _ | refine Keeps.setCell ?_ (by simp <;> omega) _ | refine Keeps.trans ?_ (by assumption))) hj
      clear hj c0 c1 c2 c3 lt K9
      obtain ⟨c0, c1, c2, c3⟩ := cells4 (K10.blk hbr.out (by simp))
      have lt := ltOf (K10.blk hbr.out (by simp))
      go_wp2_with fail
      refine (nos_live (hp2.out.keep ?_)).mono ?_
      · exact (by repeat (first | exact Keeps.refl _ _ | assumption | refine Keeps.drew ?_ | refine Keeps.drewN ?_ _ | refine Keeps.alloc ?_ _ | refine Keeps.setCell ?_ (by simp <;> omega) _ | refine Keeps.trans ?_ (by assumption)))
      rintro e v11 ⟨rfl, hj⟩
      have K11 : Keeps [] wr v11 := Keeps.trans (by repeat (first | exact Keeps.refl _ _ | assumption | refine Keeps.drew ?_ | refine Keeps.drewN ?_ _ | refine Keeps.alloc ?_ _ | refine Keeps.setCell ?_ (by simp <;> omega) _ | refine Keeps.trans ?_ (by assumption))) hj
      clear hj c0 c1 c2 c3 lt K10
      obtain ⟨c0, c1, c2, c3⟩ := cells4 (K11.blk hbr.out (by simp))
      have lt := ltOf (K11.blk hbr.out (by simp))
      go_wp2_with fail
      refine (nos_free (hp2.out.keep ?_)).mono ?_
      · exact (by repeat (first | exact Keeps.refl _ _ | assumption | refine Keeps.drew ?_ | refine Keeps.drewN ?_ _ | refine Keeps.alloc ?_ _ | refine Keeps.setCell ?_ (by simp <;> omega) _ | refine Keeps.trans ?_ (by assumption)))
      rintro e v12 ⟨rfl, hj⟩
      have K12 : Keeps [] wr v12 := Keeps.trans (by repeat (first | exact Keeps.refl _ _ | assumption | refine Keeps.drew ?_ | refine Keeps.drewN ?_ _ | refine Keeps.alloc ?_ _ | refine Keeps.setCell ?_ (by simp <;> omega) _ | refine Keeps.trans ?_ (by assumption))) hj
      clear hj c0 c1 c2 c3 lt K11
      obtain ⟨c0, c1, c2, c3⟩ := cells4 (K12.blk hbr.out (by simp))
      have lt := ltOf (K12.blk hbr.out (by simp))
      go_wp2
      go_roundg (gk - 1)
      case measure => omega
      case rel => exact ⟨i + 1, by simp, by omega, hk.trans K12⟩
    · have hi2 : i = 2 := by omega
      subst hi2
      go_wp2_with (go_at_call 15; refine (awake_calls _).mono ?_; rintro e w' ⟨rfl, hk2⟩)
      go_ret
      exact ⟨rfl, (hkw.trans hk).trans hk2⟩

end Go.Proofs.YtkhokdikabopfaaGreatDoor
