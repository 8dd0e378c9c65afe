/-
  ModelNone walked.
-/
import Derived.Test.YthjghcfnopancaaNone
import Derived.Deep.LoopGhost
namespace Go.Proofs.Ythjghcfnopancaa
open Go.RowKit Go.Shelf Go.Maps

theorem cells10 {w : World} {b : Nat} {T : TypeId} {z : Nat × Nat} {a0 a1 a2 a3 a4 a5 a6 a7 a8 a9 : Value} (h : w.heap[b]? = some (.cells #[a0, a1, a2, a3, a4, a5, a6, a7, a8, a9] T z)) :
    w.cell? ⟨b, 0, none⟩ = some a0 ∧ w.cell? ⟨b, 1, none⟩ = some a1 ∧ w.cell? ⟨b, 2, none⟩ = some a2 ∧ w.cell? ⟨b, 3, none⟩ = some a3 ∧ w.cell? ⟨b, 4, none⟩ = some a4 ∧ w.cell? ⟨b, 5, none⟩ = some a5 ∧ w.cell? ⟨b, 6, none⟩ = some a6 ∧ w.cell? ⟨b, 7, none⟩ = some a7 ∧ w.cell? ⟨b, 8, none⟩ = some a8 ∧ w.cell? ⟨b, 9, none⟩ = some a9 :=
  ⟨cellOf h 0 rfl, cellOf h 1 rfl, cellOf h 2 rfl, cellOf h 3 rfl, cellOf h 4 rfl, cellOf h 5 rfl, cellOf h 6 rfl, cellOf h 7 rfl, cellOf h 8 rfl, cellOf h 9 rfl⟩

set_option maxRecDepth 100000 in
set_option maxHeartbeats 1000000 in
theorem none_calls (kind id n : Int) (s : St) (w : World) :
    Calls Try.prog 5 #[.agg #[.int .i64 kind, .int .i64 id, .int .i64 n, .int .i64 s.cause, .int .i64 s.queued, .int .i64 s.left, .int .i64 s.free, .int .i64 s.frames, .int .i64 s.pictures, .int .i64 s.gone]] w fun e w' => e = .returned (.bool true) ∧ Keeps [] w w' := by
  obtain ⟨s0, s1, s2, s3, s4, s5, s6⟩ := s
  simp only
  go_enter Try.func5, Try.ntmps5
  go_wp2
  generalize hW : (((w.alloc (.cells #[.int .i64 kind, .int .i64 id, .int .i64 n, .int .i64 s0, .int .i64 s1, .int .i64 s2, .int .i64 s3, .int .i64 s4, .int .i64 s5, .int .i64 s6] 45)).alloc (.cells #[.int .i64 0, .int .i64 0, .int .i64 0, .int .i64 0, .int .i64 0, .pointer none, .map none] 49)).alloc (.cells #[.pointer none, .pointer (some ⟨w.heap.size + 1, 0, none⟩)] 22)) = w3
  have hk0 : Keeps [] (((w.alloc (.cells #[.int .i64 kind, .int .i64 id, .int .i64 n, .int .i64 s0, .int .i64 s1, .int .i64 s2, .int .i64 s3, .int .i64 s4, .int .i64 s5, .int .i64 s6] 45)).alloc (.cells #[.int .i64 0, .int .i64 0, .int .i64 0, .int .i64 0, .int .i64 0, .pointer none, .map none] 49)).alloc (.cells #[.pointer none, .pointer (some ⟨w.heap.size + 1, 0, none⟩)] 22)) w3 := by subst hW; exact Keeps.refl _ _
  have hkw : Keeps [] w w3 := by subst hW; exact ((Keeps.refl _ _).alloc _).alloc _ |>.alloc _
  obtain ⟨b0, b1, b2, -⟩ := hk0.new3 (by simp) (by simp) (by simp)
  have hb0 := Lib.hid b0
  have hb2 := Lib.hid b2
  have hE := Lib.hid (NoOne.empty (cellOf b1 5 rfl))
  clear b0 b1 b2 hk0 hW
  go_loopg [4] 2 (fun k z wr => ∃ i : Nat, z = .int .i64 i ∧ k + i = 2 ∧ Keeps [] w3 wr)
  case atStart => exact ⟨0, rfl, by omega, Keeps.refl _ _⟩
  case round =>
    obtain ⟨i, rfl, hki, hk⟩ := hrel
    by_cases hi : i < 2
    · obtain ⟨p, hp, hN⟩ : ∃ p, wr.cell? ⟨w.heap.size + 1 + 1, i, none⟩ = some (.pointer p) ∧ NoOne wr p := by
        have : i = 0 ∨ i = 1 := by omega
        rcases this with rfl | rfl
        · exact ⟨none, hk.cell (cellOf hb2.out 0 rfl) (by simp), NoOne.nil _⟩
        · exact ⟨_, hk.cell (cellOf hb2.out 1 rfl) (by simp), hE.out.keep hk⟩
      have hp2 := Lib.hid hN
      have hbr := hk.blk hb0.out (by simp)
      obtain ⟨c0, c1, c2, c3, c4, c5, c6, c7, c8, c9⟩ := cells10 hbr
      have hbr := Lib.hid hbr
      clear hN hE hb2
      go_wp2_with fail
      refine (no_open (hp2.out.keep ?_)).mono ?_
      · exact (by repeat (first | exact Keeps.refl _ _ | assumption | refine Keeps.drew ?_ | refine Keeps.drewN ?_ _ | refine Keeps.alloc ?_ _ | refine Keeps.setCell ?_ (by simp <;> omega) _ | refine Keeps.trans ?_ (by assumption)))
      rintro e v0 ⟨rfl, hj⟩
      have K0 : Keeps [] wr v0 := Keeps.trans (by repeat (first | exact Keeps.refl _ _ | assumption | refine Keeps.drew ?_ | refine Keeps.drewN ?_ _ | refine Keeps.alloc ?_ _ | refine Keeps.setCell ?_ (by simp <;> omega) _ | refine Keeps.trans ?_ (by assumption))) hj
      clear hj c0 c1 c2 c3 c4 c5 c6 c7 c8 c9
      obtain ⟨c0, c1, c2, c3, c4, c5, c6, c7, c8, c9⟩ := cells10 (K0.blk hbr.out (by simp))
      have lt := ltOf (K0.blk hbr.out (by simp))
      go_wp2_with fail
      refine (no_feed (hp2.out.keep ?_) id n).mono ?_
      · exact (by repeat (first | exact Keeps.refl _ _ | assumption | refine Keeps.drew ?_ | refine Keeps.drewN ?_ _ | refine Keeps.alloc ?_ _ | refine Keeps.setCell ?_ (by simp <;> omega) _ | refine Keeps.trans ?_ (by assumption)))
      rintro e v1 ⟨rfl, hj⟩
      have K1 : Keeps [] wr v1 := Keeps.trans (by repeat (first | exact Keeps.refl _ _ | assumption | refine Keeps.drew ?_ | refine Keeps.drewN ?_ _ | refine Keeps.alloc ?_ _ | refine Keeps.setCell ?_ (by simp <;> omega) _ | refine Keeps.trans ?_ (by assumption))) hj
      clear hj c0 c1 c2 c3 c4 c5 c6 c7 c8 c9 lt K0
      obtain ⟨c0, c1, c2, c3, c4, c5, c6, c7, c8, c9⟩ := cells10 (K1.blk hbr.out (by simp))
      have lt := ltOf (K1.blk hbr.out (by simp))
      go_wp2_with fail
      refine (no_press (hp2.out.keep ?_) n).mono ?_
      · exact (by repeat (first | exact Keeps.refl _ _ | assumption | refine Keeps.drew ?_ | refine Keeps.drewN ?_ _ | refine Keeps.alloc ?_ _ | refine Keeps.setCell ?_ (by simp <;> omega) _ | refine Keeps.trans ?_ (by assumption)))
      rintro e v2 ⟨rfl, hj⟩
      have K2 : Keeps [] wr v2 := Keeps.trans (by repeat (first | exact Keeps.refl _ _ | assumption | refine Keeps.drew ?_ | refine Keeps.drewN ?_ _ | refine Keeps.alloc ?_ _ | refine Keeps.setCell ?_ (by simp <;> omega) _ | refine Keeps.trans ?_ (by assumption))) hj
      clear hj c0 c1 c2 c3 c4 c5 c6 c7 c8 c9 lt K1
      obtain ⟨c0, c1, c2, c3, c4, c5, c6, c7, c8, c9⟩ := cells10 (K2.blk hbr.out (by simp))
      have lt := ltOf (K2.blk hbr.out (by simp))
      go_wp2_with fail
      refine (no_status (hp2.out.keep ?_) id).mono ?_
      · exact (by repeat (first | exact Keeps.refl _ _ | assumption | refine Keeps.drew ?_ | refine Keeps.drewN ?_ _ | refine Keeps.alloc ?_ _ | refine Keeps.setCell ?_ (by simp <;> omega) _ | refine Keeps.trans ?_ (by assumption)))
      rintro e v3 ⟨rfl, hj⟩
      have K3 : Keeps [] wr v3 := Keeps.trans (by repeat (first | exact Keeps.refl _ _ | assumption | refine Keeps.drew ?_ | refine Keeps.drewN ?_ _ | refine Keeps.alloc ?_ _ | refine Keeps.setCell ?_ (by simp <;> omega) _ | refine Keeps.trans ?_ (by assumption))) hj
      clear hj c0 c1 c2 c3 c4 c5 c6 c7 c8 c9 lt K2
      obtain ⟨c0, c1, c2, c3, c4, c5, c6, c7, c8, c9⟩ := cells10 (K3.blk hbr.out (by simp))
      have lt := ltOf (K3.blk hbr.out (by simp))
      go_wp2_with fail
      refine (no_stop (hp2.out.keep ?_) id).mono ?_
      · exact (by repeat (first | exact Keeps.refl _ _ | assumption | refine Keeps.drew ?_ | refine Keeps.drewN ?_ _ | refine Keeps.alloc ?_ _ | refine Keeps.setCell ?_ (by simp <;> omega) _ | refine Keeps.trans ?_ (by assumption)))
      rintro e v4 ⟨rfl, hj⟩
      have K4 : Keeps [] wr v4 := Keeps.trans (by repeat (first | exact Keeps.refl _ _ | assumption | refine Keeps.drew ?_ | refine Keeps.drewN ?_ _ | refine Keeps.alloc ?_ _ | refine Keeps.setCell ?_ (by simp <;> omega) _ | refine Keeps.trans ?_ (by assumption))) hj
      clear hj c0 c1 c2 c3 c4 c5 c6 c7 c8 c9 lt K3
      obtain ⟨c0, c1, c2, c3, c4, c5, c6, c7, c8, c9⟩ := cells10 (K4.blk hbr.out (by simp))
      have lt := ltOf (K4.blk hbr.out (by simp))
      go_wp2_with fail
      refine (no_see (hp2.out.keep ?_) id ⟨s0, s1, s2, s3, s4, s5, s6⟩).mono ?_
      · exact (by repeat (first | exact Keeps.refl _ _ | assumption | refine Keeps.drew ?_ | refine Keeps.drewN ?_ _ | refine Keeps.alloc ?_ _ | refine Keeps.setCell ?_ (by simp <;> omega) _ | refine Keeps.trans ?_ (by assumption)))
      rintro e v5 ⟨rfl, hj⟩
      have K5 : Keeps [] wr v5 := Keeps.trans (by repeat (first | exact Keeps.refl _ _ | assumption | refine Keeps.drew ?_ | refine Keeps.drewN ?_ _ | refine Keeps.alloc ?_ _ | refine Keeps.setCell ?_ (by simp <;> omega) _ | refine Keeps.trans ?_ (by assumption))) hj
      clear hj c0 c1 c2 c3 c4 c5 c6 c7 c8 c9 lt K4
      obtain ⟨c0, c1, c2, c3, c4, c5, c6, c7, c8, c9⟩ := cells10 (K5.blk hbr.out (by simp))
      have lt := ltOf (K5.blk hbr.out (by simp))
      go_wp2_with fail
      refine (no_drain (hp2.out.keep ?_) id).mono ?_
      · exact (by repeat (first | exact Keeps.refl _ _ | assumption | refine Keeps.drew ?_ | refine Keeps.drewN ?_ _ | refine Keeps.alloc ?_ _ | refine Keeps.setCell ?_ (by simp <;> omega) _ | refine Keeps.trans ?_ (by assumption)))
      rintro e v6 ⟨rfl, hj⟩
      have K6 : Keeps [] wr v6 := Keeps.trans (by repeat (first | exact Keeps.refl _ _ | assumption | refine Keeps.drew ?_ | refine Keeps.drewN ?_ _ | refine Keeps.alloc ?_ _ | refine Keeps.setCell ?_ (by simp <;> omega) _ | refine Keeps.trans ?_ (by assumption))) hj
      clear hj c0 c1 c2 c3 c4 c5 c6 c7 c8 c9 lt K5
      obtain ⟨c0, c1, c2, c3, c4, c5, c6, c7, c8, c9⟩ := cells10 (K6.blk hbr.out (by simp))
      have lt := ltOf (K6.blk hbr.out (by simp))
      go_wp2_with fail
      refine (no_close (hp2.out.keep ?_) id).mono ?_
      · exact (by repeat (first | exact Keeps.refl _ _ | assumption | refine Keeps.drew ?_ | refine Keeps.drewN ?_ _ | refine Keeps.alloc ?_ _ | refine Keeps.setCell ?_ (by simp <;> omega) _ | refine Keeps.trans ?_ (by assumption)))
      rintro e v7 ⟨rfl, hj⟩
      have K7 : Keeps [] wr v7 := Keeps.trans (by repeat (first | exact Keeps.refl _ _ | assumption | refine Keeps.drew ?_ | refine Keeps.drewN ?_ _ | refine Keeps.alloc ?_ _ | refine Keeps.setCell ?_ (by simp <;> omega) _ | refine Keeps.trans ?_ (by assumption))) hj
      clear hj c0 c1 c2 c3 c4 c5 c6 c7 c8 c9 lt K6
      obtain ⟨c0, c1, c2, c3, c4, c5, c6, c7, c8, c9⟩ := cells10 (K7.blk hbr.out (by simp))
      have lt := ltOf (K7.blk hbr.out (by simp))
      go_wp2_with fail
      refine (no_evict (hp2.out.keep ?_) id).mono ?_
      · exact (by repeat (first | exact Keeps.refl _ _ | assumption | refine Keeps.drew ?_ | refine Keeps.drewN ?_ _ | refine Keeps.alloc ?_ _ | refine Keeps.setCell ?_ (by simp <;> omega) _ | refine Keeps.trans ?_ (by assumption)))
      rintro e v8 ⟨rfl, hj⟩
      have K8 : Keeps [] wr v8 := Keeps.trans (by repeat (first | exact Keeps.refl _ _ | assumption | refine Keeps.drew ?_ | refine Keeps.drewN ?_ _ | refine Keeps.alloc ?_ _ | refine Keeps.setCell ?_ (by simp <;> omega) _ | refine Keeps.trans ?_ (by assumption))) hj
      clear hj c0 c1 c2 c3 c4 c5 c6 c7 c8 c9 lt K7
      obtain ⟨c0, c1, c2, c3, c4, c5, c6, c7, c8, c9⟩ := cells10 (K8.blk hbr.out (by simp))
      have lt := ltOf (K8.blk hbr.out (by simp))
      go_wp2_with fail
      refine (no_live (hp2.out.keep ?_)).mono ?_
      · exact (by repeat (first | exact Keeps.refl _ _ | assumption | refine Keeps.drew ?_ | refine Keeps.drewN ?_ _ | refine Keeps.alloc ?_ _ | refine Keeps.setCell ?_ (by simp <;> omega) _ | refine Keeps.trans ?_ (by assumption)))
      rintro e v9 ⟨rfl, hj⟩
      have K9 : Keeps [] wr v9 := Keeps.trans (by repeat (first | exact Keeps.refl _ _ | assumption | refine Keeps.drew ?_ | refine Keeps.drewN ?_ _ | refine Keeps.alloc ?_ _ | refine Keeps.setCell ?_ (by simp <;> omega) _ | refine Keeps.trans ?_ (by assumption))) hj
      clear hj c0 c1 c2 c3 c4 c5 c6 c7 c8 c9 lt K8
      obtain ⟨c0, c1, c2, c3, c4, c5, c6, c7, c8, c9⟩ := cells10 (K9.blk hbr.out (by simp))
      have lt := ltOf (K9.blk hbr.out (by simp))
      go_wp2_with fail
      refine (no_free (hp2.out.keep ?_)).mono ?_
      · exact (by repeat (first | exact Keeps.refl _ _ | assumption | refine Keeps.drew ?_ | refine Keeps.drewN ?_ _ | refine Keeps.alloc ?_ _ | refine Keeps.setCell ?_ (by simp <;> omega) _ | refine Keeps.trans ?_ (by assumption)))
      rintro e v10 ⟨rfl, hj⟩
      have K10 : Keeps [] wr v10 := Keeps.trans (by repeat (first | exact Keeps.refl _ _ | assumption | refine Keeps.drew ?_ | refine Keeps.drewN ?_ _ | refine Keeps.alloc ?_ _ | refine Keeps.setCell ?_ (by simp <;> omega) _ | refine Keeps.trans ?_ (by assumption))) hj
      clear hj c0 c1 c2 c3 c4 c5 c6 c7 c8 c9 lt K9
      obtain ⟨c0, c1, c2, c3, c4, c5, c6, c7, c8, c9⟩ := cells10 (K10.blk hbr.out (by simp))
      have lt := ltOf (K10.blk hbr.out (by simp))
      go_wp2
      go_roundg (gk - 1)
      case measure => omega
      case rel => exact ⟨i + 1, by simp, by omega, hk.trans K10⟩
    · have hi2 : i = 2 := by omega
      subst hi2
      go_wp2_with (go_at_call 12; refine (awake_calls _).mono ?_; rintro e w' ⟨rfl, hk2⟩)
      go_ret
      exact ⟨rfl, (hkw.trans hk).trans hk2⟩

end Go.Proofs.Ythjghcfnopancaa
