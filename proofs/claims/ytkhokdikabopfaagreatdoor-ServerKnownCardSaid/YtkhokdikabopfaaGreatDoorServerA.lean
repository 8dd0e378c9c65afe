/-
  Server: none, New.
-/
import Derived.Test.YtkhokdikabopfaaGreatDoorServer
namespace Go.Proofs.YtkhokdikabopfaaGreatDoor
open Go.RowKit Go.Shelf Go.Maps

set_option maxHeartbeats 400000 in
theorem vnone {w : World} {s t : Nat} (h : w.cell? ⟨s, 5, none⟩ = some (.pointer (some ⟨t, 0, none⟩))) :
    Calls Tryz.prog 31 #[.pointer (some ⟨s, 0, none⟩)] w fun en w' => en = .returned (.bool false) ∧ w = w' := by
  go_enter Tryz.func31, Tryz.ntmps31
  go_wp2
  go_ret
  simp

set_option maxHeartbeats 400000 in
theorem vwithin (n lo hi : Int) (w : World) :
    Calls Tryz.prog 41 #[.int .i64 n, .int .i64 lo, .int .i64 hi] w fun e w' => e = .returned (.bool (decide (lo ≤ n ∧ n ≤ hi))) ∧ w = w' := by
  by_cases h1 : lo ≤ n
  · go_enter Tryz.func41, Tryz.ntmps41
    go_wp2
    go_ret
    simp [h1]
  · go_enter Tryz.func41, Tryz.ntmps41
    go_wp2
    go_ret
    refine ⟨?_, rfl⟩
    congr 2
    simp; omega

set_option maxRecDepth 100000 in
set_option maxHeartbeats 1000000 in
theorem vnew (c : Cf) (w : World) (h : c.ok) :
    Calls Tryz.prog 14 #[c.val] w fun e w' => ∃ P, e = .returned (.tuple #[.pointer (some ⟨P.s, 0, none⟩), .int .i64 0]) ∧ Keeps [] w w' ∧ w.heap.size ≤ P.t ∧ w.heap.size ≤ P.tb ∧ w.heap.size ≤ P.cb ∧ w.heap.size ≤ P.s ∧ SrvAt w' P c 0 [] [] := by
  obtain ⟨s, f, q, r, o⟩ := c
  obtain ⟨h5, h1, h2, h3, h4⟩ := h
  simp only at *
  have hT := Lib.hid fun w => tnew_yes (s : Int) w (by omega) (by omega)
  have hP := Lib.hid fun w => pnew f q w (by omega) h2.2 h1.2
  have d1 : decide ((2 : Int) ≤ (q : Int) ∧ (q : Int) ≤ (f : Int)) = true := decide_eq_true (by omega)
  have d2 : decide ((1024 : Int) ≤ (r : Int) ∧ (r : Int) ≤ 1048576) = true := decide_eq_true (by omega)
  have d1a : decide ((2 : Int) ≤ (q : Int)) = true := decide_eq_true (by omega)
  have d1b : decide (q ≤ f) = true := decide_eq_true h2.2
  have d3 : decide ((1 : Int) ≤ (o : Int) ∧ (o : Int) ≤ 1000) = true := decide_eq_true (by omega)
  have hmm := @run_makeMap Tryz.prog
  clear h5 h1 h2 h3 h4
  go_enter Tryz.func14, Tryz.ntmps14
  go_wp2_with (first
    | (go_at_call 41; refine (vwithin _ _ _ _).mono ?_; rintro e w' ⟨rfl, rfl⟩)
    | (go_at_call 42; refine (hT.out _).mono ?_; rintro e wt ⟨t, tb, rfl, hkt, ht1, ht2, hTA⟩; obtain ⟨b0, hkt⟩ := hkt.new1 (by simp); obtain ⟨e0, e1, e2, e3, e4⟩ := cells5 b0; have hb0 := Lib.hid b0; clear b0)
    | (go_at_call 43; refine (hP.out _).mono ?_; rintro e wp ⟨p, fb, hb, iv, rfl, hkp, hp1, hPA⟩; have b1 := hkp.blk hb0.out (by simp); obtain ⟨f0, f1, f2, f3, f4⟩ := cells5 b1; clear b1))
  go_ret2
  refine ⟨⟨wt.heap.size, wp.heap.size, wp.heap.size + 1, t, tb, p, fb, hb, wp.heap.size, iv⟩, rfl, ?_, ?_, ?_, ?_, ?_, ⟨?_, ?_, ?_, ?_, ?_, ?_, by simp <;> omega, by simp, by simp⟩⟩
  · exact ((hkt.trans hkp).alloc _).alloc _
  · simp at ht1 ⊢; omega
  · simp at ht2 ⊢; omega
  · have := hkt.size; have := hkp.size; simp only; omega
  · have := hkt.size; have := hkp.size; simp only; omega
  · exact heap_new_at _ (by simp)
  · have hk2 : Keeps [] wt ((wp.alloc (Obj.map #[] 0)).alloc (Obj.cells #[Value.int IntKind.i64 ↑s, Value.int IntKind.i64 ↑f, Value.int IntKind.i64 ↑q, Value.int IntKind.i64 ↑r, Value.int IntKind.i64 ↑o, Value.pointer (some ⟨t, 0, none⟩), Value.pointer (some ⟨p, 0, none⟩), Value.map (some wp.heap.size)] 49)) := (hkp.alloc _).alloc _
    exact ⟨hk2.blk hTA.blk (by simp), hTA.map.keep hk2 (by simp)⟩
  · exact hPA.keep (((Keeps.refl [] wp).alloc _).alloc _) (by simp)
  · have := ltOf hTA.blk; have := hTA.map.lt; have := hkp.size; simp only; omega
  · exact (IMap.made wp).alloc _
  · have := hTA.map.lt; have := hkp.size; simp only; omega

end Go.Proofs.YtkhokdikabopfaaGreatDoor
