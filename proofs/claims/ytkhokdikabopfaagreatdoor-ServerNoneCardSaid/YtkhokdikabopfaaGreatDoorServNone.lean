/-
  A server that is nil, or that nobody made, has no sessions: each method.
-/
import Derived.Test.YtkhokdikabopfaaGreatDoorServerJ
namespace Go.Proofs.YtkhokdikabopfaaGreatDoor
open Go.RowKit Go.Shelf Go.Maps

/-- The pointer is no server. -/
def NoSrv (w : World) (p : Option Addr) : Prop :=
  ∀ w', Keeps [] w w' → Calls Tryz.prog 31 #[.pointer p] w' fun e w'' => e = .returned (.bool true) ∧ w' = w''

theorem vnone_nil (w : World) : Calls Tryz.prog 31 #[.pointer none] w fun e w' => e = .returned (.bool true) ∧ w = w' := by
  go_enter Tryz.func31, Tryz.ntmps31
  go_wp2
  go_ret
  simp
theorem vnone_empty (s : Nat) (w : World) (h : w.cell? ⟨s, 5, none⟩ = some (.pointer none)) : Calls Tryz.prog 31 #[.pointer (some ⟨s, 0, none⟩)] w fun e w' => e = .returned (.bool true) ∧ w = w' := by
  go_enter Tryz.func31, Tryz.ntmps31
  go_wp2
  go_ret
  simp

theorem NoSrv.nil (w : World) : NoSrv w none := fun w' _ => vnone_nil w'
theorem NoSrv.empty {w : World} {s : Nat} (h : w.cell? ⟨s, 5, none⟩ = some (.pointer none)) : NoSrv w (some ⟨s, 0, none⟩) := fun w' k => vnone_empty s w' (k.cell h (by simp))
theorem NoSrv.keep {w w' : World} {p : Option Addr} (h : NoSrv w p) (k : Keeps [] w w') : NoSrv w' p := fun w2 k2 => h w2 (k.trans k2)

theorem nos_ask_int {w : World} {p : Option Addr} (h : NoSrv w p) (id : Int) (what : Value) :
    Calls Tryz.prog 25 #[.pointer p, .int .i64 id, what] w fun e w' => e = .returned (.tuple #[.int .i64 0, .int .i64 1]) ∧ Keeps [] w w' := by
  have H := Lib.hid h
  clear h
  go_enter Tryz.func25, Tryz.ntmps25
  go_wp2_with (go_at_call 31; refine (H.out _ (by repeat (first | exact Keeps.refl _ _ | assumption | refine Keeps.drew ?_ | refine Keeps.drewN ?_ _ | refine Keeps.alloc ?_ _ | refine Keeps.setCell ?_ (by simp <;> omega) _ | refine Keeps.trans ?_ (by assumption)))).mono ?_; rintro e w' ⟨rfl, rfl⟩)
  go_ret2
  exact ⟨rfl, (by repeat (first | exact Keeps.refl _ _ | assumption | refine Keeps.drew ?_ | refine Keeps.drewN ?_ _ | refine Keeps.alloc ?_ _ | refine Keeps.setCell ?_ (by simp <;> omega) _ | refine Keeps.trans ?_ (by assumption)))⟩

theorem nos_ask_bool {w : World} {p : Option Addr} (h : NoSrv w p) (id : Int) (what : Value) :
    Calls Tryz.prog 33 #[.pointer p, .int .i64 id, what] w fun e w' => e = .returned (.tuple #[.bool false, .int .i64 1]) ∧ Keeps [] w w' := by
  have H := Lib.hid h
  clear h
  go_enter Tryz.func33, Tryz.ntmps33
  go_wp2_with (go_at_call 31; refine (H.out _ (by repeat (first | exact Keeps.refl _ _ | assumption | refine Keeps.drew ?_ | refine Keeps.drewN ?_ _ | refine Keeps.alloc ?_ _ | refine Keeps.setCell ?_ (by simp <;> omega) _ | refine Keeps.trans ?_ (by assumption)))).mono ?_; rintro e w' ⟨rfl, rfl⟩)
  go_ret2
  exact ⟨rfl, (by repeat (first | exact Keeps.refl _ _ | assumption | refine Keeps.drew ?_ | refine Keeps.drewN ?_ _ | refine Keeps.alloc ?_ _ | refine Keeps.setCell ?_ (by simp <;> omega) _ | refine Keeps.trans ?_ (by assumption)))⟩

theorem nos_ask_pic {w : World} {p : Option Addr} (h : NoSrv w p) (id : Int) (what : Value) :
    Calls Tryz.prog 46 #[.pointer p, .int .i64 id, what] w fun e w' => e = .returned (.tuple #[noPic, .int .i64 1]) ∧ Keeps [] w w' := by
  have H := Lib.hid h
  clear h
  go_enter Tryz.func46, Tryz.ntmps46
  go_wp2_with (go_at_call 31; refine (H.out _ (by repeat (first | exact Keeps.refl _ _ | assumption | refine Keeps.drew ?_ | refine Keeps.drewN ?_ _ | refine Keeps.alloc ?_ _ | refine Keeps.setCell ?_ (by simp <;> omega) _ | refine Keeps.trans ?_ (by assumption)))).mono ?_; rintro e w' ⟨rfl, rfl⟩)
  exact bodyPost_ret (res_ct rfl agg_picture rfl rfl rfl (heap_new_at _ (by simp))) rfl ⟨rfl, (by repeat (first | exact Keeps.refl _ _ | assumption | refine Keeps.drew ?_ | refine Keeps.drewN ?_ _ | refine Keeps.alloc ?_ _ | refine Keeps.setCell ?_ (by simp <;> omega) _ | refine Keeps.trans ?_ (by assumption)))⟩

theorem agg_status : Agg Tryz.prog 31 7 := ⟨fun _ => by kernel_rfl, fun _ => by kernel_rfl⟩

/-- No status. -/
abbrev noStat : Value := .agg #[.int .i64 0, .int .i64 0, .int .i64 0, .int .i64 0, .int .i64 0, .int .i64 0, .int .i64 0]

theorem nos_ask_stat {w : World} {p : Option Addr} (h : NoSrv w p) (id : Int) (what : Value) :
    Calls Tryz.prog 28 #[.pointer p, .int .i64 id, what] w fun e w' => e = .returned (.tuple #[noStat, .int .i64 1]) ∧ Keeps [] w w' := by
  have H := Lib.hid h
  clear h
  go_enter Tryz.func28, Tryz.ntmps28
  go_wp2_with (go_at_call 31; refine (H.out _ (by repeat (first | exact Keeps.refl _ _ | assumption | refine Keeps.drew ?_ | refine Keeps.drewN ?_ _ | refine Keeps.alloc ?_ _ | refine Keeps.setCell ?_ (by simp <;> omega) _ | refine Keeps.trans ?_ (by assumption)))).mono ?_; rintro e w' ⟨rfl, rfl⟩)
  exact bodyPost_ret (res_ct rfl agg_status rfl rfl rfl (heap_new_at _ (by simp))) rfl ⟨rfl, (by repeat (first | exact Keeps.refl _ _ | assumption | refine Keeps.drew ?_ | refine Keeps.drewN ?_ _ | refine Keeps.alloc ?_ _ | refine Keeps.setCell ?_ (by simp <;> omega) _ | refine Keeps.trans ?_ (by assumption)))⟩

theorem nos_open {w : World} {p : Option Addr} (h : NoSrv w p) :
    Calls Tryz.prog 16 #[.pointer p] w fun e w' => e = .returned (.tuple #[.int .i64 0, .int .i64 1]) ∧ Keeps [] w w' := by
  have H := Lib.hid h
  clear h
  go_enter Tryz.func16, Tryz.ntmps16
  go_wp2_with (go_at_call 31; refine (H.out _ (by repeat (first | exact Keeps.refl _ _ | assumption | refine Keeps.drew ?_ | refine Keeps.drewN ?_ _ | refine Keeps.alloc ?_ _ | refine Keeps.setCell ?_ (by simp <;> omega) _ | refine Keeps.trans ?_ (by assumption)))).mono ?_; rintro e w' ⟨rfl, rfl⟩)
  go_ret2
  exact ⟨rfl, (by repeat (first | exact Keeps.refl _ _ | assumption | refine Keeps.drew ?_ | refine Keeps.drewN ?_ _ | refine Keeps.alloc ?_ _ | refine Keeps.setCell ?_ (by simp <;> omega) _ | refine Keeps.trans ?_ (by assumption)))⟩

theorem nos_feed {w : World} {p : Option Addr} (h : NoSrv w p) (id : Int) (q : Option Addr) (n m : Nat) :
    Calls Tryz.prog 7 #[.pointer p, .int .i64 id, .slice q n m] w fun e w' => e = .returned (.tuple #[.int .i64 0, .int .i64 1]) ∧ Keeps [] w w' := by
  have H : Hid (∀ w', Keeps [] w w' → NoSrv w' p) := Lib.hid fun w' k => h.keep k
  clear h
  go_enter Tryz.func7, Tryz.ntmps7
  go_wp2_with (go_at_call 25; refine (nos_ask_int (H.out _ (by repeat (first | exact Keeps.refl _ _ | assumption | refine Keeps.drew ?_ | refine Keeps.drewN ?_ _ | refine Keeps.alloc ?_ _ | refine Keeps.setCell ?_ (by simp <;> omega) _ | refine Keeps.trans ?_ (by assumption)))) _ _).mono ?_; rintro e w' ⟨rfl, hk⟩)
  go_ret2
  exact ⟨rfl, (by repeat (first | exact Keeps.refl _ _ | assumption | refine Keeps.drew ?_ | refine Keeps.drewN ?_ _ | refine Keeps.alloc ?_ _ | refine Keeps.setCell ?_ (by simp <;> omega) _ | refine Keeps.trans ?_ (by assumption)))⟩

theorem nos_pick {w : World} {p : Option Addr} (h : NoSrv w p) (id : Int) :
    Calls Tryz.prog 12 #[.pointer p, .int .i64 id] w fun e w' => e = .returned (.tuple #[.int .i64 0, .int .i64 1]) ∧ Keeps [] w w' := by
  have H : Hid (∀ w', Keeps [] w w' → NoSrv w' p) := Lib.hid fun w' k => h.keep k
  clear h
  go_enter Tryz.func12, Tryz.ntmps12
  go_wp2_with (go_at_call 25; refine (nos_ask_int (H.out _ (by repeat (first | exact Keeps.refl _ _ | assumption | refine Keeps.drew ?_ | refine Keeps.drewN ?_ _ | refine Keeps.alloc ?_ _ | refine Keeps.setCell ?_ (by simp <;> omega) _ | refine Keeps.trans ?_ (by assumption)))) _ _).mono ?_; rintro e w' ⟨rfl, hk⟩)
  go_ret2
  exact ⟨rfl, (by repeat (first | exact Keeps.refl _ _ | assumption | refine Keeps.drew ?_ | refine Keeps.drewN ?_ _ | refine Keeps.alloc ?_ _ | refine Keeps.setCell ?_ (by simp <;> omega) _ | refine Keeps.trans ?_ (by assumption)))⟩

set_option maxHeartbeats 400000 in
theorem nos_drain {w : World} {p : Option Addr} (h : NoSrv w p) (id : Int) :
    Calls Tryz.prog 17 #[.pointer p, .int .i64 id] w fun e w' => e = .returned (.tuple #[noPic, .int .i64 1]) ∧ Keeps [] w w' := by
  have H : Hid (∀ w', Keeps [] w w' → NoSrv w' p) := Lib.hid fun w' k => h.keep k
  have hx : w.heap.size + 2 < w.heap.size → w.heap.size + 2 ∈ ([] : List Nat) := fun h => absurd h (by omega)
  clear h
  go_enter Tryz.func17, Tryz.ntmps17
  go_wp2_with (go_at_call 46; refine (nos_ask_pic (H.out _ (by repeat (first | exact Keeps.refl _ _ | assumption | refine Keeps.drew ?_ | refine Keeps.drewN ?_ _ | refine Keeps.alloc ?_ _ | refine Keeps.setCell ?_ (by simp <;> omega) _ | refine Keeps.trans ?_ (by assumption)))) _ _).mono ?_; rintro e w' ⟨rfl, hk⟩; obtain ⟨b0, b1, b2, hk⟩ := hk.new3 (by simp) (by simp) (by simp); obtain ⟨p0, p1, p2, p3⟩ := cells4 b2; have fr := frees b2; have hg0 := Lib.hid b2; clear b0 b1 b2)
  have hb1 := blk_setCell (blk_setCell (blk_setCell (blk_setCell hg0.out 0 (.int .i64 0)) 1 (.int .i64 0)) 2 (.int .i64 0)) 3 (.slice none 0 0)
  exact bodyPost_ret (res_ct rfl agg_picture rfl rfl rfl hb1) rfl ⟨by simp, (((hk.setCell (p := ⟨w.heap.size + 2, 0, none⟩) hx (.int .i64 0)).setCell (p := ⟨w.heap.size + 2, 1, none⟩) hx (.int .i64 0)).setCell (p := ⟨w.heap.size + 2, 2, none⟩) hx (.int .i64 0)).setCell (p := ⟨w.heap.size + 2, 3, none⟩) hx (.slice none 0 0)⟩

theorem nos_press {w : World} {p : Option Addr} (h : NoSrv w p) (n : Int) :
    Calls Tryz.prog 13 #[.pointer p, .int .i64 n] w fun e w' => e = .returned (.tuple #[.slice none 0 0, .int .i64 1]) ∧ Keeps [] w w' := by
  have H := Lib.hid h
  clear h
  go_enter Tryz.func13, Tryz.ntmps13
  go_wp2_with (go_at_call 31; refine (H.out _ (by repeat (first | exact Keeps.refl _ _ | assumption | refine Keeps.drew ?_ | refine Keeps.drewN ?_ _ | refine Keeps.alloc ?_ _ | refine Keeps.setCell ?_ (by simp <;> omega) _ | refine Keeps.trans ?_ (by assumption)))).mono ?_; rintro e w' ⟨rfl, rfl⟩)
  go_ret2
  exact ⟨rfl, (by repeat (first | exact Keeps.refl _ _ | assumption | refine Keeps.drew ?_ | refine Keeps.drewN ?_ _ | refine Keeps.alloc ?_ _ | refine Keeps.setCell ?_ (by simp <;> omega) _ | refine Keeps.trans ?_ (by assumption)))⟩

theorem nos_look {w : World} {p : Option Addr} (h : NoSrv w p) (n m : Int) :
    Calls Tryz.prog 18 #[.pointer p, .int .i64 n, .int .i64 m] w fun e w' => e = .returned (.tuple #[.slice none 0 0, .int .i64 1]) ∧ Keeps [] w w' := by
  have H := Lib.hid h
  clear h
  go_enter Tryz.func18, Tryz.ntmps18
  go_wp2_with (go_at_call 31; refine (H.out _ (by repeat (first | exact Keeps.refl _ _ | assumption | refine Keeps.drew ?_ | refine Keeps.drewN ?_ _ | refine Keeps.alloc ?_ _ | refine Keeps.setCell ?_ (by simp <;> omega) _ | refine Keeps.trans ?_ (by assumption)))).mono ?_; rintro e w' ⟨rfl, rfl⟩)
  go_ret2
  exact ⟨rfl, (by repeat (first | exact Keeps.refl _ _ | assumption | refine Keeps.drew ?_ | refine Keeps.drewN ?_ _ | refine Keeps.alloc ?_ _ | refine Keeps.setCell ?_ (by simp <;> omega) _ | refine Keeps.trans ?_ (by assumption)))⟩

theorem nos_frame {w : World} {p : Option Addr} (h : NoSrv w p) (n : Int) :
    Calls Tryz.prog 19 #[.pointer p, .int .i64 n] w fun e w' => e = .returned (.tuple #[.int .i64 0, .int .i64 0]) ∧ Keeps [] w w' := by
  have H := Lib.hid h
  clear h
  go_enter Tryz.func19, Tryz.ntmps19
  go_wp2_with (go_at_call 31; refine (H.out _ (by repeat (first | exact Keeps.refl _ _ | assumption | refine Keeps.drew ?_ | refine Keeps.drewN ?_ _ | refine Keeps.alloc ?_ _ | refine Keeps.setCell ?_ (by simp <;> omega) _ | refine Keeps.trans ?_ (by assumption)))).mono ?_; rintro e w' ⟨rfl, rfl⟩)
  go_ret2
  exact ⟨rfl, (by repeat (first | exact Keeps.refl _ _ | assumption | refine Keeps.drew ?_ | refine Keeps.drewN ?_ _ | refine Keeps.alloc ?_ _ | refine Keeps.setCell ?_ (by simp <;> omega) _ | refine Keeps.trans ?_ (by assumption)))⟩

set_option maxRecDepth 100000 in
set_option maxHeartbeats 1000000 in
theorem nos_status {w : World} {p : Option Addr} (h : NoSrv w p) (id : Int) :
    Calls Tryz.prog 9 #[.pointer p, .int .i64 id] w fun e w' => e = .returned (.tuple #[noStat, .int .i64 1]) ∧ Keeps [] w w' := by
  have H : Hid (∀ w', Keeps [] w w' → NoSrv w' p) := Lib.hid fun w' k => h.keep k
  clear h
  go_enter Tryz.func9, Tryz.ntmps9
  go_wp2_with (first
    | (go_at_call 28; refine (nos_ask_stat (H.out _ (by repeat (first | exact Keeps.refl _ _ | assumption | refine Keeps.drew ?_ | refine Keeps.drewN ?_ _ | refine Keeps.alloc ?_ _ | refine Keeps.setCell ?_ (by simp <;> omega) _ | refine Keeps.trans ?_ (by assumption)))) _ _).mono ?_; rintro e w1 ⟨rfl, hk⟩; obtain ⟨b0, hk⟩ := hk.new1 (by simp); obtain ⟨p0, p1, p2, p3, p4, p5, p6⟩ := cells7 b0; have fr := frees b0; have hl := ltOf b0; have hb0 := Lib.hid b0; clear b0)
    | (go_at_call 31; refine (H.out _ (by repeat (first | exact Keeps.refl _ _ | assumption | refine Keeps.drew ?_ | refine Keeps.drewN ?_ _ | refine Keeps.alloc ?_ _ | refine Keeps.setCell ?_ (by simp <;> omega) _ | refine Keeps.trans ?_ (by assumption))) _ (Keeps.refl _ _)).mono ?_; rintro e w' ⟨rfl, rfl⟩))
  have hb1 := stored7 (v0 := .int .i64 0) (v1 := .int .i64 0) (v2 := .int .i64 0) (v3 := .int .i64 0) (v4 := .int .i64 0) (v5 := .int .i64 0) (v6 := .int .i64 0) hb0.out
  have hb2 := ((Keeps.refl [] _).alloc (.cells #[.int .i64 0, .int .i64 0, .int .i64 0, .int .i64 0, .int .i64 0, .int .i64 0, .int .i64 0] 31)).blk hb1 (by simp)
  exact bodyPost_ret (res_ct rfl agg_status rfl rfl rfl hb2) rfl ⟨rfl, (hk.store7 (fun h => by omega)).alloc _⟩

theorem nos_live {w : World} {p : Option Addr} (h : NoSrv w p) :
    Calls Tryz.prog 21 #[.pointer p] w fun e w' => e = .returned (.slice none 0 0) ∧ Keeps [] w w' := by
  have H := Lib.hid h
  clear h
  go_enter Tryz.func21, Tryz.ntmps21
  go_wp2_with (go_at_call 31; refine (H.out _ (by repeat (first | exact Keeps.refl _ _ | assumption | refine Keeps.drew ?_ | refine Keeps.drewN ?_ _ | refine Keeps.alloc ?_ _ | refine Keeps.setCell ?_ (by simp <;> omega) _ | refine Keeps.trans ?_ (by assumption)))).mono ?_; rintro e w' ⟨rfl, rfl⟩)
  go_ret
  exact ⟨rfl, (by repeat (first | exact Keeps.refl _ _ | assumption | refine Keeps.drew ?_ | refine Keeps.drewN ?_ _ | refine Keeps.alloc ?_ _ | refine Keeps.setCell ?_ (by simp <;> omega) _ | refine Keeps.trans ?_ (by assumption)))⟩

theorem nos_free {w : World} {p : Option Addr} (h : NoSrv w p) :
    Calls Tryz.prog 22 #[.pointer p] w fun e w' => e = .returned (.int .i64 0) ∧ Keeps [] w w' := by
  have H := Lib.hid h
  clear h
  go_enter Tryz.func22, Tryz.ntmps22
  go_wp2_with (go_at_call 31; refine (H.out _ (by repeat (first | exact Keeps.refl _ _ | assumption | refine Keeps.drew ?_ | refine Keeps.drewN ?_ _ | refine Keeps.alloc ?_ _ | refine Keeps.setCell ?_ (by simp <;> omega) _ | refine Keeps.trans ?_ (by assumption)))).mono ?_; rintro e w' ⟨rfl, rfl⟩)
  go_ret
  exact ⟨rfl, (by repeat (first | exact Keeps.refl _ _ | assumption | refine Keeps.drew ?_ | refine Keeps.drewN ?_ _ | refine Keeps.alloc ?_ _ | refine Keeps.setCell ?_ (by simp <;> omega) _ | refine Keeps.trans ?_ (by assumption)))⟩

theorem nos_end {w : World} {p : Option Addr} (h : NoSrv w p) (id : Int) :
    Calls Tryz.prog 10 #[.pointer p, .int .i64 id] w fun e w' => e = .returned (.int .i64 1) ∧ Keeps [] w w' := by
  have H : Hid (∀ w', Keeps [] w w' → NoSrv w' p) := Lib.hid fun w' k => h.keep k
  clear h
  go_enter Tryz.func10, Tryz.ntmps10
  go_wp2_with (go_at_call 33; refine (nos_ask_bool (H.out _ (by repeat (first | exact Keeps.refl _ _ | assumption | refine Keeps.drew ?_ | refine Keeps.drewN ?_ _ | refine Keeps.alloc ?_ _ | refine Keeps.setCell ?_ (by simp <;> omega) _ | refine Keeps.trans ?_ (by assumption)))) _ _).mono ?_; rintro e w' ⟨rfl, hk⟩)
  go_ret
  exact ⟨rfl, (by repeat (first | exact Keeps.refl _ _ | assumption | refine Keeps.drew ?_ | refine Keeps.drewN ?_ _ | refine Keeps.alloc ?_ _ | refine Keeps.setCell ?_ (by simp <;> omega) _ | refine Keeps.trans ?_ (by assumption)))⟩

theorem nos_out {w : World} {p : Option Addr} (h : NoSrv w p) (id c : Int) :
    Calls Tryz.prog 24 #[.pointer p, .int .i64 id, .int .i64 c] w fun e w' => e = .returned (.int .i64 1) ∧ Keeps [] w w' := by
  have H : Hid (∀ w', Keeps [] w w' → NoSrv w' p) := Lib.hid fun w' k => h.keep k
  clear h
  go_enter Tryz.func24, Tryz.ntmps24
  go_wp2_with (go_at_call 33; refine (nos_ask_bool (H.out _ (by repeat (first | exact Keeps.refl _ _ | assumption | refine Keeps.drew ?_ | refine Keeps.drewN ?_ _ | refine Keeps.alloc ?_ _ | refine Keeps.setCell ?_ (by simp <;> omega) _ | refine Keeps.trans ?_ (by assumption)))) _ _).mono ?_; rintro e w' ⟨rfl, hk⟩)
  go_ret
  exact ⟨rfl, (by repeat (first | exact Keeps.refl _ _ | assumption | refine Keeps.drew ?_ | refine Keeps.drewN ?_ _ | refine Keeps.alloc ?_ _ | refine Keeps.setCell ?_ (by simp <;> omega) _ | refine Keeps.trans ?_ (by assumption)))⟩

theorem nos_Close {w : World} {p : Option Addr} (h : NoSrv w p) (id : Int) :
    Calls Tryz.prog 6 #[.pointer p, .int .i64 id] w fun e w' => e = .returned (.int .i64 1) ∧ Keeps [] w w' := by
  have H := Lib.hid (nos_out h id)
  clear h
  go_enter Tryz.func6, Tryz.ntmps6
  go_wp2_with (go_at_call 24; refine (H.out _).mono ?_; rintro e w' ⟨rfl, hk⟩)
  go_ret
  exact ⟨rfl, (by repeat (first | exact Keeps.refl _ _ | assumption | refine Keeps.drew ?_ | refine Keeps.drewN ?_ _ | refine Keeps.alloc ?_ _ | refine Keeps.setCell ?_ (by simp <;> omega) _ | refine Keeps.trans ?_ (by assumption)))⟩

theorem nos_Evict {w : World} {p : Option Addr} (h : NoSrv w p) (id : Int) :
    Calls Tryz.prog 20 #[.pointer p, .int .i64 id] w fun e w' => e = .returned (.int .i64 1) ∧ Keeps [] w w' := by
  have H := Lib.hid (nos_out h id)
  clear h
  go_enter Tryz.func20, Tryz.ntmps20
  go_wp2_with (go_at_call 24; refine (H.out _).mono ?_; rintro e w' ⟨rfl, hk⟩)
  go_ret
  exact ⟨rfl, (by repeat (first | exact Keeps.refl _ _ | assumption | refine Keeps.drew ?_ | refine Keeps.drewN ?_ _ | refine Keeps.alloc ?_ _ | refine Keeps.setCell ?_ (by simp <;> omega) _ | refine Keeps.trans ?_ (by assumption)))⟩

end Go.Proofs.YtkhokdikabopfaaGreatDoor
