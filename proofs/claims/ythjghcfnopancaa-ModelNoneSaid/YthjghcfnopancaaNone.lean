/-
  A model that is nil, or that nobody made, knows nothing: each method, and ModelNone.
-/
import Derived.Test.YthjghcfnopancaaArgs
namespace Go.Proofs.Ythjghcfnopancaa
open Go.RowKit Go.Shelf Go.Maps

/-- The pointer is no model. -/
def NoOne (w : World) (p : Option Addr) : Prop :=
  ∀ w', Keeps [] w w' → Calls Try.prog 33 #[.pointer p] w' fun e w'' => e = .returned (.bool true) ∧ w' = w''

theorem NoOne.nil (w : World) : NoOne w none := fun w' _ => mnone_nil w'
theorem NoOne.empty {w : World} {m : Nat} (h : w.cell? ⟨m, 5, none⟩ = some (.pointer none)) : NoOne w (some ⟨m, 0, none⟩) := fun w' k => mnone_empty m w' (k.cell h (by simp))
theorem NoOne.keep {w w' : World} {p : Option Addr} (h : NoOne w p) (k : Keeps [] w w') : NoOne w' p := fun w2 k2 => h w2 (k.trans k2)

theorem no_askint {w : World} {p : Option Addr} (h : NoOne w p) (id x0 : Int) (what : Value) :
    Calls Try.prog 24 #[.pointer p, .int .i64 id, .int .i64 x0, what] w fun e w' => e = .returned (.tuple #[.int .i64 x0, .int .i64 1]) ∧ Keeps [] w w' := by
  have H := Lib.hid h
  clear h
  go_enter Try.func24, Try.ntmps24
  go_wp2_with (go_at_call 33; refine (H.out _ (by repeat (first | exact Keeps.refl _ _ | assumption | refine Keeps.drew ?_ | refine Keeps.drewN ?_ _ | refine Keeps.alloc ?_ _ | refine Keeps.setCell ?_ (by simp <;> omega) _ | refine Keeps.trans ?_ (by assumption)))).mono ?_; rintro e w' ⟨rfl, rfl⟩)
  go_ret2
  exact ⟨rfl, (by repeat (first | exact Keeps.refl _ _ | assumption | refine Keeps.drew ?_ | refine Keeps.drewN ?_ _ | refine Keeps.alloc ?_ _ | refine Keeps.setCell ?_ (by simp <;> omega) _ | refine Keeps.trans ?_ (by assumption)))⟩

theorem no_askst {w : World} {p : Option Addr} (h : NoOne w p) (id : Int) (s0 : St) (what : Value) :
    Calls Try.prog 30 #[.pointer p, .int .i64 id, s0.val, what] w fun e w' => e = .returned (.tuple #[s0.val, .int .i64 1]) ∧ Keeps [] w w' := by
  have H := Lib.hid h
  clear h
  obtain ⟨q0, q1, q2, q3, q4, q5, q6⟩ := s0
  go_enter Try.func30, Try.ntmps30
  go_wp2_with (go_at_call 33; refine (H.out _ (by repeat (first | exact Keeps.refl _ _ | assumption | refine Keeps.drew ?_ | refine Keeps.drewN ?_ _ | refine Keeps.alloc ?_ _ | refine Keeps.setCell ?_ (by simp <;> omega) _ | refine Keeps.trans ?_ (by assumption)))).mono ?_; rintro e w' ⟨rfl, rfl⟩)
  exact bodyPost_ret (res_ct rfl agg_status rfl rfl rfl (heap_new_at _ (by simp))) rfl ⟨rfl, (by repeat (first | exact Keeps.refl _ _ | assumption | refine Keeps.drew ?_ | refine Keeps.drewN ?_ _ | refine Keeps.alloc ?_ _ | refine Keeps.setCell ?_ (by simp <;> omega) _ | refine Keeps.trans ?_ (by assumption)))⟩

theorem no_open {w : World} {p : Option Addr} (h : NoOne w p) :
    Calls Try.prog 18 #[.pointer p] w fun e w' => e = .returned (.tuple #[.int .i64 0, .int .i64 1]) ∧ Keeps [] w w' := by
  have H := Lib.hid h
  clear h
  go_enter Try.func18, Try.ntmps18
  go_wp2_with (go_at_call 33; refine (H.out _ (by repeat (first | exact Keeps.refl _ _ | assumption | refine Keeps.drew ?_ | refine Keeps.drewN ?_ _ | refine Keeps.alloc ?_ _ | refine Keeps.setCell ?_ (by simp <;> omega) _ | refine Keeps.trans ?_ (by assumption)))).mono ?_; rintro e w' ⟨rfl, rfl⟩)
  go_ret2
  exact ⟨rfl, (by repeat (first | exact Keeps.refl _ _ | assumption | refine Keeps.drew ?_ | refine Keeps.drewN ?_ _ | refine Keeps.alloc ?_ _ | refine Keeps.setCell ?_ (by simp <;> omega) _ | refine Keeps.trans ?_ (by assumption)))⟩

theorem no_feed {w : World} {p : Option Addr} (h : NoOne w p) (id n : Int) :
    Calls Try.prog 20 #[.pointer p, .int .i64 id, .int .i64 n] w fun e w' => e = .returned (.tuple #[.int .i64 0, .int .i64 1]) ∧ Keeps [] w w' := by
  have H : Hid (∀ w', Keeps [] w w' → NoOne w' p) := Lib.hid fun w' k => h.keep k
  clear h
  go_enter Try.func20, Try.ntmps20
  go_wp2_with (go_at_call 24; refine (no_askint (H.out _ (by repeat (first | exact Keeps.refl _ _ | assumption | refine Keeps.drew ?_ | refine Keeps.drewN ?_ _ | refine Keeps.alloc ?_ _ | refine Keeps.setCell ?_ (by simp <;> omega) _ | refine Keeps.trans ?_ (by assumption)))) _ _ _).mono ?_; rintro e w' ⟨rfl, hk⟩)
  go_ret2
  exact ⟨rfl, (by repeat (first | exact Keeps.refl _ _ | assumption | refine Keeps.drew ?_ | refine Keeps.drewN ?_ _ | refine Keeps.alloc ?_ _ | refine Keeps.setCell ?_ (by simp <;> omega) _ | refine Keeps.trans ?_ (by assumption)))⟩

theorem no_stop {w : World} {p : Option Addr} (h : NoOne w p) (id : Int) :
    Calls Try.prog 10 #[.pointer p, .int .i64 id] w fun e w' => e = .returned (.int .i64 1) ∧ Keeps [] w w' := by
  have H : Hid (∀ w', Keeps [] w w' → NoOne w' p) := Lib.hid fun w' k => h.keep k
  clear h
  go_enter Try.func10, Try.ntmps10
  go_wp2_with (go_at_call 24; refine (no_askint (H.out _ (by repeat (first | exact Keeps.refl _ _ | assumption | refine Keeps.drew ?_ | refine Keeps.drewN ?_ _ | refine Keeps.alloc ?_ _ | refine Keeps.setCell ?_ (by simp <;> omega) _ | refine Keeps.trans ?_ (by assumption)))) _ _ _).mono ?_; rintro e w' ⟨rfl, hk⟩)
  go_ret
  exact ⟨rfl, (by repeat (first | exact Keeps.refl _ _ | assumption | refine Keeps.drew ?_ | refine Keeps.drewN ?_ _ | refine Keeps.alloc ?_ _ | refine Keeps.setCell ?_ (by simp <;> omega) _ | refine Keeps.trans ?_ (by assumption)))⟩

theorem no_see {w : World} {p : Option Addr} (h : NoOne w p) (id : Int) (s : St) :
    Calls Try.prog 7 #[.pointer p, .int .i64 id, s.val] w fun e w' => e = .returned (.int .i64 1) ∧ Keeps [] w w' := by
  have H : Hid (∀ w', Keeps [] w w' → NoOne w' p) := Lib.hid fun w' k => h.keep k
  clear h
  obtain ⟨q0, q1, q2, q3, q4, q5, q6⟩ := s
  go_enter Try.func7, Try.ntmps7
  go_wp2_with (go_at_call 24; refine (no_askint (H.out _ (by repeat (first | exact Keeps.refl _ _ | assumption | refine Keeps.drew ?_ | refine Keeps.drewN ?_ _ | refine Keeps.alloc ?_ _ | refine Keeps.setCell ?_ (by simp <;> omega) _ | refine Keeps.trans ?_ (by assumption)))) _ _ _).mono ?_; rintro e w' ⟨rfl, hk⟩)
  go_ret
  exact ⟨rfl, (by repeat (first | exact Keeps.refl _ _ | assumption | refine Keeps.drew ?_ | refine Keeps.drewN ?_ _ | refine Keeps.alloc ?_ _ | refine Keeps.setCell ?_ (by simp <;> omega) _ | refine Keeps.trans ?_ (by assumption)))⟩

theorem no_out {w : World} {p : Option Addr} (h : NoOne w p) (id c : Int) :
    Calls Try.prog 29 #[.pointer p, .int .i64 id, .int .i64 c] w fun e w' => e = .returned (.int .i64 1) ∧ Keeps [] w w' := by
  have H : Hid (∀ w', Keeps [] w w' → NoOne w' p) := Lib.hid fun w' k => h.keep k
  clear h
  go_enter Try.func29, Try.ntmps29
  go_wp2_with (go_at_call 24; refine (no_askint (H.out _ (by repeat (first | exact Keeps.refl _ _ | assumption | refine Keeps.drew ?_ | refine Keeps.drewN ?_ _ | refine Keeps.alloc ?_ _ | refine Keeps.setCell ?_ (by simp <;> omega) _ | refine Keeps.trans ?_ (by assumption)))) _ _ _).mono ?_; rintro e w' ⟨rfl, hk⟩)
  go_ret
  exact ⟨rfl, (by repeat (first | exact Keeps.refl _ _ | assumption | refine Keeps.drew ?_ | refine Keeps.drewN ?_ _ | refine Keeps.alloc ?_ _ | refine Keeps.setCell ?_ (by simp <;> omega) _ | refine Keeps.trans ?_ (by assumption)))⟩

theorem no_close {w : World} {p : Option Addr} (h : NoOne w p) (id : Int) :
    Calls Try.prog 11 #[.pointer p, .int .i64 id] w fun e w' => e = .returned (.int .i64 1) ∧ Keeps [] w w' := by
  have H := Lib.hid (no_out h id)
  clear h
  go_enter Try.func11, Try.ntmps11
  go_wp2_with (go_at_call 29; refine (H.out _).mono ?_; rintro e w' ⟨rfl, hk⟩)
  go_ret
  exact ⟨rfl, (by repeat (first | exact Keeps.refl _ _ | assumption | refine Keeps.drew ?_ | refine Keeps.drewN ?_ _ | refine Keeps.alloc ?_ _ | refine Keeps.setCell ?_ (by simp <;> omega) _ | refine Keeps.trans ?_ (by assumption)))⟩

theorem no_evict {w : World} {p : Option Addr} (h : NoOne w p) (id : Int) :
    Calls Try.prog 23 #[.pointer p, .int .i64 id] w fun e w' => e = .returned (.int .i64 1) ∧ Keeps [] w w' := by
  have H := Lib.hid (no_out h id)
  clear h
  go_enter Try.func23, Try.ntmps23
  go_wp2_with (go_at_call 29; refine (H.out _).mono ?_; rintro e w' ⟨rfl, hk⟩)
  go_ret
  exact ⟨rfl, (by repeat (first | exact Keeps.refl _ _ | assumption | refine Keeps.drew ?_ | refine Keeps.drewN ?_ _ | refine Keeps.alloc ?_ _ | refine Keeps.setCell ?_ (by simp <;> omega) _ | refine Keeps.trans ?_ (by assumption)))⟩

theorem no_drain {w : World} {p : Option Addr} (h : NoOne w p) (id : Int) :
    Calls Try.prog 13 #[.pointer p, .int .i64 id] w fun e w' => e = .returned (.int .i64 1) ∧ Keeps [] w w' := by
  have H : Hid (∀ w', Keeps [] w w' → NoOne w' p) := Lib.hid fun w' k => h.keep k
  have H2 := fun w' k => no_askst (H.out w' k) id ⟨0, 0, 0, 0, 0, 0, 0⟩
  have H2 := Lib.hid H2
  clear h
  go_enter Try.func13, Try.ntmps13
  go_wp2_with (go_at_call 30; refine (H2.out _ ?_ _).mono ?_; exact (by repeat (first | exact Keeps.refl _ _ | assumption | refine Keeps.drew ?_ | refine Keeps.drewN ?_ _ | refine Keeps.alloc ?_ _ | refine Keeps.setCell ?_ (by simp <;> omega) _ | refine Keeps.trans ?_ (by assumption))); rintro e w' ⟨rfl, hk⟩)
  go_ret
  exact ⟨rfl, (by repeat (first | exact Keeps.refl _ _ | assumption | refine Keeps.drew ?_ | refine Keeps.drewN ?_ _ | refine Keeps.alloc ?_ _ | refine Keeps.setCell ?_ (by simp <;> omega) _ | refine Keeps.trans ?_ (by assumption)))⟩

theorem no_press {w : World} {p : Option Addr} (h : NoOne w p) (n : Int) :
    Calls Try.prog 21 #[.pointer p, .int .i64 n] w fun e w' => e = .returned (.tuple #[.slice none 0 0, .int .i64 1]) ∧ Keeps [] w w' := by
  have H := Lib.hid h
  clear h
  go_enter Try.func21, Try.ntmps21
  go_wp2_with (go_at_call 33; refine (H.out _ (by repeat (first | exact Keeps.refl _ _ | assumption | refine Keeps.drew ?_ | refine Keeps.drewN ?_ _ | refine Keeps.alloc ?_ _ | refine Keeps.setCell ?_ (by simp <;> omega) _ | refine Keeps.trans ?_ (by assumption)))).mono ?_; rintro e w' ⟨rfl, rfl⟩)
  go_ret2
  exact ⟨rfl, (by repeat (first | exact Keeps.refl _ _ | assumption | refine Keeps.drew ?_ | refine Keeps.drewN ?_ _ | refine Keeps.alloc ?_ _ | refine Keeps.setCell ?_ (by simp <;> omega) _ | refine Keeps.trans ?_ (by assumption)))⟩

theorem no_status {w : World} {p : Option Addr} (h : NoOne w p) (n : Int) :
    Calls Try.prog 22 #[.pointer p, .int .i64 n] w fun e w' => e = .returned (.tuple #[(⟨0, 0, 0, 0, 0, 0, 0⟩ : St).val, .int .i64 1]) ∧ Keeps [] w w' := by
  have H := Lib.hid h
  clear h
  go_enter Try.func22, Try.ntmps22
  go_wp2_with (go_at_call 33; refine (H.out _ (by repeat (first | exact Keeps.refl _ _ | assumption | refine Keeps.drew ?_ | refine Keeps.drewN ?_ _ | refine Keeps.alloc ?_ _ | refine Keeps.setCell ?_ (by simp <;> omega) _ | refine Keeps.trans ?_ (by assumption)))).mono ?_; rintro e w' ⟨rfl, rfl⟩)
  exact bodyPost_ret (res_ct rfl agg_status rfl rfl rfl (heap_new_at _ (by simp))) rfl ⟨rfl, (by repeat (first | exact Keeps.refl _ _ | assumption | refine Keeps.drew ?_ | refine Keeps.drewN ?_ _ | refine Keeps.alloc ?_ _ | refine Keeps.setCell ?_ (by simp <;> omega) _ | refine Keeps.trans ?_ (by assumption)))⟩

theorem no_live {w : World} {p : Option Addr} (h : NoOne w p) :
    Calls Try.prog 15 #[.pointer p] w fun e w' => e = .returned (.slice none 0 0) ∧ Keeps [] w w' := by
  have H := Lib.hid h
  clear h
  go_enter Try.func15, Try.ntmps15
  go_wp2_with (go_at_call 33; refine (H.out _ (by repeat (first | exact Keeps.refl _ _ | assumption | refine Keeps.drew ?_ | refine Keeps.drewN ?_ _ | refine Keeps.alloc ?_ _ | refine Keeps.setCell ?_ (by simp <;> omega) _ | refine Keeps.trans ?_ (by assumption)))).mono ?_; rintro e w' ⟨rfl, rfl⟩)
  go_ret
  exact ⟨rfl, (by repeat (first | exact Keeps.refl _ _ | assumption | refine Keeps.drew ?_ | refine Keeps.drewN ?_ _ | refine Keeps.alloc ?_ _ | refine Keeps.setCell ?_ (by simp <;> omega) _ | refine Keeps.trans ?_ (by assumption)))⟩

theorem no_free {w : World} {p : Option Addr} (h : NoOne w p) :
    Calls Try.prog 14 #[.pointer p] w fun e w' => e = .returned (.int .i64 0) ∧ Keeps [] w w' := by
  have H := Lib.hid h
  clear h
  go_enter Try.func14, Try.ntmps14
  go_wp2_with (go_at_call 33; refine (H.out _ (by repeat (first | exact Keeps.refl _ _ | assumption | refine Keeps.drew ?_ | refine Keeps.drewN ?_ _ | refine Keeps.alloc ?_ _ | refine Keeps.setCell ?_ (by simp <;> omega) _ | refine Keeps.trans ?_ (by assumption)))).mono ?_; rintro e w' ⟨rfl, rfl⟩)
  go_ret
  exact ⟨rfl, (by repeat (first | exact Keeps.refl _ _ | assumption | refine Keeps.drew ?_ | refine Keeps.drewN ?_ _ | refine Keeps.alloc ?_ _ | refine Keeps.setCell ?_ (by simp <;> omega) _ | refine Keeps.trans ?_ (by assumption)))⟩

end Go.Proofs.Ythjghcfnopancaa
