/-
  Server: Press where nobody holds a frame, Pick, what is refused by Feed and Status, a configuration that is refused.
-/
import Derived.Test.YtkhokdikabopfaaGreatDoorServerP
import Derived.Test.YtkhokdikabopfaaGreatDoorServerJ
namespace Go.Proofs.YtkhokdikabopfaaGreatDoor
open Go.RowKit Go.Shelf Go.Maps

set_option maxHeartbeats 800000 in
theorem vpress_no {P : SrvP} {c : Cf} {last : Int} {l : List (Int × Int)} {L : List Sess} {w : World} (h : SrvAt w P c last l L) (want : Nat) (hw : c.frames < want) :
    Calls Tryz.prog 13 #[.pointer (some ⟨P.s, 0, none⟩), .int .i64 want] w fun e w' => e = .returned (.tuple #[.slice none 0 0, .int .i64 3]) ∧ Keeps [] w w' := by
  obtain ⟨c1, c2, c3, c4, c5, c6, c7⟩ := h.c
  have d1 : decide ((want : Int) < 0) = false := decide_eq_false (by omega)
  have d2 : decide (c.frames < want) = true := decide_eq_true hw
  have d3 : decide ((c.frames : Int) < (want : Int)) = true := decide_eq_true (by omega)
  clear h hw
  go_enter Tryz.func13, Tryz.ntmps13
  go_wp2_with (go_at_call 31; refine (vnone c5).mono ?_; rintro e w' ⟨rfl, rfl⟩)
  go_ret2
  exact ⟨rfl, (by repeat (first | exact Keeps.refl _ _ | assumption | refine Keeps.drew ?_ | refine Keeps.drewN ?_ _ | refine Keeps.alloc ?_ _ | refine Keeps.setCell ?_ (by simp <;> omega) _ | refine Keeps.trans ?_ (by assumption)))⟩

set_option maxHeartbeats 800000 in
theorem vpress_idle {P : SrvP} {c : Cf} {last : Int} {l : List (Int × Int)} {L : List Sess} {w : World} (h : SrvAt w P c last l L) (hc : c.ok) (hO : VOk last l L) (want : Nat) (hw : want ≤ c.frames) :
    Calls Tryz.prog 13 #[.pointer (some ⟨P.s, 0, none⟩), .int .i64 want] w fun e w' => e = .returned (.tuple #[.slice none 0 0, .int .i64 0]) ∧ Keeps [] w w' := by
  obtain ⟨c1, c2, c3, c4, c5, c6, c7⟩ := h.c
  have d1 : decide ((want : Int) < 0) = false := decide_eq_false (by omega)
  have d2 : decide (c.frames < want) = false := decide_eq_false (by omega)
  have d4 : decide ((0 : Int) < 0) = false := by decide
  have hV := Lib.hid (vvictim h hc hO)
  clear h hw hc hO
  go_enter Tryz.func13, Tryz.ntmps13
  go_wp2_with (first
    | (go_at_call 31; refine (vnone c5).mono ?_; rintro e w' ⟨rfl, rfl⟩)
    | (go_at_call 38; refine (hV.out).mono ?_; rintro e w1 ⟨rfl, hk1⟩))
  refine wp_loop_once ?_
  go_wp2
  go_ret2
  exact ⟨rfl, hk1⟩

set_option maxHeartbeats 400000 in
theorem vpick1 {w : World} {p : Nat} {room : Int} {slots : Nat} {z : Sess} (h : SessAt w p room slots z) (h1 : 1 ≤ room) (he : z.ended = true) (hx : z.nx = .func (.func 72) #[.pointer (some ⟨z.x, 0, none⟩)] #[]) :
    Calls Tryz.prog 36 #[.pointer (some ⟨z.k, 0, none⟩)] w (Told2 fun x e w' => x = .int .i64 5 ∧ e = 0 ∧ Keeps [z.x, z.q] w w' ∧ SessAt w' p room slots { z with nx := .nilFunc, cause := 20 }) := by
  have k0 : w.cell? ⟨z.k, 0, none⟩ = some (.pointer (some ⟨z.x, 0, none⟩)) := cellOf h.k 0 rfl
  have hE := Lib.hid (spick h h1 he hx)
  clear h he hx
  go_enter Tryz.func36, Tryz.ntmps36
  go_wp2_with (go_at_call 37; refine (hE.out).mono ?_; rintro e w' ⟨rfl, hk, hS⟩)
  go_ret2
  exact ⟨_, _, rfl, rfl, rfl, hk, hS⟩

set_option maxHeartbeats 400000 in
theorem vpick {P : SrvP} {c : Cf} {last : Int} {l : List (Int × Int)} {L : List Sess} {w : World} (h : SrvAt w P c last l L) (hc : c.ok) (hO : VOk last l L) {z : Sess} (hz : z ∈ L) (he : z.ended = true) (hx : z.nx = .func (.func 72) #[.pointer (some ⟨z.x, 0, none⟩)] #[]) :
    Calls Tryz.prog 12 #[.pointer (some ⟨P.s, 0, none⟩), .int .i64 z.id] w fun e w' => e = .returned (.tuple #[.int .i64 5, .int .i64 0]) ∧ Keeps [z.x, z.q] w w' ∧ SrvAt w' P c last l (swap L { z with nx := .nilFunc, cause := 20 }) := by
  have hA := vask_int_yes h hc hO hz 36 #[] (enters_of Tryz.func36 (by kernel_rfl) rfl) (fun x e w' => x = .int .i64 5 ∧ e = 0 ∧ Keeps [z.x, z.q] w w' ∧ SessAt w' P.p c.room c.slots { z with nx := .nilFunc, cause := 20 })
    (fun w1 hk => (vpick1 ((h.sess z hz).1.keep hk (by simp)) (by have := hc.r.1; omega) he hx).mono fun _ _ ⟨x, e, h1, h2, h3, h4, h5⟩ => ⟨x, e, h1, h2, h3, (hk.mono (by simp)).trans h4, h5⟩)
  have hA := Lib.hid hA
  have hn := (h.sess z hz).1.ne
  have HT : Hid (∀ w', Keeps [z.x, z.q] w w' → SessAt w' P.p c.room c.slots { z with nx := .nilFunc, cause := 20 } → SrvAt w' P c last l (swap L { z with nx := .nilFunc, cause := 20 })) := Lib.hid fun w' k s => h.turn hO hz rfl rfl rfl rfl k (by simp; omega) s
  clear h hc hO he hx
  go_enter Tryz.func12, Tryz.ntmps12
  go_wp2_with (go_at_call 25; refine (hA.out).mono ?_; rintro e w' ⟨x, e2, rfl, rfl, rfl, hk, hS⟩)
  go_ret2
  exact ⟨rfl, hk, HT.out _ hk hS⟩

theorem vfeed_no {P : SrvP} {c : Cf} {last : Int} {l : List (Int × Int)} {L : List Sess} {w : World} (h : SrvAt w P c last l L) (hc : c.ok) (id : Int) (hr : vref l id ≠ 0) (q : Option Addr) (n m : Nat) :
    Calls Tryz.prog 7 #[.pointer (some ⟨P.s, 0, none⟩), .int .i64 id, .slice q n m] w fun e w' => e = .returned (.tuple #[.int .i64 0, .int .i64 (vref l id)]) ∧ Keeps [] w w' := by
  have hO : Hid (∀ w', Keeps [] w w' → ∀ f, _) := Lib.hid fun w' (k : Keeps [] w w') => fun f => vask_int_no (h.on k) hc id f hr
  clear h hc hr
  go_enter Tryz.func7, Tryz.ntmps7
  go_wp2_with (go_at_call 25; refine (hO.out _ (by repeat (first | exact Keeps.refl _ _ | assumption | refine Keeps.drew ?_ | refine Keeps.drewN ?_ _ | refine Keeps.alloc ?_ _ | refine Keeps.setCell ?_ (by simp <;> omega) _ | refine Keeps.trans ?_ (by assumption))) _).mono ?_; rintro e w' ⟨rfl, hk⟩)
  go_ret2
  exact ⟨rfl, (by repeat (first | exact Keeps.refl _ _ | assumption | refine Keeps.drew ?_ | refine Keeps.drewN ?_ _ | refine Keeps.alloc ?_ _ | refine Keeps.setCell ?_ (by simp <;> omega) _ | refine Keeps.trans ?_ (by assumption)))⟩

/-- A status that tells a cause alone. -/
abbrev overStat (c : Int) : Value := .agg #[.int .i64 c, .int .i64 0, .int .i64 0, .int .i64 0, .int .i64 0, .int .i64 0, .int .i64 0]

set_option maxRecDepth 100000 in
set_option maxHeartbeats 1000000 in
theorem vask_stat_over {P : SrvP} {c : Cf} {last : Int} {l : List (Int × Int)} {L : List Sess} {w : World} (h : SrvAt w P c last l L) (hc : c.ok) (id : Int) (what : Value) (cause : Int) (hcz : cause ≠ 0) (hr : causeOf l id = (cause, 0)) :
    Calls Tryz.prog 28 #[.pointer (some ⟨P.s, 0, none⟩), .int .i64 id, what] w fun e w' => e = .returned (.tuple #[overStat 0, .int .i64 cause]) ∧ Keeps [] w w' := by
  have hC : Hid (∀ w', Keeps [] w w' → _) := Lib.hid fun w' (k : Keeps [] w w') => cause_any (h.on k).tbl (by have := hc.s.1; omega) id
  rw [hr] at hC
  have H5 : Hid (∀ w', Keeps [] w w' → _) := Lib.hid fun w' (k : Keeps [] w w') => (h.on k).c.2.2.2.2.1
  have c5 := h.c.2.2.2.2.1
  have hlt := h.under.1.1
  have hr0 : (cause == 0) = false := by simpa using hcz
  clear h hc hr hcz
  go_enter Tryz.func28, Tryz.ntmps28
  go_wp2_with (first
    | (go_at_call 31; refine (vnone (H5.out _ (by repeat (first | exact Keeps.refl _ _ | assumption | refine Keeps.drew ?_ | refine Keeps.drewN ?_ _ | refine Keeps.alloc ?_ _ | refine Keeps.setCell ?_ (by simp <;> omega) _ | refine Keeps.trans ?_ (by assumption))))).mono ?_; rintro e w' ⟨rfl, rfl⟩)
    | (go_at_call 32; refine (hC.out _ (by repeat (first | exact Keeps.refl _ _ | assumption | refine Keeps.drew ?_ | refine Keeps.drewN ?_ _ | refine Keeps.alloc ?_ _ | refine Keeps.setCell ?_ (by simp <;> omega) _ | refine Keeps.trans ?_ (by assumption)))).mono ?_; rintro e w1 ⟨rfl, hk⟩; obtain ⟨b0, hk⟩ := hk.new1 (by simp); obtain ⟨e0, e1, e2, e3, e4, e5, e6⟩ := cells7 b0; have fr := frees b0; have hb0 := Lib.hid b0; clear b0))
  exact bodyPost_ret (res_ct rfl agg_stat rfl rfl rfl (stored7 hb0.out)) rfl ⟨rfl, hk.store7 (fun h => by omega)⟩

set_option maxRecDepth 100000 in
set_option maxHeartbeats 1000000 in
theorem vstatus_over {P : SrvP} {c : Cf} {last : Int} {l : List (Int × Int)} {L : List Sess} {w : World} (h : SrvAt w P c last l L) (hc : c.ok) (id : Int) (cause : Int) (hcz : cause ≠ 0) (hr : causeOf l id = (cause, 0)) :
    Calls Tryz.prog 9 #[.pointer (some ⟨P.s, 0, none⟩), .int .i64 id] w fun e w' => e = .returned (.tuple #[overStat cause, .int .i64 0]) ∧ Keeps [] w w' := by
  have hA : Hid (∀ w', Keeps [] w w' → ∀ f, _) := Lib.hid fun w' (k : Keeps [] w w') => fun f => vask_stat_over (h.on k) hc id f cause hcz hr
  have hC : Hid (∀ w', Keeps [] w w' → _) := Lib.hid fun w' (k : Keeps [] w w') => cause_any (h.on k).tbl (by have := hc.s.1; omega) id
  rw [hr] at hC
  have H5 : Hid (∀ w', Keeps [] w w' → _) := Lib.hid fun w' (k : Keeps [] w w') => (h.on k).c.2.2.2.2.1
  have c5 := h.c.2.2.2.2.1
  have hlt := h.under.1.1
  have hr0 : (cause == 0) = false := by simpa using hcz
  have hr1 : (cause != 0) = true := by simpa using hcz
  have hx : w.heap.size < w.heap.size → w.heap.size ∈ ([] : List Nat) := fun h => absurd h (by omega)
  clear h hc hr hcz
  go_enter Tryz.func9, Tryz.ntmps9
  go_wp2_with (first
    | (go_at_call 28; refine (hA.out _ (by repeat (first | exact Keeps.refl _ _ | assumption | refine Keeps.drew ?_ | refine Keeps.drewN ?_ _ | refine Keeps.alloc ?_ _ | refine Keeps.setCell ?_ (by simp <;> omega) _ | refine Keeps.trans ?_ (by assumption))) _).mono ?_; rintro e w1 ⟨rfl, hk⟩; obtain ⟨b0, hk⟩ := hk.new1 (by simp); have d5 := H5.out w1 hk; have hb0 := Lib.hid b0; have hl := ltOf b0; have hks := hk.size; (have hls : P.s < w1.heap.size := by omega); clear b0)
    | (go_at_call 31; refine (vnone (H5.out _ (by repeat (first | exact Keeps.refl _ _ | assumption | refine Keeps.drew ?_ | refine Keeps.drewN ?_ _ | refine Keeps.alloc ?_ _ | refine Keeps.setCell ?_ (by simp <;> omega) _ | refine Keeps.trans ?_ (by assumption))))).mono ?_; rintro e w' ⟨rfl, rfl⟩)
    | (go_at_call 32; refine (hC.out _ (by repeat (first | exact Keeps.refl _ _ | assumption | refine Keeps.drew ?_ | refine Keeps.drewN ?_ _ | refine Keeps.alloc ?_ _ | refine Keeps.setCell ?_ (by simp <;> omega) _ | refine Keeps.trans ?_ (by assumption)))).mono ?_; rintro e w2 ⟨rfl, hk2⟩; obtain ⟨-, hk2⟩ := hk2.new1 (by simp); have b0 := hk2.blk hb0.out (by simp); obtain ⟨e0, e1, e2, e3, e4, e5, e6⟩ := cells7 b0; have fr := frees b0; have hb2 := Lib.hid b0; clear b0))
  exact bodyPost_ret (res_ct rfl agg_stat rfl rfl rfl (stored7 hb2.out)) rfl ⟨rfl, (hk.trans hk2).store7 hx⟩

set_option maxRecDepth 100000 in
set_option maxHeartbeats 800000 in
theorem vnew_bad (s f q r o : Nat) (w : World) (h : q < 2 ∨ f < q) :
    Calls Tryz.prog 14 #[(⟨s, f, q, r, o⟩ : Cf).val] w fun e w' => e = .returned (.tuple #[.pointer none, .int .i64 3]) ∧ Keeps [] w w' := by
  have d1 : decide ((2 : Int) ≤ (q : Int) ∧ (q : Int) ≤ (f : Int)) = false := decide_eq_false (by omega)
  have hV := Lib.hid fun w => vwithin (q : Int) 2 (f : Int) w
  simp only [d1] at hV
  clear d1 h
  go_enter Tryz.func14, Tryz.ntmps14
  go_wp2_with (go_at_call 41; refine (hV.out _).mono ?_; rintro e w' ⟨rfl, rfl⟩)
  go_ret2
  exact ⟨rfl, (by repeat (first | exact Keeps.refl _ _ | assumption | refine Keeps.drew ?_ | refine Keeps.drewN ?_ _ | refine Keeps.alloc ?_ _ | refine Keeps.setCell ?_ (by simp <;> omega) _ | refine Keeps.trans ?_ (by assumption)))⟩

end Go.Proofs.YtkhokdikabopfaaGreatDoor
