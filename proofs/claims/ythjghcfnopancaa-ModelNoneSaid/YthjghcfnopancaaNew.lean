/-
  New, Live, Free, Status, See of a model: contracts.
-/
import Derived.Test.YthjghcfnopancaaMOpen
namespace Go.Proofs.Ythjghcfnopancaa
open Go.RowKit Go.Shelf Go.Maps

abbrev Cf.val (c : Cf) : Value := .agg #[.int .i64 c.sessions, .int .i64 c.frames, .int .i64 c.quota, .int .i64 c.room, .int .i64 c.slots]

theorem Cf.not_ok {c : Cf} (h : ¬ c.ok) : ¬ (1 ≤ c.frames ∧ c.frames ≤ 64) ∨ ((1 ≤ c.frames ∧ c.frames ≤ 64) ∧ ¬ (2 ≤ c.quota ∧ c.quota ≤ c.frames)) ∨
    ((1 ≤ c.frames ∧ c.frames ≤ 64) ∧ (2 ≤ c.quota ∧ c.quota ≤ c.frames) ∧ ¬ (1024 ≤ c.room ∧ c.room ≤ 1048576)) ∨
    ((1 ≤ c.frames ∧ c.frames ≤ 64) ∧ (2 ≤ c.quota ∧ c.quota ≤ c.frames) ∧ (1024 ≤ c.room ∧ c.room ≤ 1048576) ∧ ¬ (1 ≤ c.slots ∧ c.slots ≤ 1000)) ∨
    ((1 ≤ c.frames ∧ c.frames ≤ 64) ∧ (2 ≤ c.quota ∧ c.quota ≤ c.frames) ∧ (1024 ≤ c.room ∧ c.room ≤ 1048576) ∧ (1 ≤ c.slots ∧ c.slots ≤ 1000) ∧ (c.sessions < 1 ∨ 64 < c.sessions)) := by
  by_cases h1 : 1 ≤ c.frames ∧ c.frames ≤ 64
  · by_cases h2 : 2 ≤ c.quota ∧ c.quota ≤ c.frames
    · by_cases h3 : 1024 ≤ c.room ∧ c.room ≤ 1048576
      · by_cases h4 : 1 ≤ c.slots ∧ c.slots ≤ 1000
        · refine .inr (.inr (.inr (.inr ⟨h1, h2, h3, h4, ?_⟩)))
          by_cases h5 : 1 ≤ c.sessions ∧ c.sessions ≤ 64
          · exact absurd ⟨h5, h1, h2, h3, h4⟩ h
          · omega
        · exact .inr (.inr (.inr (.inl ⟨h1, h2, h3, h4⟩)))
      · exact .inr (.inr (.inl ⟨h1, h2, h3⟩))
    · exact .inr (.inl ⟨h1, h2⟩)
  · exact .inl h1

set_option maxRecDepth 100000 in
set_option maxHeartbeats 1000000 in
theorem new_no (c : Cf) (w : World) (h : ¬ c.ok) :
    Calls Try.prog 17 #[c.val] w fun e w' => e = .returned (.tuple #[.pointer none, .int .i64 3]) ∧ Keeps [] w w' := by
  rcases Cf.not_ok h with h1 | ⟨h1, h2⟩ | ⟨h1, h2, h3⟩ | ⟨h1, h2, h3, h4⟩ | ⟨h1, h2, h3, h4, h5⟩
  · obtain ⟨s, f, q, r, o⟩ := c
    simp only at *
    have d1 := decide_eq_false h1
    clear h h1
    go_enter Try.func17, Try.ntmps17
    go_wp2_with (first
      | (go_at_call 27; refine (within_any _ _ _ _).mono ?_; rintro e w' ⟨rfl, rfl⟩)
      | (go_at_call 35; refine (hT _).mono ?_; rintro e w' ⟨rfl, rfl⟩))
    go_ret2
    exact ⟨rfl, (by repeat (first | exact Keeps.refl _ _ | assumption | refine Keeps.drew ?_ | refine Keeps.drewN ?_ _ | refine Keeps.alloc ?_ _ | refine Keeps.setCell ?_ (by simp <;> omega) _ | refine Keeps.trans ?_ (by assumption)))⟩
  · obtain ⟨s, f, q, r, o⟩ := c
    simp only at *
    have d1 := decide_eq_true h1;   have d2 := decide_eq_false h2
    clear h h1 h2
    go_enter Try.func17, Try.ntmps17
    go_wp2_with (first
      | (go_at_call 27; refine (within_any _ _ _ _).mono ?_; rintro e w' ⟨rfl, rfl⟩)
      | (go_at_call 35; refine (hT _).mono ?_; rintro e w' ⟨rfl, rfl⟩))
    go_ret2
    exact ⟨rfl, (by repeat (first | exact Keeps.refl _ _ | assumption | refine Keeps.drew ?_ | refine Keeps.drewN ?_ _ | refine Keeps.alloc ?_ _ | refine Keeps.setCell ?_ (by simp <;> omega) _ | refine Keeps.trans ?_ (by assumption)))⟩
  · obtain ⟨s, f, q, r, o⟩ := c
    simp only at *
    have d1 := decide_eq_true h1;   have d2 := decide_eq_true h2; have d3 := decide_eq_false h3
    clear h h1 h2 h3
    go_enter Try.func17, Try.ntmps17
    go_wp2_with (first
      | (go_at_call 27; refine (within_any _ _ _ _).mono ?_; rintro e w' ⟨rfl, rfl⟩)
      | (go_at_call 35; refine (hT _).mono ?_; rintro e w' ⟨rfl, rfl⟩))
    go_ret2
    exact ⟨rfl, (by repeat (first | exact Keeps.refl _ _ | assumption | refine Keeps.drew ?_ | refine Keeps.drewN ?_ _ | refine Keeps.alloc ?_ _ | refine Keeps.setCell ?_ (by simp <;> omega) _ | refine Keeps.trans ?_ (by assumption)))⟩
  · obtain ⟨s, f, q, r, o⟩ := c
    simp only at *
    have d1 := decide_eq_true h1;   have d2 := decide_eq_true h2; have d3 := decide_eq_true h3; have d4 := decide_eq_false h4
    clear h h1 h2 h3 h4
    go_enter Try.func17, Try.ntmps17
    go_wp2_with (first
      | (go_at_call 27; refine (within_any _ _ _ _).mono ?_; rintro e w' ⟨rfl, rfl⟩)
      | (go_at_call 35; refine (hT _).mono ?_; rintro e w' ⟨rfl, rfl⟩))
    go_ret2
    exact ⟨rfl, (by repeat (first | exact Keeps.refl _ _ | assumption | refine Keeps.drew ?_ | refine Keeps.drewN ?_ _ | refine Keeps.alloc ?_ _ | refine Keeps.setCell ?_ (by simp <;> omega) _ | refine Keeps.trans ?_ (by assumption)))⟩
  · obtain ⟨s, f, q, r, o⟩ := c
    simp only at *
    have d1 := decide_eq_true h1;   have d2 := decide_eq_true h2; have d3 := decide_eq_true h3; have d4 := decide_eq_true h4; have hT := fun w => tnew_no s w h5
    clear h h1 h2 h3 h4 h5
    go_enter Try.func17, Try.ntmps17
    go_wp2_with (first
      | (go_at_call 27; refine (within_any _ _ _ _).mono ?_; rintro e w' ⟨rfl, rfl⟩)
      | (go_at_call 35; refine (hT _).mono ?_; rintro e w' ⟨rfl, rfl⟩))
    go_ret2
    exact ⟨rfl, (by repeat (first | exact Keeps.refl _ _ | assumption | refine Keeps.drew ?_ | refine Keeps.drewN ?_ _ | refine Keeps.alloc ?_ _ | refine Keeps.setCell ?_ (by simp <;> omega) _ | refine Keeps.trans ?_ (by assumption)))⟩

/-- A model that was just made. -/
def MS.fresh (c : Cf) : MS := { c, last := 0, l := [], live := [] }

theorem Valid.fresh {c : Cf} (h : c.ok) : Valid (MS.fresh c) :=
  ⟨h, by simp [MS.fresh, liveIds]; have := h.s; omega, ⟨by simp [MS.fresh], by simp [MS.fresh], by simp [MS.fresh]⟩, rfl, by simp [MS.fresh], by simp [MS.fresh], by simp [MS.fresh, liveIds]⟩

set_option maxRecDepth 100000 in
set_option maxHeartbeats 1000000 in
theorem new_yes (c : Cf) (w : World) (h : c.ok) :
    Calls Try.prog 17 #[c.val] w fun e w' => ∃ m t tb lb, e = .returned (.tuple #[.pointer (some ⟨m, 0, none⟩), .int .i64 0]) ∧ Keeps [] w w' ∧ ModelAt w' m t tb lb (MS.fresh c) ∧ w.heap.size ≤ m ∧ w.heap.size ≤ t ∧ w.heap.size ≤ tb ∧ w.heap.size ≤ lb := by
  obtain ⟨s, f, q, r, o⟩ := c
  obtain ⟨h5, h1, h2, h3, h4⟩ := h
  simp only at *
  have d1 := decide_eq_true h1
  have d2 := decide_eq_true h2
  have d3 := decide_eq_true h3
  have d4 := decide_eq_true h4
  have hmm := @run_makeMap Try.prog
  have hT := fun w => tnew_yes s w h5.1 h5.2
  clear h1 h2 h3 h4 h5
  go_enter Try.func17, Try.ntmps17
  go_wp2_with (first
    | (go_at_call 27; refine (within_any _ _ _ _).mono ?_; rintro e w' ⟨rfl, rfl⟩)
    | (go_at_call 35; refine (hT _).mono ?_; rintro e w1 ⟨t, tb, rfl, hk, ht, htb, hT1⟩
       obtain ⟨b0, hk⟩ := hk.new1 (by simp)
       obtain ⟨c0, c1, c2, c3, c4⟩ := cells5 b0))
  go_ret2
  have hk2 : Keeps [] w1 ((w1.alloc (.map #[] 0)).alloc (.cells #[.int .i64 s, .int .i64 f, .int .i64 q, .int .i64 r, .int .i64 o, .pointer (some ⟨t, 0, none⟩), .map (some w1.heap.size)] 49)) := ((Keeps.refl _ _).alloc _).alloc _
  have hs := hk.size
  have htlt := hT1.map.lt
  simp at ht htb
  refine ⟨_, t, tb, w1.heap.size, rfl, hk.trans hk2, ⟨heap_new_at _ (by simp), hT1.keep hk2 (by simp) (by simp), (IMap.made w1).alloc _, by omega⟩, by omega, by omega, by omega, by omega⟩

set_option maxHeartbeats 400000 in
theorem mlive_any {m t tb lb : Nat} {S : MS} {w : World} (h : ModelAt w m t tb lb S) (hV : Valid S) :
    Calls Try.prog 15 #[.pointer (some ⟨m, 0, none⟩)] w fun e w' => ∃ v, e = .returned v ∧ w'.ownsRow w.heap.size 3 1 v (liveIds S.l).length ((liveIds S.l).map (Value.int .i64)) ∧
      (v = .slice none 0 0 ↔ liveIds S.l = []) ∧ Keeps [] w w' := by
  have c5 : w.cell? ⟨m, 5, none⟩ = some (.pointer (some ⟨t, 0, none⟩)) := cellOf h.blk 5 rfl
  have hN := Lib.hid (mnone_at h)
  have hL := Lib.hid (live_any h.tbl hV.s1 hV.rise)
  clear h hV
  go_enter Try.func15, Try.ntmps15
  go_wp2_with (first
    | (go_at_call 33; refine (hN.out).mono ?_; rintro e w' ⟨rfl, rfl⟩)
    | (go_at_call 34; refine (hL.out).mono ?_; rintro e w' ⟨v, rfl, hr⟩; have Hr := Lib.hid hr; clear hr))
  go_ret
  exact ⟨v, rfl, Hr.out⟩

end Go.Proofs.Ythjghcfnopancaa
