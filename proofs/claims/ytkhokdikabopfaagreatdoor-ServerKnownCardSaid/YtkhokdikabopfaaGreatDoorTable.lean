/-
  What the functions of package table do: contracts.
-/
import Derived.Test.YtkhokdikabopfaaGreatDoorRows
import Derived.Test.YtkhokdikabopfaaGreatDoorHeap
import Derived.Deep.QuietTactic
import Derived.BigQuiet
namespace Go.Proofs.YtkhokdikabopfaaGreatDoor
open Go.RowKit

/-- What a table's map holds. -/
def tmap (l : List (Int × Int)) : List (Int × Value) := l.map fun p => (p.1, .agg #[.int .i64 p.2])
/-- A table: how many may be live, the last number, each number's cause. -/
structure TblAt (w : World) (t mb : Nat) (most last : Int) (l : List (Int × Int)) : Prop where
  blk : w.heap[t]? = some (.cells #[.int .i64 most, .int .i64 last, .map (some mb)] 110 (0, 0))
  map : IMap w mb (tmap l)

theorem zero_entry (w : World) : (zeroValue 106).run Tryz.prog w = .ok (.agg #[.int .i64 0]) w := by kernel_rfl

set_option maxHeartbeats 400000 in
theorem tnone_made (t : Nat) (most : Int) (w : World) (hc : w.cell? ⟨t, 0, none⟩ = some (.int .i64 most)) (h0 : (most == 0) = false) :
    Calls Tryz.prog 62 #[.pointer (some ⟨t, 0, none⟩)] w fun e w' => e = .returned (.bool false) ∧ w = w' := by
  go_enter Tryz.func62, Tryz.ntmps62
  go_wp2
  go_ret
  simp


theorem look_tmap (id : Int) : ∀ l : List (Int × Int), look (tmap l) id = (l.find? (fun p => p.1 == id)).map (fun p => .agg #[.int .i64 p.2]) := by
  intro l
  induction l with
  | nil => rfl
  | cons p t ih =>
    obtain ⟨a, c⟩ := p
    by_cases e : id = a
    · subst e; simp [tmap, look]
    · have e' : ¬ a = id := fun h => e h.symm
      have e2 : (a == id) = false := by simpa using e'
      simp only [tmap] at ih
      simp [tmap, look, e, e2, ih]

/-- What Cause answers. -/
def causeOf (l : List (Int × Int)) (id : Int) : Int × Int := match l.find? (fun p => p.1 == id) with | some p => (p.2, 0) | none => (0, 18)

set_option maxHeartbeats 400000 in
theorem cause_any {t mb : Nat} {most last : Int} {l : List (Int × Int)} {w : World} (h : TblAt w t mb most last l) (h1 : 1 ≤ most) (id : Int) :
    Calls Tryz.prog 32 #[.pointer (some ⟨t, 0, none⟩), .int .i64 id] w fun e w' => e = .returned (.tuple #[.int .i64 (causeOf l id).1, .int .i64 (causeOf l id).2]) ∧ Keeps [] w w' := by
  have c0 : w.cell? ⟨t, 0, none⟩ = some (.int .i64 most) := cellOf h.blk 0 rfl
  have c2 : w.cell? ⟨t, 2, none⟩ = some (.map (some mb)) := cellOf h.blk 2 rfl
  have hm := h.map
  have h0 : (most == 0) = false := by simp; omega
  have ht := look_tmap id l
  cases hl : l.find? (fun p => p.1 == id) with
  | none =>
    rw [hl] at ht
    have hr := (run_lookup_no (P := Tryz.prog) Tryz.underlying108 Tryz.underlying3 (zero_entry w) hm ht).2
    have hc : causeOf l id = (0, 18) := by simp [causeOf, hl]
    rw [hc]
    clear ht hl hc h
    go_enter Tryz.func32, Tryz.ntmps32
    go_wp2_with (go_at_call 62; refine (tnone_made _ most _ c0 h0).mono ?_; rintro e w' ⟨rfl, rfl⟩)
    go_ret2
    exact ⟨rfl, (by repeat (first | exact Keeps.refl _ _ | assumption | refine Keeps.drew ?_ | refine Keeps.drewN ?_ _ | refine Keeps.alloc ?_ _ | refine Keeps.setCell ?_ (by simp <;> omega) _ | refine Keeps.trans ?_ (by assumption)))⟩
  | some v =>
    rw [hl] at ht
    have hr := (run_lookup_yes (P := Tryz.prog) Tryz.underlying108 Tryz.underlying3 hm ht).2
    have hc : causeOf l id = (v.2, 0) := by simp [causeOf, hl]
    rw [hc]
    clear ht hl hc h
    go_enter Tryz.func32, Tryz.ntmps32
    go_wp2_with (go_at_call 62; refine (tnone_made _ most _ c0 h0).mono ?_; rintro e w' ⟨rfl, rfl⟩)
    go_ret2
    exact ⟨rfl, (by repeat (first | exact Keeps.refl _ _ | assumption | refine Keeps.drew ?_ | refine Keeps.drewN ?_ _ | refine Keeps.alloc ?_ _ | refine Keeps.setCell ?_ (by simp <;> omega) _ | refine Keeps.trans ?_ (by assumption)))⟩

set_option maxHeartbeats 400000 in
theorem tnew_no (most : Int) (w : World) (h : most < 1 ∨ 64 < most) :
    Calls Tryz.prog 42 #[.int .i64 most] w fun e w' => e = .returned (.tuple #[.pointer none, .int .i64 3]) ∧ w = w' := by
  by_cases h1 : most < 1
  all_goals
    go_enter Tryz.func42, Tryz.ntmps42
    go_wp2
    go_ret2
    exact ⟨rfl, rfl⟩

set_option maxHeartbeats 400000 in
theorem tnew_yes (most : Int) (w : World) (h1 : 1 ≤ most) (h2 : most ≤ 64) :
    Calls Tryz.prog 42 #[.int .i64 most] w fun e w' => ∃ t mb, e = .returned (.tuple #[.pointer (some ⟨t, 0, none⟩), .int .i64 0]) ∧ Keeps [] w w' ∧ w.heap.size ≤ t ∧ w.heap.size ≤ mb ∧ TblAt w' t mb most 0 [] := by
  have hmm := @run_makeMap Tryz.prog
  go_enter Tryz.func42, Tryz.ntmps42
  go_wp2
  go_ret2
  refine ⟨_, _, rfl, (by repeat (first | exact Keeps.refl _ _ | assumption | refine Keeps.drew ?_ | refine Keeps.drewN ?_ _ | refine Keeps.alloc ?_ _ | refine Keeps.setCell ?_ (by simp <;> omega) _ | refine Keeps.trans ?_ (by assumption))), ?_, ?_, ⟨heap_new_at _ (by simp), (IMap.made w).alloc _⟩⟩ <;> simp

/-- What End makes of a number's cause. -/
def ended (l : List (Int × Int)) (id c : Int) : List (Int × Int) := l.map fun p => if p.1 = id then (id, c) else p

theorem put_ended (id c : Int) : ∀ (l : List (Int × Int)), (l.map (·.1)).Nodup → (∃ p ∈ l, p.1 = id) → put (tmap l) id (.agg #[.int .i64 c]) = tmap (ended l id c) := by
  intro l
  induction l with
  | nil => intro _ h; simp at h
  | cons p t ih =>
    intro hn h
    obtain ⟨a, x⟩ := p
    simp only [List.map_cons, List.nodup_cons] at hn
    by_cases e : id = a
    · subst e
      have : t.map (fun p : Int × Int => if p.1 = id then (id, c) else p) = t := by
        refine (List.map_congr_left fun p hp => ?_).trans (List.map_id t)
        have : p.1 ≠ id := fun e => hn.1 (List.mem_map.2 ⟨p, hp, e⟩)
        simp [this]
      simp [tmap, put, ended, this]
    · have e' : ¬ a = id := fun h => e h.symm
      have := ih hn.2 (by obtain ⟨p, hp, hq⟩ := h; simp at hp; rcases hp with rfl | hp; exact absurd hq e'; exact ⟨p, hp, hq⟩)
      simp only [tmap, ended] at this
      simp [tmap, put, ended, e, e', this]

set_option maxHeartbeats 800000 in
theorem tend_live {t mb : Nat} {most last : Int} {l : List (Int × Int)} {w : World} (h : TblAt w t mb most last l) (h1 : 1 ≤ most) (hn : (l.map (·.1)).Nodup) (id c : Int) (hc : c ≠ 0) (hl : (id, 0) ∈ l) :
    Calls Tryz.prog 67 #[.pointer (some ⟨t, 0, none⟩), .int .i64 id, .int .i64 c] w fun e w' => e = .returned (.int .i64 0) ∧ Keeps [mb] w w' ∧ TblAt w' t mb most last (ended l id c) := by
  have c0 : w.cell? ⟨t, 0, none⟩ = some (.int .i64 most) := cellOf h.blk 0 rfl
  have h0 : (most == 0) = false := by simp; omega
  have hcz : (c == 0) = false := by simpa using hc
  have hf : causeOf l id = (0, 0) := by
    cases hq : l.find? (fun p => p.1 == id) with
    | none => have := List.find?_eq_none.1 hq _ hl; simp at this
    | some q =>
      have hq1 := List.mem_of_find?_eq_some hq
      have hq2 : q.1 = id := by simpa using List.find?_some hq
      have : q = (id, 0) := by
        exact nodup_fst hn hq1 hl (by simpa using hq2)
      simp [causeOf, hq, this]
  have hne : mb ≠ t := by
    obtain ⟨es, clock, hb, -⟩ := h.map.ex
    intro e; subst e; rw [h.blk] at hb; cases hb
  have hC := cause_any h h1 id
  rw [hf] at hC
  have hH := Lib.hid h
  go_enter Tryz.func67, Tryz.ntmps67
  go_wp2_with (first
    | (go_at_call 62; refine (tnone_made _ most _ c0 h0).mono ?_; rintro e w' ⟨rfl, rfl⟩)
    | (go_at_call 32; refine hC.mono ?_; clear hC; rintro e w1 ⟨rfl, hk⟩
       have h' : TblAt w1 t mb most last l := ⟨hk.blk hH.out.blk (by simp), hH.out.map.keep hk (by simp)⟩
       have c2 : w1.cell? ⟨t, 2, none⟩ = some (.map (some mb)) := cellOf h'.blk 2 rfl
       obtain ⟨w2, hr, hM, hk2⟩ := run_update (P := Tryz.prog) Tryz.underlying108 Tryz.underlying3 h'.map id (.agg #[.int .i64 c])))
  go_ret
  have hp := put_ended id c l hn ⟨_, hl, rfl⟩
  rw [hp] at hM
  exact ⟨rfl, (hk.mono (by simp)).trans hk2, ⟨hk2.blk h'.blk (by simp; exact fun e => hne e.symm), hM⟩⟩

end Go.Proofs.YtkhokdikabopfaaGreatDoor
