/-
  Two lists of ints, held side by side: SameInts.
-/
import Derived.Test.YtkhokdikabopfaaGreatDoorIter
import Derived.Test.YtkhokdikabopfaaGreatDoorRows
import Derived.Deep.QuietTactic
import Derived.BigQuiet
import Derived.Deep.LoopGhost
namespace Go.Proofs.YtkhokdikabopfaaGreatDoor
open Go.RowKit Go.Shelf Go.Maps

/-- A slice that reads as a list of ints. -/
structure IntRow (w : World) (a : Option Addr) (xs : List Int) : Prop where
  few : xs.length ≤ 9223372036854775807
  cell : ∀ i x, xs[i]? = some x → ∃ g o, a = some ⟨g, o, none⟩ ∧ w.cell? ⟨g, o + i, none⟩ = some (.int .i64 x)

theorem IntRow.nil (w : World) (a : Option Addr) : IntRow w a [] := ⟨by simp, by simp⟩
theorem IntRow.keep {w w' : World} {a : Option Addr} {xs : List Int} {lst : List Nat} (h : IntRow w a xs) (k : Keeps lst w w') (hn : ∀ g o, a = some ⟨g, o, none⟩ → g ∉ lst) : IntRow w' a xs :=
  ⟨h.few, fun i x hx => by obtain ⟨g, o, rfl, hc⟩ := h.cell i x hx; exact ⟨g, o, rfl, k.cell hc (hn g o rfl)⟩⟩
theorem IntRow.on {w w' : World} {a : Option Addr} {xs : List Int} (h : IntRow w a xs) (k : Keeps [] w w') : IntRow w' a xs := h.keep k (by simp)

theorem introw_of_row {w : World} {base : Nat} {e : TypeId} {v : Value} {n : Nat} {xs : List Int} (h : w.ownsRow base e 1 v n (xs.map (Value.int .i64))) : ∃ a cap, v = .slice a xs.length cap ∧ IntRow w a xs := by
  have hl : n = xs.length := by have := h.1; simpa using this.symm
  subst hl
  by_cases h0 : xs.length = 0
  · obtain rfl : xs = [] := List.length_eq_zero_iff.1 h0
    rcases h.2 with ⟨rfl, -⟩ | ⟨g, cap, cur, rfl, -⟩
    · exact ⟨none, 0, rfl, IntRow.nil _ _⟩
    · exact ⟨_, _, rfl, IntRow.nil _ _⟩
  · obtain ⟨g, cap, cur, rfl, hb, hg, h1, h2, h3⟩ := ownsRow_at h (by omega)
    refine ⟨_, cap, rfl, ⟨by unfold maxLen at h2; omega, fun i x hx => ⟨g, 0, rfl, ?_⟩⟩⟩
    rw [Nat.zero_add]
    exact cellOf hg i (h3 i _ (by simp [hx]))

set_option maxHeartbeats 800000 in
theorem same_ints {w : World} {a b : Option Addr} {xs ys : List Int} {c d : Nat} (hA : IntRow w a xs) (hB : IntRow w b ys) :
    Calls Tryz.prog 23 #[.slice a xs.length c, .slice b ys.length d] w fun e w' => e = .returned (.bool (decide (xs = ys))) ∧ Keeps [] w w' := by
  have h1 := hA.few
  have h2 := hB.few
  have HA := Lib.hid hA
  have HB := Lib.hid hB
  clear hA hB
  by_cases hl : xs.length = ys.length
  · have hl2 : ((xs.length : Int) != (ys.length : Int)) = false := by simp; omega
    have hl3 := Lib.hid hl
    clear hl
    go_enter Tryz.func23, Tryz.ntmps23
    go_wp2
    go_loopg [5] xs.length (fun k z wr => ∃ i : Nat, z = .int .i64 i ∧ k + i = xs.length ∧ xs.take i = ys.take i ∧ Keeps [] w wr)
    case atStart => exact ⟨0, rfl, by omega, by simp, Keeps.refl _ _⟩
    case round =>
      obtain ⟨i, rfl, hki, heq, hk⟩ := hrel
      have heq := Lib.hid heq
      by_cases hi : i < xs.length
      · have hi' : i < ys.length := by have := hl3.out; omega
        have hx : xs[i]? = some xs[i] := List.getElem?_eq_getElem hi
        have hy : ys[i]? = some ys[i] := List.getElem?_eq_getElem hi'
        obtain ⟨g, o, rfl, cx⟩ := HA.out.cell i _ hx
        obtain ⟨g', o', rfl, cy⟩ := HB.out.cell i _ hy
        have cx := hk.cell cx (by simp)
        have cy := hk.cell cy (by simp)
        have i0 : (0 : Int) ≤ (i : Int) := by omega
        have i1 : (i : Int) < (xs.length : Int) := by omega
        have i2 : (i : Int) < (ys.length : Int) := by omega
        have Hx := Lib.hid hx
        have Hy := Lib.hid hy
        clear hx hy
        generalize xs[i] = x at cx Hx
        generalize ys[i] = y at cy Hy
        by_cases hxy : x = y
        · subst hxy
          go_wp2
          go_quiet (fail)
          go_wp2
          go_roundg (gk - 1)
          case measure => omega
          case rel => exact ⟨i + 1, by simp, by omega, by rw [List.take_add_one, List.take_add_one, heq.out, Hx.out, Hy.out], hk.drewN _⟩
        · have d : (x != y) = true := by simpa using hxy
          have dd : decide (xs = ys) = false := decide_eq_false (fun e => hxy (by have h1 := Hx.out; rw [e, Hy.out] at h1; exact (Option.some.inj h1).symm))
          have Hd := Lib.hid dd
          clear hxy dd
          go_wp2
          go_quiet (fail)
          go_wp2
          go_ret
          exact ⟨by rw [Hd.out]; rfl, hk.drewN _⟩
      · have hie : i = xs.length := by omega
        have dd : decide (xs = ys) = true := decide_eq_true (by
          have h1 := heq.out
          rw [List.take_of_length_le (by omega), List.take_of_length_le (by have := hl3.out; omega)] at h1
          exact h1)
        have Hd := Lib.hid dd
        have hge : (xs.length : Int) ≤ (i : Int) := by omega
        clear hie dd hki
        go_wp2
        go_ret
        exact ⟨by rw [Hd.out]; rfl, hk⟩
  · have hne : decide (xs = ys) = false := decide_eq_false (fun e => hl (by rw [e]))
    rw [hne]
    have hl2 : ((xs.length : Int) != (ys.length : Int)) = true := by simp; omega
    clear hl hne
    go_enter Tryz.func23, Tryz.ntmps23
    go_wp2
    go_ret
    exact ⟨rfl, (by repeat (first | exact Keeps.refl _ _ | assumption | refine Keeps.drew ?_ | refine Keeps.drewN ?_ _ | refine Keeps.alloc ?_ _ | refine Keeps.setCell ?_ (by simp <;> omega) _ | refine Keeps.trans ?_ (by assumption)))⟩

end Go.Proofs.YtkhokdikabopfaaGreatDoor
