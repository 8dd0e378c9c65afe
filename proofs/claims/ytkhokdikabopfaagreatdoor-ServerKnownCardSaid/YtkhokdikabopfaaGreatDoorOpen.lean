/-
  How many more may be live, and the next number.
-/
import Derived.Test.YtkhokdikabopfaaGreatDoorLive
import Derived.Deep.RegionWith
import Derived.Deep.RegionHeld3
namespace Go.Proofs.YtkhokdikabopfaaGreatDoor
open Go.RowKit Go.Shelf Go.Maps

theorem ownsRow_slice {w : World} {base : Nat} {e : TypeId} {size : Nat} {v : Value} {n : Nat} {xs : List Value} (h : w.ownsRow base e size v n xs) : ∃ a cap, v = .slice a n cap := by
  rcases h.2 with ⟨rfl, rfl⟩ | ⟨g, cap, _, rfl, _⟩
  · exact ⟨_, _, rfl⟩
  · exact ⟨_, _, rfl⟩

set_option maxHeartbeats 1000000 in
theorem room_any {t mb : Nat} {most last : Int} {l : List (Int × Int)} {w : World} (h : TblAt w t mb most last l) (h1 : 1 ≤ most) (h2 : most ≤ 64) (hr : Rising l) :
    Calls Tryz.prog 68 #[.pointer (some ⟨t, 0, none⟩)] w fun e w' => e = .returned (.int .i64 (most - (liveIds l).length)) ∧ Keeps [] w w' := by
  have c0 : w.cell? ⟨t, 0, none⟩ = some (.int .i64 most) := cellOf h.blk 0 rfl
  have h0 : (most == 0) = false := by simp; omega
  have hl : (liveIds l).length ≤ l.length := by simp only [liveIds, List.length_map]; exact List.length_filter_le _ _
  have hll := hr.len
  have HL : Hid (∀ n, Calls Tryz.prog 52 #[.pointer (some ⟨t, 0, none⟩)] (w.drewN n) fun e w' => ∃ a cap, e = .returned (.slice a (liveIds l).length cap) ∧ Keeps [] w w' ∧ w'.cell? ⟨t, 0, none⟩ = some (.int .i64 most)) := Lib.hid fun n => by
    refine (live_any (w := w.drewN n) ⟨h.blk, ⟨h.map.ex⟩⟩ h1 hr).mono ?_
    rintro e w' ⟨v, rfl, hrow, -, hk⟩
    obtain ⟨a, cap, rfl⟩ := ownsRow_slice hrow
    exact ⟨a, cap, rfl, (Keeps.refl [] w).trans ⟨hk.os, hk.tape, hk.output, hk.size, hk.block⟩, cellOf (hk.blk h.blk (by simp)) 0 rfl⟩
  have hw : IntKind.i64.wrap (most - ((liveIds l).length : Int)) = most - ((liveIds l).length : Int) := IntWalk.i64_in _ (by omega)
  clear h hr
  go_enter Tryz.func68, Tryz.ntmps68
  go_wp2_with (go_at_call 62; refine (tnone_made _ most _ c0 h0).mono ?_; rintro e w' ⟨rfl, rfl⟩)
  go_region_with (go_at_call 52; refine (HL.out 1).mono ?_; rintro e w1 ⟨a, cap, rfl, hk, hc⟩)
  all_goals go_wp2
  all_goals
    go_ret
    exact ⟨by simp [Act.put], hk⟩

theorem put_new (k : Int) (v : Value) : ∀ l : List (Int × Value), (∀ p ∈ l, p.1 ≠ k) → put l k v = l ++ [(k, v)] := by
  intro l
  induction l with
  | nil => intro _; rfl
  | cons p t ih =>
    intro h
    obtain ⟨a, u⟩ := p
    have h1 : ¬ k = a := fun e => h (a, u) (by simp) e.symm
    simp only [put, if_neg h1, List.cons_append]
    rw [ih (fun q hq => h q (by simp [hq]))]

set_option maxHeartbeats 1000000 in
theorem topen_full {t mb : Nat} {most last : Int} {l : List (Int × Int)} {w : World} (h : TblAt w t mb most last l) (h1 : 1 ≤ most) (h2 : most ≤ 64) (hr : Rising l) (hf : ((liveIds l).length : Int) = most) :
    Calls Tryz.prog 44 #[.pointer (some ⟨t, 0, none⟩)] w fun e w' => e = .returned (.tuple #[.int .i64 0, .int .i64 15]) ∧ Keeps [] w w' := by
  have c0 : w.cell? ⟨t, 0, none⟩ = some (.int .i64 most) := cellOf h.blk 0 rfl
  have h0 : (most == 0) = false := by simp; omega
  have hR := room_any h h1 h2 hr
  have e0 : most - ((liveIds l).length : Int) = 0 := by omega
  rw [e0] at hR
  clear h hr hf e0
  go_enter Tryz.func44, Tryz.ntmps44
  go_wp2_with (first
    | (go_at_call 62; refine (tnone_made _ most _ c0 h0).mono ?_; rintro e w' ⟨rfl, rfl⟩)
    | (go_at_call 68; refine hR.mono ?_; rintro e w1 ⟨rfl, hk⟩))
  go_ret2
  exact ⟨rfl, hk⟩

set_option maxHeartbeats 1000000 in
theorem topen_yes {t mb : Nat} {most last : Int} {l : List (Int × Int)} {w : World} (h : TblAt w t mb most last l) (h1 : 1 ≤ most) (h2 : most ≤ 64) (hr : Rising l) (hf : ((liveIds l).length : Int) < most)
    (h3 : 0 ≤ last) (h4 : last < 2147483647) (hnew : ∀ p ∈ l, p.1 ≤ last) :
    Calls Tryz.prog 44 #[.pointer (some ⟨t, 0, none⟩)] w fun e w' => e = .returned (.tuple #[.int .i64 (last + 1), .int .i64 0]) ∧ Keeps [t, mb] w w' ∧ TblAt w' t mb most (last + 1) (l ++ [(last + 1, 0)]) := by
  have c0 : w.cell? ⟨t, 0, none⟩ = some (.int .i64 most) := cellOf h.blk 0 rfl
  have h0 : (most == 0) = false := by simp; omega
  have hR := Lib.hid (room_any h h1 h2 hr)
  have e0 : (most - ((liveIds l).length : Int) == 0) = false := by simp; omega
  have e1 : (last == 2147483647) = false := by simp; omega
  have hne : mb ≠ t := by
    obtain ⟨es, clock, hb, -⟩ := h.map.ex
    intro e; subst e; rw [h.blk] at hb; cases hb
  have hput : put (tmap l) (last + 1) (.agg #[.int .i64 0]) = tmap (l ++ [(last + 1, 0)]) := by
    rw [put_new]
    · simp [tmap]
    · intro p hp e
      obtain ⟨q, hq, rfl⟩ := List.mem_map.1 hp
      have := hnew q hq
      simp only at e; omega
  have H := Lib.hid h
  have Hp := Lib.hid hput
  clear h hr hf hput
  go_enter Tryz.func44, Tryz.ntmps44
  go_wp2_with (first
    | (go_at_call 62; refine (tnone_made _ most _ c0 h0).mono ?_; rintro e w' ⟨rfl, rfl⟩)
    | (go_at_call 68; refine hR.out.mono ?_; rintro e w1 ⟨rfl, hk⟩
       have hb := Lib.hid (hk.blk H.out.blk (by simp))
       have hm := H.out.map.keep hk (by simp)
       have k0 : w1.cell? ⟨t, 0, none⟩ = some (.int .i64 most) := cellOf hb.out 0 rfl
       have k1 : w1.cell? ⟨t, 1, none⟩ = some (.int .i64 last) := cellOf hb.out 1 rfl
       have k2 : w1.cell? ⟨t, 2, none⟩ = some (.map (some mb)) := cellOf hb.out 2 rfl
       have kf : w1.frozen? ⟨t, 1, none⟩ = false := freeOf hb.out 1))
  have hb2 := blk_setCell hb.out 1 (.int .i64 (last + 1))
  have hk1 : Keeps [t] w (w1.setCell ⟨t, 1, none⟩ (.int .i64 (last + 1))) := (hk.mono (by simp)).setCell (by simp) _
  have hm2 : IMap (w1.setCell ⟨t, 1, none⟩ (.int .i64 (last + 1))).drew mb (tmap l) := (hm.keep (((Keeps.refl [t] w1).setCell (by simp) _)) (by simpa using hne)).drew
  obtain ⟨w2, hrun, hM, hk2⟩ := run_update (P := Tryz.prog) Tryz.underlying108 Tryz.underlying3 hm2 (last + 1) (.agg #[.int .i64 0])
  have hb3 : w2.heap[t]? = some (.cells #[.int .i64 most, .int .i64 (last + 1), .map (some mb)] 110 (0, 0)) := hk2.blk hb2 (by simp; exact fun e => hne e.symm)
  have q1 : w2.cell? ⟨t, 1, none⟩ = some (.int .i64 (last + 1)) := cellOf hb3 1 rfl
  have Hb := Lib.hid hb3
  have HM := Lib.hid hM
  clear hb2 hm2 hM hb3 hm hb
  go_region
  go_wp2
  go_ret2
  refine ⟨rfl, (hk1.mono (by simp)).trans ((Keeps.refl [t, mb] _).trans ⟨hk2.os, hk2.tape, hk2.output, hk2.size, fun k hk3 hn => hk2.block k hk3 (by simp at hn ⊢; omega)⟩), ⟨Hb.out, ?_⟩⟩
  rw [← Hp.out]; exact HM.out
end Go.Proofs.YtkhokdikabopfaaGreatDoor
