/-
  New, Open, Live, Free, Status of a model: contracts.
-/
import Derived.Test.YthjghcfnopancaaDrain
namespace Go.Proofs.Ythjghcfnopancaa
open Go.RowKit Go.Shelf Go.Maps

set_option maxRecDepth 100000 in
set_option maxHeartbeats 1000000 in
theorem opens_full {m t tb lb : Nat} {S : MS} {w : World} (h : ModelAt w m t tb lb S) (hV : Valid S) (hf : S.c.frames < ((S.live.length : Int) + 1) * S.c.quota) :
    Calls Try.prog 18 #[.pointer (some ⟨m, 0, none⟩)] w fun e w' => e = .returned (.tuple #[.int .i64 0, .int .i64 15]) ∧ Keeps [] w w' := by
  have c1 : w.cell? ⟨m, 1, none⟩ = some (.int .i64 S.c.frames) := cellOf h.blk 1 rfl
  have c2 : w.cell? ⟨m, 2, none⟩ = some (.int .i64 S.c.quota) := cellOf h.blk 2 rfl
  have c6 : w.cell? ⟨m, 6, none⟩ = some (.map (some lb)) := cellOf h.blk 6 rfl
  have hN := Lib.hid (mnone_at h)
  have hlen : ∀ n, (Builtin.len_ #[47] 3 #[.map (some lb)]).run Try.prog (w.drewN n) = .ok (.int .i64 S.live.length) (w.drewN n) := fun n => by
    have := run_len_map (P := Try.prog) (ty := 3) Try.underlying47 (w := w.drewN n) (⟨h.live.ex⟩ : IMap (w.drewN n) lb (lmap S.live))
    simpa [lmap] using this
  have hl := hlen 1
  have hcnt := hV.count
  have hs := hV.ok.s
  have hq := hV.ok.q
  have hfr := hV.ok.f
  generalize S.c.quota = q at *
  generalize S.c.frames = f at *
  generalize S.live.length = n at *
  have p1 : ((n : Int) + 1) * q ≤ 65 * 64 := by
    have h1 : (n : Int) + 1 ≤ 65 := by omega
    have h2 : q ≤ 64 := by omega
    have h3 : 0 ≤ q := by omega
    calc ((n : Int) + 1) * q ≤ 65 * q := Int.mul_le_mul_of_nonneg_right h1 h3
      _ ≤ 65 * 64 := by omega
  have w1 : IntKind.i64.wrap ((n : Int) + 1) = (n : Int) + 1 := IntWalk.i64_in _ (by omega)
  have w2 : IntKind.i64.wrap (((n : Int) + 1) * q) = ((n : Int) + 1) * q := IntWalk.i64_in _ (by have : 0 ≤ ((n : Int) + 1) * q := Int.mul_nonneg (by omega) (by omega); omega)
  clear h hV hl
  go_enter Try.func18, Try.ntmps18
  go_wp2_with (go_at_call 33; refine (hN.out).mono ?_; rintro e w' ⟨rfl, rfl⟩)
  go_quiet (fail)
  go_wp2
  go_ret2
  exact ⟨rfl, (by repeat (first | exact Keeps.refl _ _ | assumption | refine Keeps.drew ?_ | refine Keeps.drewN ?_ _ | refine Keeps.alloc ?_ _ | refine Keeps.setCell ?_ (by simp <;> omega) _ | refine Keeps.trans ?_ (by assumption)))⟩

set_option maxRecDepth 100000 in
set_option maxHeartbeats 1000000 in
theorem opens_busy {m t tb lb : Nat} {S : MS} {w : World} (h : ModelAt w m t tb lb S) (hV : Valid S) (hf : ¬ S.c.frames < ((S.live.length : Int) + 1) * S.c.quota) (hb : ((liveIds S.l).length : Int) = S.c.sessions) :
    Calls Try.prog 18 #[.pointer (some ⟨m, 0, none⟩)] w fun e w' => e = .returned (.tuple #[.int .i64 0, .int .i64 15]) ∧ Keeps [] w w' := by
  have c5 : w.cell? ⟨m, 5, none⟩ = some (.pointer (some ⟨t, 0, none⟩)) := cellOf h.blk 5 rfl
  have hT : Hid (∀ w', Keeps [] w w' → _) := Lib.hid fun w' (hk : Keeps [] w w') => topen_full (h.tbl.keep hk (by simp) (by simp)) hV.s1 hV.s2 hV.rise hb
  clear hb
  have c1 : w.cell? ⟨m, 1, none⟩ = some (.int .i64 S.c.frames) := cellOf h.blk 1 rfl
  have c2 : w.cell? ⟨m, 2, none⟩ = some (.int .i64 S.c.quota) := cellOf h.blk 2 rfl
  have c6 : w.cell? ⟨m, 6, none⟩ = some (.map (some lb)) := cellOf h.blk 6 rfl
  have hN := Lib.hid (mnone_at h)
  have hlen : ∀ n, (Builtin.len_ #[47] 3 #[.map (some lb)]).run Try.prog (w.drewN n) = .ok (.int .i64 S.live.length) (w.drewN n) := fun n => by
    have := run_len_map (P := Try.prog) (ty := 3) Try.underlying47 (w := w.drewN n) (⟨h.live.ex⟩ : IMap (w.drewN n) lb (lmap S.live))
    simpa [lmap] using this
  have hl := hlen 1
  have hcnt := hV.count
  have hs := hV.ok.s
  have hq := hV.ok.q
  have hfr := hV.ok.f
  generalize S.c.quota = q at *
  generalize S.c.frames = f at *
  generalize S.live.length = n at *
  have p1 : ((n : Int) + 1) * q ≤ 65 * 64 := by
    have h1 : (n : Int) + 1 ≤ 65 := by omega
    have h2 : q ≤ 64 := by omega
    have h3 : 0 ≤ q := by omega
    calc ((n : Int) + 1) * q ≤ 65 * q := Int.mul_le_mul_of_nonneg_right h1 h3
      _ ≤ 65 * 64 := by omega
  have w1 : IntKind.i64.wrap ((n : Int) + 1) = (n : Int) + 1 := IntWalk.i64_in _ (by omega)
  have w2 : IntKind.i64.wrap (((n : Int) + 1) * q) = ((n : Int) + 1) * q := IntWalk.i64_in _ (by have : 0 ≤ ((n : Int) + 1) * q := Int.mul_nonneg (by omega) (by omega); omega)
  clear h hV hl
  go_enter Try.func18, Try.ntmps18
  go_wp2_with (go_at_call 33; refine (hN.out).mono ?_; rintro e w' ⟨rfl, rfl⟩)
  go_quiet (fail)
  go_wp2_with (go_at_call 36; refine (hT.out _ (by repeat (first | exact Keeps.refl _ _ | assumption | refine Keeps.drew ?_ | refine Keeps.drewN ?_ _ | refine Keeps.alloc ?_ _ | refine Keeps.setCell ?_ (by simp <;> omega) _ | refine Keeps.trans ?_ (by assumption)))).mono ?_; rintro e w3 ⟨rfl, hk⟩)
  go_ret2
  exact ⟨rfl, (by repeat (first | exact Keeps.refl _ _ | assumption | refine Keeps.drew ?_ | refine Keeps.drewN ?_ _ | refine Keeps.alloc ?_ _ | refine Keeps.setCell ?_ (by simp <;> omega) _ | refine Keeps.trans ?_ (by assumption)))⟩

set_option maxRecDepth 100000 in
set_option maxHeartbeats 1000000 in
theorem opens_yes {m t tb lb : Nat} {S : MS} {w : World} (h : ModelAt w m t tb lb S) (hV : Valid S) (hf : ¬ S.c.frames < ((S.live.length : Int) + 1) * S.c.quota) (hb : ((liveIds S.l).length : Int) < S.c.sessions) (hlim : S.l.length < 1000) :
    Calls Try.prog 18 #[.pointer (some ⟨m, 0, none⟩)] w fun e w' => e = .returned (.tuple #[.int .i64 (S.last + 1), .int .i64 0]) ∧ Keeps [t, tb, lb] w w' ∧ ModelAt w' m t tb lb S.more := by
  have c5 : w.cell? ⟨m, 5, none⟩ = some (.pointer (some ⟨t, 0, none⟩)) := cellOf h.blk 5 rfl
  have hlast := hV.last
  have hT : Hid (∀ w', Keeps [] w w' → _) := Lib.hid fun w' (hk : Keeps [] w w') => topen_yes (h.tbl.keep hk (by simp) (by simp)) hV.s1 hV.s2 hV.rise hb (by omega) (by omega) (fun p hp => (hV.bound p hp).2)
  have H := Lib.hid h
  have e1 := map_ne h.blk h.tbl.map
  have e2 := map_ne h.blk h.live
  have e3 := map_ne h.tbl.blk h.live
  have e4 : m ≠ t := by intro e; have h1 := h.blk; rw [e, h.tbl.blk] at h1; simp at h1
  have hput : Hid (put (lmap S.live) (S.last + 1) (.agg #[.int .i64 0, .bool false, .int .i64 0, .int .i64 0, .int .i64 0, .int .i64 S.c.room, .int .i64 0, .int .i64 0, .int .i64 0]) = lmap S.more.live) := Lib.hid (by
    rw [put_new]
    · simp [lmap, MS.more]
    · intro p hp e
      obtain ⟨q, hq, rfl⟩ := List.mem_map.1 hp
      have hm : q.1 ∈ liveIds S.l := by rw [← hV.live]; exact List.mem_map.2 ⟨q, hq, rfl⟩
      obtain ⟨r, hr, hr2⟩ := List.mem_map.1 hm
      have := (hV.bound r (List.mem_filter.1 hr).1).2
      simp only at e; omega)
  clear hb hlim hlast
  have c1 : w.cell? ⟨m, 1, none⟩ = some (.int .i64 S.c.frames) := cellOf h.blk 1 rfl
  have c2 : w.cell? ⟨m, 2, none⟩ = some (.int .i64 S.c.quota) := cellOf h.blk 2 rfl
  have c6 : w.cell? ⟨m, 6, none⟩ = some (.map (some lb)) := cellOf h.blk 6 rfl
  have hN := Lib.hid (mnone_at h)
  have hlen : ∀ n, (Builtin.len_ #[47] 3 #[.map (some lb)]).run Try.prog (w.drewN n) = .ok (.int .i64 S.live.length) (w.drewN n) := fun n => by
    have := run_len_map (P := Try.prog) (ty := 3) Try.underlying47 (w := w.drewN n) (⟨h.live.ex⟩ : IMap (w.drewN n) lb (lmap S.live))
    simpa [lmap] using this
  have hl := hlen 1
  have hcnt := hV.count
  have hs := hV.ok.s
  have hq := hV.ok.q
  have hfr := hV.ok.f
  generalize S.c.quota = q at *
  generalize S.c.frames = f at *
  generalize S.live.length = n at *
  have p1 : ((n : Int) + 1) * q ≤ 65 * 64 := by
    have h1 : (n : Int) + 1 ≤ 65 := by omega
    have h2 : q ≤ 64 := by omega
    have h3 : 0 ≤ q := by omega
    calc ((n : Int) + 1) * q ≤ 65 * q := Int.mul_le_mul_of_nonneg_right h1 h3
      _ ≤ 65 * 64 := by omega
  have w1 : IntKind.i64.wrap ((n : Int) + 1) = (n : Int) + 1 := IntWalk.i64_in _ (by omega)
  have w2 : IntKind.i64.wrap (((n : Int) + 1) * q) = ((n : Int) + 1) * q := IntWalk.i64_in _ (by have : 0 ≤ ((n : Int) + 1) * q := Int.mul_nonneg (by omega) (by omega); omega)
  clear h hV hl
  go_enter Try.func18, Try.ntmps18
  go_wp2_with (go_at_call 33; refine (hN.out).mono ?_; rintro e w' ⟨rfl, rfl⟩)
  go_quiet (fail)
  go_wp2_with (first
    | (go_at_call 36; refine (hT.out _ (by repeat (first | exact Keeps.refl _ _ | assumption | refine Keeps.drew ?_ | refine Keeps.drewN ?_ _ | refine Keeps.alloc ?_ _ | refine Keeps.setCell ?_ (by simp <;> omega) _ | refine Keeps.trans ?_ (by assumption)))).mono ?_; rintro e w3 ⟨rfl, hk, hT3⟩
       have hk3 : Keeps [t, tb] w w3 := (Keeps.drewN (Keeps.refl _ _) _).trans hk
       have hbk := Lib.hid (hk3.blk H.out.blk (by simp; exact ⟨e4, e1⟩))
       have k6 : w3.cell? ⟨m, 6, none⟩ = some (.map (some lb)) := cellOf hbk.out 6 rfl
       have k3 : w3.cell? ⟨m, 3, none⟩ = some (.int .i64 S.c.room) := cellOf hbk.out 3 rfl
       have hI := (H.out.live.keep hk3 (by simp; exact ⟨fun e => e3 e.symm, fun e => H.out.ne e.symm⟩)).drew
       obtain ⟨w4, hrun, hM, hk4⟩ := run_update (P := Try.prog) Try.underlying47 Try.underlying3 hI (S.last + 1) (.agg #[.int .i64 0, .bool false, .int .i64 0, .int .i64 0, .int .i64 0, .int .i64 S.c.room, .int .i64 0, .int .i64 0, .int .i64 0])
       have hM' := Lib.hid hM
       have hT4 := Lib.hid hT3
       clear hI hM hT3))
  go_region
  go_wp2
  go_ret2
  have hK : Keeps [t, tb, lb] w w4 := ((hk3.mono (by simp)).drew).trans (hk4.mono (by simp))
  have hM2 := hM'.out
  rw [hput.out] at hM2
  exact ⟨rfl, hK, hK.blk H.out.blk (by simp; exact ⟨e4, e1, e2⟩), ⟨hk4.blk hT4.out.blk (by simpa using e3), hT4.out.map.drew.keep hk4 (by simpa using H.out.ne)⟩, hM2, H.out.ne⟩

end Go.Proofs.Ythjghcfnopancaa
