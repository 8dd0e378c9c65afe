/-
  Asking a model something that answers a status.
-/
import Derived.Test.YthjghcfnopancaaModel
namespace Go.Proofs.Ythjghcfnopancaa
open Go.RowKit Go.Shelf Go.Maps

set_option maxRecDepth 100000 in
set_option maxHeartbeats 1000000 in
theorem askst_no {m t tb lb : Nat} {S : MS} {w : World} (h : ModelAt w m t tb lb S) (h1 : 1 ≤ S.c.sessions) (id : Int) (s0 : St) (k : Kn) (hn : (S.live.map (·.1)).Nodup) (hk : (id, k) ∈ S.live) (hc : causeOf S.l id = (0, 0))
    (gf : Nat) (cap : Array Value) (eg : Enters Try.prog gf) (k' : Kn) (y : St) (e : Int) (he : e ≠ 0)
    (hwhat : ∀ w1, Keeps [] w w1 → Calls Try.prog gf (#[k.val] ++ cap) w1 fun en w' => en = .returned (.tuple #[k'.val, y.val, .int .i64 e]) ∧ Keeps [] w1 w') :
    Calls Try.prog 30 #[.pointer (some ⟨m, 0, none⟩), .int .i64 id, s0.val, .func (.func gf) #[] cap] w fun en w' => en = .returned (.tuple #[s0.val, .int .i64 e]) ∧ Keeps [] w w' := by
  have he0 : (e == 0) = false := by simpa using he
  obtain ⟨q0, q1, q2, q3, q4, q5, q6⟩ := s0
  have h5 := h.live.lt
  have HM : Hid (∀ w', Keeps [] w w' → ModelAt w' m t tb lb S) := Lib.hid fun w' hk => h.keep hk (by simp) (by simp) (by simp) (by simp)
  have HW := Lib.hid hwhat
  have c5 : w.cell? ⟨m, 5, none⟩ = some (.pointer (some ⟨t, 0, none⟩)) := cellOf h.blk 5 rfl
  have hlt := ltOf h.blk
  have hC : Hid (∀ w', Keeps [] w w' → _) := Lib.hid fun w' (hk : Keeps [] w w') => cause_any (HM.out w' hk).tbl h1 id
  rw [hc] at hC
  have Hl := Lib.hid (look_lmap hn hk)
  have eg' : ∀ args w, (callFunc gf args).run Try.prog w = .ok (.enter gf args) w := eg
  clear h hwhat hc hk hn he eg
  go_enter Try.func30, Try.ntmps30
  go_wp2_with (first
    | (go_at_call 33; refine (mnone_at (HM.out _ (by repeat (first | exact Keeps.refl _ _ | assumption | refine Keeps.drew ?_ | refine Keeps.drewN ?_ _ | refine Keeps.alloc ?_ _ | refine Keeps.setCell ?_ (by simp <;> omega) _ | refine Keeps.trans ?_ (by assumption))))).mono ?_; rintro e w' ⟨rfl, rfl⟩)
    | (go_at_call 39; refine (hC.out _ (by repeat (first | exact Keeps.refl _ _ | assumption | refine Keeps.drew ?_ | refine Keeps.drewN ?_ _ | refine Keeps.alloc ?_ _ | refine Keeps.setCell ?_ (by simp <;> omega) _ | refine Keeps.trans ?_ (by assumption)))).mono ?_; clear hC; rintro e w1 ⟨rfl, hk⟩
       obtain ⟨b0, b1, hk⟩ := hk.new2 (by simp) (by simp)
       have hb0 := Lib.hid b0
       have hb1 := Lib.hid b1
       clear b0 b1
       have hk1 : Keeps [] w w1 := (by repeat (first | exact Keeps.refl _ _ | assumption | refine Keeps.drew ?_ | refine Keeps.drewN ?_ _ | refine Keeps.alloc ?_ _ | refine Keeps.setCell ?_ (by simp <;> omega) _ | refine Keeps.trans ?_ (by assumption)))
       have k6 : w1.cell? ⟨m, 6, none⟩ = some (.map (some lb)) := cellOf (HM.out _ hk1).blk 6 rfl
       have hlk := (run_lookup_yes (P := Try.prog) Try.underlying47 Try.underlying3 (HM.out _ hk1).live Hl.out).1))
  refine (HW.out _ hk1).mono ?_
  rintro e2 w2 ⟨rfl, hk2⟩
  obtain ⟨p0, p1, p2, p3, p4, p5, p6⟩ := cells7 (hk2.blk hb0.out (by simp))
  have hb2 := Lib.hid (hk2.blk hb1.out (by simp))
  obtain ⟨r0, r1, r2, r3, r4, r5, r6⟩ := cells7 hb2.out
  have fr := frees hb2.out
  have hlr := ltOf hb2.out
  have hlr0 := ltOf (hk2.blk hb0.out (by simp))
  go_wp2
  exact bodyPost_ret (res_ct rfl agg_status rfl rfl rfl ((((Keeps.refl [] _).alloc _).alloc _).blk (stored7 hb2.out) (by simp))) rfl ⟨rfl, ((((hk1.trans hk2).store7 (fun h => by omega)).alloc _).alloc _)⟩

set_option maxRecDepth 100000 in
set_option maxHeartbeats 1000000 in
theorem askst_yes {m t tb lb : Nat} {S : MS} {w : World} (h : ModelAt w m t tb lb S) (h1 : 1 ≤ S.c.sessions) (id : Int) (s0 : St) (k : Kn) (hn : (S.live.map (·.1)).Nodup) (hk : (id, k) ∈ S.live) (hc : causeOf S.l id = (0, 0))
    (gf : Nat) (cap : Array Value) (eg : Enters Try.prog gf) (k' : Kn) (y : St)
    (hwhat : ∀ w1, Keeps [] w w1 → Calls Try.prog gf (#[k.val] ++ cap) w1 fun en w' => en = .returned (.tuple #[k'.val, y.val, .int .i64 0]) ∧ Keeps [] w1 w') :
    Calls Try.prog 30 #[.pointer (some ⟨m, 0, none⟩), .int .i64 id, s0.val, .func (.func gf) #[] cap] w fun en w' => en = .returned (.tuple #[y.val, .int .i64 0]) ∧ Keeps [lb] w w' ∧ IMap w' lb (put (lmap S.live) id k'.val) := by
  obtain ⟨q0, q1, q2, q3, q4, q5, q6⟩ := s0
  have h5 := h.live.lt
  have HM : Hid (∀ w', Keeps [] w w' → ModelAt w' m t tb lb S) := Lib.hid fun w' hk => h.keep hk (by simp) (by simp) (by simp) (by simp)
  have HW := Lib.hid hwhat
  have c5 : w.cell? ⟨m, 5, none⟩ = some (.pointer (some ⟨t, 0, none⟩)) := cellOf h.blk 5 rfl
  have hlt := ltOf h.blk
  have hC : Hid (∀ w', Keeps [] w w' → _) := Lib.hid fun w' (hk : Keeps [] w w') => cause_any (HM.out w' hk).tbl h1 id
  rw [hc] at hC
  have Hl := Lib.hid (look_lmap hn hk)
  have eg' : ∀ args w, (callFunc gf args).run Try.prog w = .ok (.enter gf args) w := eg
  clear h hwhat hc hk hn eg
  go_enter Try.func30, Try.ntmps30
  go_wp2_with (first
    | (go_at_call 33; refine (mnone_at (HM.out _ (by repeat (first | exact Keeps.refl _ _ | assumption | refine Keeps.drew ?_ | refine Keeps.drewN ?_ _ | refine Keeps.alloc ?_ _ | refine Keeps.setCell ?_ (by simp <;> omega) _ | refine Keeps.trans ?_ (by assumption))))).mono ?_; rintro e w' ⟨rfl, rfl⟩)
    | (go_at_call 39; refine (hC.out _ (by repeat (first | exact Keeps.refl _ _ | assumption | refine Keeps.drew ?_ | refine Keeps.drewN ?_ _ | refine Keeps.alloc ?_ _ | refine Keeps.setCell ?_ (by simp <;> omega) _ | refine Keeps.trans ?_ (by assumption)))).mono ?_; clear hC; rintro e w1 ⟨rfl, hk⟩
       obtain ⟨b0, b1, hk⟩ := hk.new2 (by simp) (by simp)
       have hb0 := Lib.hid b0
       have hb1 := Lib.hid b1
       clear b0 b1
       have hk1 : Keeps [] w w1 := (by repeat (first | exact Keeps.refl _ _ | assumption | refine Keeps.drew ?_ | refine Keeps.drewN ?_ _ | refine Keeps.alloc ?_ _ | refine Keeps.setCell ?_ (by simp <;> omega) _ | refine Keeps.trans ?_ (by assumption)))
       have k6 : w1.cell? ⟨m, 6, none⟩ = some (.map (some lb)) := cellOf (HM.out _ hk1).blk 6 rfl
       have hlk := (run_lookup_yes (P := Try.prog) Try.underlying47 Try.underlying3 (HM.out _ hk1).live Hl.out).1))
  refine (HW.out _ hk1).mono ?_
  rintro e2 w2 ⟨rfl, hk2⟩
  have hk3 : Keeps [] w w2 := (by repeat (first | exact Keeps.refl _ _ | assumption | refine Keeps.drew ?_ | refine Keeps.drewN ?_ _ | refine Keeps.alloc ?_ _ | refine Keeps.setCell ?_ (by simp <;> omega) _ | refine Keeps.trans ?_ (by assumption)))
  have m6 : w2.cell? ⟨m, 6, none⟩ = some (.map (some lb)) := cellOf (HM.out _ hk3).blk 6 rfl
  have hm2 := ltOf (HM.out _ hk3).blk
  have hI := (((HM.out _ hk3).live.alloc (.cells k'.cells.toArray 59)).alloc (.cells y.cells.toArray 27)).drew
  have hb2 := Lib.hid (hk2.blk hb1.out (by simp))
  have hlb : lb < w.heap.size := h5
  obtain ⟨w3, hrun, hM3, hk4⟩ := run_update (P := Try.prog) Try.underlying47 Try.underlying3 hI id k'.val
  simp only [Kn.cells, St.cells] at hrun hk4
  have HI := Lib.hid hM3
  have hb3 := Lib.hid (hk4.blk (((((Keeps.refl [] w2).alloc _).alloc _).drew).blk hb2.out (by simp)) (by simp; omega))
  obtain ⟨r0, r1, r2, r3, r4, r5, r6⟩ := cells7 hb3.out
  have fr := frees hb3.out
  have hs2 := hk3.size
  have hb4 := hk4.blk (b := w2.heap.size + 1) (heap_new_at (w := w2.alloc _) _ (by simp)) (by simp; omega)
  obtain ⟨y0, y1, y2, y3, y4, y5, y6⟩ := cells7 hb4
  clear hI hM3 hlk k6 hb4
  go_wp2
  go_region
  go_wp2
  exact bodyPost_ret (res_ct rfl agg_status rfl rfl rfl (stored7 hb3.out)) rfl ⟨rfl, ((hk3.mono (by simp)).trans ((((Keeps.refl _ _).alloc _).alloc _).drew.trans hk4)).store7 (fun h => by omega),
    HI.out.keep ((Keeps.refl [w.heap.size + 1] w3).store7 (fun _ => by simp)) (by simp; omega)⟩

end Go.Proofs.Ythjghcfnopancaa
