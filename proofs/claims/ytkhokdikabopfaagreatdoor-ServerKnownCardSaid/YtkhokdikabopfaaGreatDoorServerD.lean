/-
  Server: Open.
-/
import Derived.Test.YtkhokdikabopfaaGreatDoorServerC
import Derived.RegionTactic
import Derived.Test.YtkhokdikabopfaaGreatDoorMid
namespace Go.Proofs.YtkhokdikabopfaaGreatDoor
open Go.RowKit Go.Shelf Go.Maps

set_option maxRecDepth 100000 in
set_option maxHeartbeats 1000000 in
theorem vopen_full {P : SrvP} {c : Cf} {last : Int} {l : List (Int × Int)} {L : List Sess} {w : World} (h : SrvAt w P c last l L) (hc : c.ok) (hO : VOk last l L) (hf : c.frames < (L.length + 1) * c.quota) :
    Calls Tryz.prog 16 #[.pointer (some ⟨P.s, 0, none⟩)] w fun e w' => e = .returned (.tuple #[.int .i64 0, .int .i64 15]) ∧ Keeps [] w w' := by
  obtain ⟨c1, c2, c3, c4, c5, c6, c7⟩ := h.c
  have hlen : ∀ n, (Builtin.len_ #[47] 3 #[.map (some P.cb)]).run Tryz.prog (w.drewN n) = .ok (.int .i64 L.length) (w.drewN n) := fun n => by
    have := run_len_map (P := Tryz.prog) (ty := 3) Tryz.underlying47 (w := w.drewN n) (⟨h.cl.ex⟩ : IMap (w.drewN n) P.cb (L.map fun z => (z.id, .pointer (some ⟨z.k, 0, none⟩))))
    simpa using this
  have hl := hlen 1
  have hcnt := hO.few
  have hs := hc.s
  have hq := hc.q
  have hfr := hc.f
  generalize c.quota = q at *
  generalize c.frames = f at *
  generalize L.length = n at *
  have p1 : (n + 1) * q ≤ 65 * 64 := Nat.mul_le_mul (by omega) (by omega)
  have hf2 : (f : Int) < ((n : Int) + 1) * q := by exact_mod_cast hf
  have p2 : ((n : Int) + 1) * q ≤ 65 * 64 := by exact_mod_cast p1
  have w1 : IntKind.i64.wrap ((n : Int) + 1) = (n : Int) + 1 := IntWalk.i64_in _ (by omega)
  have w2 : IntKind.i64.wrap (((n : Int) + 1) * q) = ((n : Int) + 1) * q := IntWalk.i64_in _ (by omega)
  clear h hO hl hf p1 hc
  go_enter Tryz.func16, Tryz.ntmps16
  go_wp2_with (go_at_call 31; refine (vnone c5).mono ?_; rintro e w' ⟨rfl, rfl⟩)
  go_quiet (fail)
  go_wp2
  go_ret2
  exact ⟨rfl, (by repeat (first | exact Keeps.refl _ _ | assumption | refine Keeps.drew ?_ | refine Keeps.drewN ?_ _ | refine Keeps.alloc ?_ _ | refine Keeps.setCell ?_ (by simp <;> omega) _ | refine Keeps.trans ?_ (by assumption)))⟩

theorem put_cl {last : Int} {l : List (Int × Int)} {L : List Sess} (hO : VOk last l L) (z : Sess) (hz : z.id = last + 1) :
    put (L.map fun z => (z.id, Value.pointer (some ⟨z.k, 0, none⟩))) (last + 1) (.pointer (some ⟨z.k, 0, none⟩)) = (L ++ [z]).map fun z => (z.id, Value.pointer (some ⟨z.k, 0, none⟩)) := by
  rw [put_new]
  · simp [hz]
  · intro p hp e
    obtain ⟨q, hq, rfl⟩ := List.mem_map.1 hp
    have := (hO.new _ (hO.mem hq)).2
    simp only at e this; omega

/-- A session that begins. -/
def Sess.begun (z : Sess) : Prop := z.ended = false ∧ z.nx = .func (.func 72) #[.pointer (some ⟨z.x, 0, none⟩)] #[] ∧ z.cause = 0

set_option maxRecDepth 100000 in
set_option maxHeartbeats 1000000 in
theorem vopen_yes {P : SrvP} {c : Cf} {last : Int} {l : List (Int × Int)} {L : List Sess} {w : World} (h : SrvAt w P c last l L) (hc : c.ok) (hO : VOk last l L) (hf : (L.length + 1) * c.quota ≤ c.frames) (hb : L.length < c.sessions) (hlast : last < 1000) :
    Calls Tryz.prog 16 #[.pointer (some ⟨P.s, 0, none⟩)] w fun e w' => ∃ z, e = .returned (.tuple #[.int .i64 (last + 1), .int .i64 0]) ∧ Keeps [P.t, P.tb, P.cb] w w' ∧ z.id = last + 1 ∧ z.begun ∧ w.heap.size ≤ z.lo ∧ SrvAt w' P c (last + 1) (l ++ [(last + 1, 0)]) (L ++ [z]) := by
  obtain ⟨c1, c2, c3, c4, c5, c6, c7⟩ := h.c
  have hb2 : ((liveIds l).length : Int) < c.sessions := by rw [← hO.live]; simpa using hb
  have hT : Hid (∀ w', Keeps [] w w' → _) := Lib.hid fun w' (hk : Keeps [] w w') => topen_yes (h.on hk).tbl (by have := hc.s.1; omega) (by have := hc.s.2; omega) hO.rise hb2 hO.pos (by omega) (fun p hp => (hO.new p hp).2)
  have hlen : ∀ n, (Builtin.len_ #[47] 3 #[.map (some P.cb)]).run Tryz.prog (w.drewN n) = .ok (.int .i64 L.length) (w.drewN n) := fun n => by
    have := run_len_map (P := Tryz.prog) (ty := 3) Tryz.underlying47 (w := w.drewN n) (⟨h.cl.ex⟩ : IMap (w.drewN n) P.cb (L.map fun z => (z.id, .pointer (some ⟨z.k, 0, none⟩))))
    simpa using this
  have hl := hlen 1
  have hcnt := hO.few
  have hq := hc.q
  have hfr := hc.f
  have e1 := map_ne h.blk h.tbl.map
  have e2 := map_ne h.blk h.cl
  have e3 := map_ne h.tbl.blk h.cl
  have e4 : P.s ≠ P.t := by intro e; have h1 := h.blk; rw [e, h.tbl.blk] at h1; simp at h1
  have e5 := h.ne
  have H := Lib.hid h
  have HO := Lib.hid hO
  have hpos := hO.pos
  have hS := Lib.hid fun (w' : World) (k : PoolAt w' P.A P.B P.p P.fb P.hb c.frames P.iv c.quota) => snew k (by have := hc.q.1; omega) (by have := hc.f.2; omega) (last + 1) (by omega) c.room c.slots hc.r hc.o
  generalize hq9 : c.quota = q at *
  generalize hf9 : c.frames = f at *
  generalize hn9 : L.length = n at *
  have p1 : (n + 1) * q ≤ 65 * 64 := Nat.mul_le_mul (by omega) (by omega)
  have hf3 : ((n : Int) + 1) * q ≤ f := by exact_mod_cast hf
  have hf2 : ¬ (f : Int) < ((n : Int) + 1) * q := by omega
  have p2 : ((n : Int) + 1) * q ≤ 65 * 64 := by exact_mod_cast p1
  have w1 : IntKind.i64.wrap ((n : Int) + 1) = (n : Int) + 1 := IntWalk.i64_in _ (by omega)
  have p3 : 0 ≤ ((n : Int) + 1) * q := Int.mul_nonneg (by omega) (by omega)
  have w2 : IntKind.i64.wrap (((n : Int) + 1) * q) = ((n : Int) + 1) * q := IntWalk.i64_in _ (by omega)
  have hq9 := Lib.hid hq9
  have hf9 := Lib.hid hf9
  have hn9 := Lib.hid hn9
  clear h hO hl hf p1 hc hb hb2 hpos hf3
  go_enter Tryz.func16, Tryz.ntmps16
  go_wp2_with (go_at_call 31; refine (vnone c5).mono ?_; rintro e w' ⟨rfl, rfl⟩)
  go_quiet (fail)
  go_wp2_with (first
    | (go_at_call 44; refine (hT.out _ (by repeat (first | exact Keeps.refl _ _ | assumption | refine Keeps.drew ?_ | refine Keeps.drewN ?_ _ | refine Keeps.alloc ?_ _ | refine Keeps.setCell ?_ (by simp <;> omega) _ | refine Keeps.trans ?_ (by assumption)))).mono ?_; rintro e w3 ⟨rfl, hk, hT3⟩
       have hk3 : Keeps [P.t, P.tb] w w3 := (Keeps.drewN (Keeps.refl _ _) _).trans hk
       have hbk := Lib.hid (hk3.blk H.out.blk (by simp; exact ⟨e4, e1⟩))
       have k3 : w3.cell? ⟨P.s, 3, none⟩ = some (.int .i64 c.room) := cellOf hbk.out 3 rfl
       have k4 : w3.cell? ⟨P.s, 4, none⟩ = some (.int .i64 c.slots) := cellOf hbk.out 4 rfl
       have k6 : w3.cell? ⟨P.s, 6, none⟩ = some (.pointer (some ⟨P.p, 0, none⟩)) := cellOf hbk.out 6 rfl
       have hPl : PoolAt w3.drew P.A P.B P.p P.fb P.hb f P.iv q := by
         have := H.out.pool.keep hk3.drew (by have := H.out.out; simp; omega)
         rw [hf9.out, hq9.out] at this; exact this
       have hPl := Lib.hid hPl
       have hT4 := Lib.hid hT3
       clear hT3))
  refine wp_region_seg [15] (by kernel_rfl) (by kernel_rfl) ?_
  simp only [wpSeg, List.drop_zero, List.drop_succ_cons, List.take_succ_cons, List.take_zero, Nat.reduceSub, Nat.reduceAdd]
  repeat still_step
  refine wpStill_nil ?_
  change wpList _ _ _ _ _ w3.drew
  have hk3 := hk3.drew
  have hT5 : TblAt w3.drew P.t P.tb c.sessions (last + 1) (l ++ [(last + 1, 0)]) := ⟨hT4.out.blk, hT4.out.map.drew⟩
  have hT5 := Lib.hid hT5
  revert hk3 hPl hT5
  generalize w3.drew = w5
  intro hPl hk3 hT5
  have hSn := Lib.hid (hS.out w5 hPl.out)
  go_wp2_with (go_at_call 45; refine (hSn.out).mono ?_; rintro e w4 ⟨x, q', o, rq, ra, rc, rfl, hk4, hle, hQA, hOA, hxb⟩; (have hk5 : Keeps [P.t, P.tb] w w4 := hk3.trans (hk4.mono (by simp))); have hb5 := hk5.blk H.out.blk (by simp; exact ⟨e4, e1⟩); (have m7 : w4.cell? ⟨P.s, 7, none⟩ = some (.map (some P.cb)) := cellOf hb5 7 rfl); have hI := (H.out.cl.keep hk5 (by simp; exact ⟨fun e => e3 e.symm, e5⟩)).alloc (.cells #[.pointer (some ⟨x, 0, none⟩)] 70); obtain ⟨w6, hrun, hM, hk6⟩ := run_update (P := Tryz.prog) Tryz.underlying47 Tryz.underlying3 hI (last + 1) (.pointer (some ⟨w4.heap.size, 0, none⟩)); have hM := Lib.hid hM; have hb5 := Lib.hid hb5; have hQA := Lib.hid hQA; have hOA := Lib.hid hOA; have hxb := Lib.hid hxb; clear hI)
  repeat still_step
  refine wpStill_nil ?_
  go_wp2
  go_ret2
  have hH := H.out
  have hK : Keeps [P.t, P.tb, P.cb] w w6 := ((hk5.mono (by simp)).alloc _).trans (hk6.mono (by simp))
  have hk6n := (Keeps.refl [P.cb] w4).alloc (.cells #[.pointer (some ⟨x, 0, none⟩)] 70) |>.trans hk6
  have l1 := hH.cl.lt
  have l2 := hk5.size
  have l3 := hk3.size
  have hcn : ∀ i, w4.heap.size ≤ i ∨ w.heap.size ≤ i → i ∉ [P.cb] := by intro i hi; simp; omega
  refine ⟨⟨last + 1, w5.heap.size, w6.heap.size, w4.heap.size, x, q', o, rq, ra, rc, false, .func (.func 72) #[.pointer (some ⟨x, 0, none⟩)] #[], 0⟩, rfl, hK, rfl, ⟨rfl, rfl, rfl⟩, l3, ?_⟩
  have g4 := hk6.size
  simp at g4
  refine ⟨hk6n.blk hb5.out (by simpa using e2), ⟨hk6n.blk (hk4.blk hT5.out.blk (by simp)) (by simpa using e3), ?_⟩, ?_, hH.out, ?_, e5, Nat.le_trans hH.top hK.size, ?_, ?_⟩
  · exact (hT5.out.map.keep hk4 (by simp)).keep hk6n (by simpa using e5.symm)
  · exact hH.pool.keep hK (by have := hH.out; simp; omega)
  · rw [← put_cl HO.out ⟨last + 1, w5.heap.size, w6.heap.size, w4.heap.size, x, q', o, rq, ra, rc, false, .func (.func 72) #[.pointer (some ⟨x, 0, none⟩)] #[], 0⟩ rfl]
    exact hM.out
  · have b1 := ltOf hH.blk
    have b2 := ltOf hH.tbl.blk
    have b3 := hH.tbl.map.lt
    have b5 := hH.top
    intro y hy
    rcases List.mem_append.1 hy with hy | hy
    · obtain ⟨h1, h2, h3, h4, h5, h6, h7⟩ := hH.sess y hy
      exact ⟨h1.keep hK (by simp; omega), h2, h3, h4, h5, h6, Nat.le_trans h7 hK.size⟩
    · simp at hy
      subst hy
      simp only
      refine ⟨⟨?_, ?_, ?_, ?_, by simp only; omega⟩, by omega, by omega, by omega, by omega, by omega, by omega⟩
      · exact hk6n.blk hxb.out (hcn x (.inr (by omega)))
      · exact QAt.keep hQA.out hk6n (hcn q' (.inr (by omega)))
      · exact OAt.keep hOA.out hk6n (hcn o (.inr (by omega)))
      · exact hk6.blk (heap_new_at _ rfl) (hcn _ (.inl (Nat.le_refl _)))
  · rw [List.pairwise_append]
    refine ⟨hH.sep, by simp, fun a ha b hb => ?_⟩
    simp at hb
    subst hb
    have := (hH.sess a ha).2.2.2.2.2.2
    simp only; omega

end Go.Proofs.YtkhokdikabopfaaGreatDoor
