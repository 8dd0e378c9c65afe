/-
  Acts whose two calls stand in one statement: End, Drain, Close, Evict.
-/
import Derived.Test.YthjghcfnopancaaGreatGr
namespace Go.Proofs.YthjghcfnopancaaGreat
open Go.RowKit Go.Shelf Go.Maps

/-- Both models, in states of their own, beside an act's box. -/
structure Duo (w0 : World) (lo A : Nat) (o : Obj) (m t tb lb m' t' : Nat) (w : World) (S T : MS) : Prop where
  p : Mine w0 w m t tb lb S
  r : MineR ⟨lo, [A]⟩ w m' t' T
  box : w.heap[A]? = some o
  u : Under lo m t tb lb
  l0 : w0.heap.size ≤ lo
  a : lo ≤ A

theorem Duo.stepP {w0 : World} {lo A : Nat} {o : Obj} {m t tb lb m' t' : Nat} {w w' : World} {S S' T : MS} (h : Duo w0 lo A o m t tb lb m' t' w S T) (k : Keeps [t, tb, lb] w w') (hM : Mine w0 w' m t tb lb S') : Duo w0 lo A o m t tb lb m' t' w' S' T :=
  ⟨hM, h.r.byP h.u k h.r.X, k.blk h.box (fun hm => by have := h.a; have := h.u.t; have := h.u.tb; have := h.u.lb; simp at hm; omega), h.u, h.l0, h.a⟩
theorem Duo.stepR {w0 : World} {lo A : Nat} {o : Obj} {m t tb lb m' t' : Nat} {w w' : World} {S T T' : MS} (h : Duo w0 lo A o m t tb lb m' t' w S T) (k : Above ⟨lo, [A]⟩ w w') (hR : MineR ⟨lo, [A]⟩ w' m' t' T') : Duo w0 lo A o m t tb lb m' t' w' S T' :=
  ⟨h.p.byA h.u k h.l0, hR, k.blk h.box (by simp), h.u, h.l0, h.a⟩
theorem Duo.on {w0 : World} {lo A : Nat} {o : Obj} {m t tb lb m' t' : Nat} {w w' : World} {S T : MS} (h : Duo w0 lo A o m t tb lb m' t' w S T) (k : Keeps [] w w') : Duo w0 lo A o m t tb lb m' t' w' S T :=
  ⟨h.p.on k, h.r.on k, k.blk h.box (by simp), h.u, h.l0, h.a⟩
theorem Duo.both {w0 : World} {lo A : Nat} {o : Obj} {m t tb lb m' t' : Nat} {w : World} {S : MS} (h : Duo w0 lo A o m t tb lb m' t' w S S) (hF : Few S) : Both w0 lo w m t tb lb m' t' S := ⟨h.p, h.r.drop, hF, h.u, h.l0⟩
theorem Both.duo {w0 : World} {lo : Nat} {w : World} {m t tb lb m' t' : Nat} {S : MS} (h : Both w0 lo w m t tb lb m' t' S) (o : Obj) : Duo w0 lo w.heap.size o m t tb lb m' t' (w.alloc o) S S :=
  ⟨(h.boxed o).1, (h.boxed o).2.1, (h.boxed o).2.2.1, h.u, h.lo, (h.boxed o).2.2.2⟩

set_option maxRecDepth 100000 in
set_option maxHeartbeats 4000000 in
theorem acted_stop {w0 : World} {lo : Nat} {w : World} {m t tb lb m' t' : Nat} {S : MS} (h : Both w0 lo w m t tb lb m' t' S) (id n : Int) (s : St) :
    Calls Tryz.prog 7 #[.pointer (some ⟨m, 0, none⟩), .pointer (some ⟨m', 0, none⟩), actVal 2 id n s] w (Acted w0 lo m t tb lb m' t' S) := by
  have hlen := len_stop S id
  have hqq : ∀ k, S.get id = some k → 0 ≤ k.s.queued ∧ k.s.queued ≤ 1000 := fun k hk => ⟨h.p.known.queued _ (MS.get_mem hk), h.few.get hk⟩
  have HD0 := h.duo (actObj 2 id n s)
  have HB := Lib.hid h
  obtain ⟨W, hW⟩ : ∃ W, w.alloc (actObj 2 id n s) = W := ⟨_, rfl⟩
  rw [hW] at HD0
  have hW' := Lib.hid hW
  have HD := Lib.hid (HD0.on ((Keeps.refl _ _).drew))
  obtain ⟨s0, s1, s2, s3, s4, s5, s6⟩ := s
  unfold actVal
  unfold actObj at hW'
  obtain ⟨c0, c1, c2, c3, c4, c5, c6, c7, c8, c9⟩ := cellsA HD0.box
  simp only at *
  have hlen := Lib.hid hlen
  have hqq := Lib.hid hqq
  clear h hW HD0
  go_enter Tryz.func7, Tryz.ntmps7
  go_wp2_with fail
  rw [hW'.out]
  go_region_with (first
    | (go_at_call 29; (first
        | ((with_reducible refine (HD.out.p.stopK id).mono ?_); rintro e wP ⟨rfl, hMP, hkP⟩; have HDP := HD.out.stepP hkP hMP; obtain ⟨p0, p1, p2, p3, p4, p5, p6, p7, p8, p9⟩ := cellsA HDP.box; have HDP := Lib.hid HDP; clear hMP hkP)
        | ((with_reducible refine (HDR.out.p.stopK id).mono ?_); rintro e wE ⟨rfl, hMP, hkP⟩; have HDE := HDR.out.stepP hkP hMP; have HDE := Lib.hid HDE; clear hMP hkP)))
    | (go_at_call 30; (first
        | ((with_reducible refine (HD.out.r.stop HB.out.p.valid id).mono ?_); rintro e wR ⟨rfl, hMR, hkR⟩; have HDR := HD.out.stepR hkR hMR; obtain ⟨r0, r1, r2, r3, r4, r5, r6, r7, r8, r9⟩ := cellsA HDR.box; have HDR := Lib.hid HDR; clear hMR hkR)
        | ((with_reducible refine (HDP.out.r.stop HB.out.p.valid id).mono ?_); rintro e wE ⟨rfl, hMR, hkR⟩; have HDE := HDP.out.stepR hkR hMR; have HDE := Lib.hid HDE; clear hMR hkR))))
  all_goals go_wp2
  all_goals go_ret
  all_goals exact ⟨rfl, _, HDE.out.both (HB.out.few.stop id), by have := hlen.out; omega⟩
set_option maxRecDepth 100000 in
set_option maxHeartbeats 4000000 in
theorem acted_drain {w0 : World} {lo : Nat} {w : World} {m t tb lb m' t' : Nat} {S : MS} (h : Both w0 lo w m t tb lb m' t' S) (id n : Int) (s : St) :
    Calls Tryz.prog 7 #[.pointer (some ⟨m, 0, none⟩), .pointer (some ⟨m', 0, none⟩), actVal 4 id n s] w (Acted w0 lo m t tb lb m' t' S) := by
  have hlen := len_drain S id
  have hqq : ∀ k, S.get id = some k → 0 ≤ k.s.queued ∧ k.s.queued ≤ 1000 := fun k hk => ⟨h.p.known.queued _ (MS.get_mem hk), h.few.get hk⟩
  have HD0 := h.duo (actObj 4 id n s)
  have HB := Lib.hid h
  obtain ⟨W, hW⟩ : ∃ W, w.alloc (actObj 4 id n s) = W := ⟨_, rfl⟩
  rw [hW] at HD0
  have hW' := Lib.hid hW
  have HD := Lib.hid (HD0.on ((Keeps.refl _ _).drew))
  obtain ⟨s0, s1, s2, s3, s4, s5, s6⟩ := s
  unfold actVal
  unfold actObj at hW'
  obtain ⟨c0, c1, c2, c3, c4, c5, c6, c7, c8, c9⟩ := cellsA HD0.box
  simp only at *
  have hlen := Lib.hid hlen
  have hqq := Lib.hid hqq
  clear h hW HD0
  go_enter Tryz.func7, Tryz.ntmps7
  go_wp2_with fail
  rw [hW'.out]
  go_region_with (first
    | (go_at_call 24; (first
        | ((with_reducible refine (HD.out.p.drainK id).mono ?_); rintro e wP ⟨rfl, hMP, hkP⟩; have HDP := HD.out.stepP hkP hMP; obtain ⟨p0, p1, p2, p3, p4, p5, p6, p7, p8, p9⟩ := cellsA HDP.box; have HDP := Lib.hid HDP; clear hMP hkP)
        | ((with_reducible refine (HDR.out.p.drainK id).mono ?_); rintro e wE ⟨rfl, hMP, hkP⟩; have HDE := HDR.out.stepP hkP hMP; have HDE := Lib.hid HDE; clear hMP hkP)))
    | (go_at_call 32; (first
        | ((with_reducible refine (HD.out.r.drain HB.out.p.valid id hqq.out).mono ?_); rintro e wR ⟨rfl, hMR, hkR⟩; have HDR := HD.out.stepR hkR hMR; obtain ⟨r0, r1, r2, r3, r4, r5, r6, r7, r8, r9⟩ := cellsA HDR.box; have HDR := Lib.hid HDR; clear hMR hkR)
        | ((with_reducible refine (HDP.out.r.drain HB.out.p.valid id hqq.out).mono ?_); rintro e wE ⟨rfl, hMR, hkR⟩; have HDE := HDP.out.stepR hkR hMR; have HDE := Lib.hid HDE; clear hMR hkR))))
  all_goals go_wp2
  all_goals go_ret
  all_goals exact ⟨rfl, _, HDE.out.both (HB.out.few.drain HB.out.p.known id), by have := hlen.out; omega⟩
set_option maxRecDepth 100000 in
set_option maxHeartbeats 4000000 in
theorem acted_close {w0 : World} {lo : Nat} {w : World} {m t tb lb m' t' : Nat} {S : MS} (h : Both w0 lo w m t tb lb m' t' S) (id n : Int) (s : St) :
    Calls Tryz.prog 7 #[.pointer (some ⟨m, 0, none⟩), .pointer (some ⟨m', 0, none⟩), actVal 5 id n s] w (Acted w0 lo m t tb lb m' t' S) := by
  have hlen := len_out S id 21
  have hqq : ∀ k, S.get id = some k → 0 ≤ k.s.queued ∧ k.s.queued ≤ 1000 := fun k hk => ⟨h.p.known.queued _ (MS.get_mem hk), h.few.get hk⟩
  have HD0 := h.duo (actObj 5 id n s)
  have HB := Lib.hid h
  obtain ⟨W, hW⟩ : ∃ W, w.alloc (actObj 5 id n s) = W := ⟨_, rfl⟩
  rw [hW] at HD0
  have hW' := Lib.hid hW
  have HD := Lib.hid (HD0.on ((Keeps.refl _ _).drew))
  obtain ⟨s0, s1, s2, s3, s4, s5, s6⟩ := s
  unfold actVal
  unfold actObj at hW'
  obtain ⟨c0, c1, c2, c3, c4, c5, c6, c7, c8, c9⟩ := cellsA HD0.box
  simp only at *
  have hlen := Lib.hid hlen
  have hqq := Lib.hid hqq
  clear h hW HD0
  go_enter Tryz.func7, Tryz.ntmps7
  go_wp2_with fail
  rw [hW'.out]
  go_region_with (first
    | (go_at_call 33; (first
        | ((with_reducible refine (HD.out.p.CloseK id).mono ?_); rintro e wP ⟨rfl, hMP, hkP⟩; have HDP := HD.out.stepP hkP hMP; obtain ⟨p0, p1, p2, p3, p4, p5, p6, p7, p8, p9⟩ := cellsA HDP.box; have HDP := Lib.hid HDP; clear hMP hkP)
        | ((with_reducible refine (HDR.out.p.CloseK id).mono ?_); rintro e wE ⟨rfl, hMP, hkP⟩; have HDE := HDR.out.stepP hkP hMP; have HDE := Lib.hid HDE; clear hMP hkP)))
    | (go_at_call 34; (first
        | ((with_reducible refine (HD.out.r.Close id).mono ?_); rintro e wR ⟨rfl, hMR, hkR⟩; have HDR := HD.out.stepR hkR hMR; obtain ⟨r0, r1, r2, r3, r4, r5, r6, r7, r8, r9⟩ := cellsA HDR.box; have HDR := Lib.hid HDR; clear hMR hkR)
        | ((with_reducible refine (HDP.out.r.Close id).mono ?_); rintro e wE ⟨rfl, hMR, hkR⟩; have HDE := HDP.out.stepR hkR hMR; have HDE := Lib.hid HDE; clear hMR hkR))))
  all_goals go_wp2
  all_goals go_ret
  all_goals exact ⟨rfl, _, HDE.out.both (HB.out.few.out id 21), by have := hlen.out; omega⟩
set_option maxRecDepth 100000 in
set_option maxHeartbeats 4000000 in
theorem acted_evict {w0 : World} {lo : Nat} {w : World} {m t tb lb m' t' : Nat} {S : MS} (h : Both w0 lo w m t tb lb m' t' S) (id n : Int) (s : St) :
    Calls Tryz.prog 7 #[.pointer (some ⟨m, 0, none⟩), .pointer (some ⟨m', 0, none⟩), actVal 6 id n s] w (Acted w0 lo m t tb lb m' t' S) := by
  have hlen := len_out S id 22
  have hqq : ∀ k, S.get id = some k → 0 ≤ k.s.queued ∧ k.s.queued ≤ 1000 := fun k hk => ⟨h.p.known.queued _ (MS.get_mem hk), h.few.get hk⟩
  have HD0 := h.duo (actObj 6 id n s)
  have HB := Lib.hid h
  obtain ⟨W, hW⟩ : ∃ W, w.alloc (actObj 6 id n s) = W := ⟨_, rfl⟩
  rw [hW] at HD0
  have hW' := Lib.hid hW
  have HD := Lib.hid (HD0.on ((Keeps.refl _ _).drew))
  obtain ⟨s0, s1, s2, s3, s4, s5, s6⟩ := s
  unfold actVal
  unfold actObj at hW'
  obtain ⟨c0, c1, c2, c3, c4, c5, c6, c7, c8, c9⟩ := cellsA HD0.box
  simp only at *
  have hlen := Lib.hid hlen
  have hqq := Lib.hid hqq
  clear h hW HD0
  go_enter Tryz.func7, Tryz.ntmps7
  go_wp2_with fail
  rw [hW'.out]
  go_region_with (first
    | (go_at_call 35; (first
        | ((with_reducible refine (HD.out.p.EvictK id).mono ?_); rintro e wP ⟨rfl, hMP, hkP⟩; have HDP := HD.out.stepP hkP hMP; obtain ⟨p0, p1, p2, p3, p4, p5, p6, p7, p8, p9⟩ := cellsA HDP.box; have HDP := Lib.hid HDP; clear hMP hkP)
        | ((with_reducible refine (HDR.out.p.EvictK id).mono ?_); rintro e wE ⟨rfl, hMP, hkP⟩; have HDE := HDR.out.stepP hkP hMP; have HDE := Lib.hid HDE; clear hMP hkP)))
    | (go_at_call 36; (first
        | ((with_reducible refine (HD.out.r.Evict id).mono ?_); rintro e wR ⟨rfl, hMR, hkR⟩; have HDR := HD.out.stepR hkR hMR; obtain ⟨r0, r1, r2, r3, r4, r5, r6, r7, r8, r9⟩ := cellsA HDR.box; have HDR := Lib.hid HDR; clear hMR hkR)
        | ((with_reducible refine (HDP.out.r.Evict id).mono ?_); rintro e wE ⟨rfl, hMR, hkR⟩; have HDE := HDP.out.stepR hkR hMR; have HDE := Lib.hid HDE; clear hMR hkR))))
  all_goals go_wp2
  all_goals go_ret
  all_goals exact ⟨rfl, _, HDE.out.both (HB.out.few.out id 22), by have := hlen.out; omega⟩

end Go.Proofs.YthjghcfnopancaaGreat
