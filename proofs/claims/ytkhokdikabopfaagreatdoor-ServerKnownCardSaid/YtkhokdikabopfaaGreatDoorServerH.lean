/-
  Server: Drain, Live, Free of idle sessions.
-/
import Derived.Test.YtkhokdikabopfaaGreatDoorServerG
namespace Go.Proofs.YtkhokdikabopfaaGreatDoor
open Go.RowKit Go.Shelf Go.Maps

set_option maxRecDepth 100000 in
set_option maxHeartbeats 1000000 in
theorem vdrain1_empty {w : World} {p : Nat} {room : Int} {slots : Nat} {z : Sess} (h : SessAt w p room slots z) (h1 : 1 ≤ slots) (f : Fn) (fa fb : Array Value) (hx : z.nx = .func f fa fb) (x y : Value) :
    Calls Tryz.prog 47 #[.pointer (some ⟨z.k, 0, none⟩), x, y] w fun en w' => en = .returned (.tuple #[noPic, .int .i64 16]) ∧ Keeps [] w w' := by
  have k0 : w.cell? ⟨z.k, 0, none⟩ = some (.pointer (some ⟨z.x, 0, none⟩)) := cellOf h.k 0 rfl
  have hlt := ltOf h.k
  have hD : Hid (∀ w', Keeps [] w w' → _) := Lib.hid fun w' (k : Keeps [] w w') => sdrain (h.keep k (by simp)) h1 f fa fb hx
  clear h
  go_enter Tryz.func47, Tryz.ntmps47
  go_wp2_with (go_at_call 48; refine (hD.out _ (by repeat (first | exact Keeps.refl _ _ | assumption | refine Keeps.drew ?_ | refine Keeps.drewN ?_ _ | refine Keeps.alloc ?_ _ | refine Keeps.setCell ?_ (by simp <;> omega) _ | refine Keeps.trans ?_ (by assumption)))).mono ?_; rintro e w1 ⟨rfl, hk⟩; obtain ⟨b0, hk⟩ := hk.new1 (by simp); obtain ⟨e0, e1, e2, e3⟩ := cells4 b0; have fr := frees b0; have hb0 := Lib.hid b0; have hl := ltOf b0; clear b0)
  have hx : w.heap.size < w.heap.size → w.heap.size ∈ ([] : List Nat) := fun h => absurd h (by omega)
  have hb1 := blk_setCell (blk_setCell (blk_setCell (blk_setCell hb0.out 0 (.int .i64 0)) 1 (.int .i64 0)) 2 (.int .i64 0)) 3 (.slice none 0 0)
  have hb2 := ((Keeps.refl [] _).alloc (.cells #[.int .i64 0, .int .i64 0, .int .i64 0, .slice none 0 0] 53)).blk hb1 (by simp)
  exact bodyPost_ret (res_ct rfl agg_picture rfl rfl rfl hb2) rfl ⟨by simp, ((((hk.setCell (p := ⟨w.heap.size, 0, none⟩) hx (.int .i64 0)).setCell (p := ⟨w.heap.size, 1, none⟩) hx (.int .i64 0)).setCell (p := ⟨w.heap.size, 2, none⟩) hx (.int .i64 0)).setCell (p := ⟨w.heap.size, 3, none⟩) hx (.slice none 0 0)).alloc _⟩

set_option maxRecDepth 100000 in
set_option maxHeartbeats 1000000 in
theorem vdrain1_over {P : SrvP} {c : Cf} {last : Int} {l : List (Int × Int)} {L : List Sess} {w : World} (h : SrvAt w P c last l L) (hc : c.ok) (hO : VOk last l L) {z : Sess} (hz : z ∈ L) (hx : z.nx = .nilFunc) (h0 : z.cause ≠ 0) (h16 : z.cause ≠ 16) (a0 a1 : Nat)
    (d0 : w.cell? ⟨a0, 0, none⟩ = some (.pointer (some ⟨P.s, 0, none⟩))) (d1 : w.cell? ⟨a1, 0, none⟩ = some (.int .i64 z.id)) :
    Calls Tryz.prog 47 #[.pointer (some ⟨z.k, 0, none⟩), .pointer (some ⟨a0, 0, none⟩), .pointer (some ⟨a1, 0, none⟩)] w fun en w' => en = .returned (.tuple #[noPic, .int .i64 z.cause]) ∧ Keeps [P.tb, P.cb, z.x, z.o] w w' ∧ SrvAt w' P c last (ended l z.id z.cause) (L.filter fun y => y.id != z.id) := by
  have hS := (h.sess z hz).1
  have k0 : w.cell? ⟨z.k, 0, none⟩ = some (.pointer (some ⟨z.x, 0, none⟩)) := cellOf hS.k 0 rfl
  have hlt := ltOf hS.k
  have hD : Hid (∀ w', Keeps [] w w' → _) := Lib.hid fun w' (k : Keeps [] w w') => sdrain_over (hS.keep k (by simp)) hc.o.1 hx
  have hE : Hid (∀ w', Keeps [] w w' → _) := Lib.hid fun w' (k : Keeps [] w w') => vends (h.on k) hc hO hz z.cause h0
  have hu := h.under
  have hu2 := hu.2 z hz
  have hu1 := hu.1
  have hn := hS.ne
  have HO : Hid (OldOnly w fun w' => Keeps [P.tb, P.cb, z.x, z.o] w w' ∧ SrvAt w' P c last (ended l z.id z.cause) (L.filter fun y => y.id != z.id)) := Lib.hid (OldOnly.srv h (fun y hy => (List.mem_filter.1 hy).1) _)
  have q0 : (z.cause == 0) = false := by simpa using h0
  have q16 : (z.cause == 16) = false := by simpa using h16
  have r0 : (z.cause != 0) = true := by simpa using h0
  have r16 : (z.cause != 16) = true := by simpa using h16
  clear h hS hu h0 h16
  go_enter Tryz.func47, Tryz.ntmps47
  go_wp2_with (first
    | (go_at_call 48; refine (hD.out _ (by repeat (first | exact Keeps.refl _ _ | assumption | refine Keeps.drew ?_ | refine Keeps.drewN ?_ _ | refine Keeps.alloc ?_ _ | refine Keeps.setCell ?_ (by simp <;> omega) _ | refine Keeps.trans ?_ (by assumption)))).mono ?_; rintro e w1 ⟨rfl, hk⟩; obtain ⟨b0, hk⟩ := hk.new1 (by simp); have f0 := hk.cell d0 (by simp); have f1 := hk.cell d1 (by simp); have m0 := World.block_lt_of_cell? _ _ f0; have m1 := World.block_lt_of_cell? _ _ f1; have hb0 := Lib.hid b0; have hl := ltOf b0; have hks := hk.size; clear b0)
    | (go_at_call 40; refine (hE.out _ (by repeat (first | exact Keeps.refl _ _ | assumption | refine Keeps.drew ?_ | refine Keeps.drewN ?_ _ | refine Keeps.alloc ?_ _ | refine Keeps.setCell ?_ (by simp <;> omega) _ | refine Keeps.trans ?_ (by assumption)))).mono ?_; rintro e w3 ⟨rfl, hk3, hS3⟩
       have g0 := hk3.blk (((Keeps.refl [] w1).alloc _).blk hb0.out (by simp)) (by simp; omega)
       have g1 := hk3.blk (heap_new w1 (.cells #[.int .i64 0, .int .i64 0, .int .i64 0, .slice none 0 0] 53)) (by simp; omega)
       obtain ⟨e0, e1, e2, e3⟩ := cells4 g0; have fr := frees g0
       obtain ⟨p0, p1, p2, p3⟩ := cells4 g1
       have hg0 := Lib.hid g0
       clear g0 g1))
  have hb1 := blk_setCell (blk_setCell (blk_setCell (blk_setCell hg0.out 0 (.int .i64 0)) 1 (.int .i64 0)) 2 (.int .i64 0)) 3 (.slice none 0 0)
  have hK3 : Keeps [P.tb, P.cb, z.x, z.o] w w3 := ((hk.alloc _).mono (by simp)).trans (hk3.mono (by intro i hi; simp at hi ⊢; omega))
  have hR := HO.out.store4 ⟨hK3, hS3⟩ (Nat.le_refl _) (.int .i64 0) (.int .i64 0) (.int .i64 0) (.slice none 0 0)
  exact bodyPost_ret (res_ct rfl agg_picture rfl rfl rfl hb1) rfl ⟨by simp, hR⟩

/-- Drain, whatever the closure does. -/
theorem vdrain_of {P : SrvP} {c : Cf} {last : Int} {l : List (Int × Int)} {L : List Sess} {w : World} (h : SrvAt w P c last l L) (hc : c.ok) (hO : VOk last l L) {z : Sess} (hz : z ∈ L) (R : World → Prop) (hR : OldOnly w R) (err : Int)
    (hwhat : ∀ w1 a0 a1, Keeps [] w w1 → w1.cell? ⟨a0, 0, none⟩ = some (.pointer (some ⟨P.s, 0, none⟩)) → w1.cell? ⟨a1, 0, none⟩ = some (.int .i64 z.id) →
      Calls Tryz.prog 47 #[.pointer (some ⟨z.k, 0, none⟩), .pointer (some ⟨a0, 0, none⟩), .pointer (some ⟨a1, 0, none⟩)] w1 fun en w' => en = .returned (.tuple #[noPic, .int .i64 err]) ∧ Keeps [P.tb, P.cb, z.x, z.o] w1 w' ∧ R w') :
    Calls Tryz.prog 17 #[.pointer (some ⟨P.s, 0, none⟩), .int .i64 z.id] w fun en w' => en = .returned (.tuple #[noPic, .int .i64 err]) ∧ R w' := by
  obtain ⟨w1, hw1⟩ : ∃ w1, w1 = ((w.alloc (.cells #[.pointer (some ⟨P.s, 0, none⟩)] 22)).alloc (.cells #[.int .i64 z.id] 3)).alloc (.cells #[.int .i64 0, .int .i64 0, .int .i64 0, .slice none 0 0] 53) := ⟨_, rfl⟩
  have hk1 : Keeps [] w w1 := by rw [hw1]; exact (((Keeps.refl _ _).alloc _).alloc _).alloc _
  have hk0 : Keeps [] (((w.alloc (.cells #[.pointer (some ⟨P.s, 0, none⟩)] 22)).alloc (.cells #[.int .i64 z.id] 3)).alloc (.cells #[.int .i64 0, .int .i64 0, .int .i64 0, .slice none 0 0] 53)) w1 := by rw [hw1]; exact Keeps.refl _ _
  obtain ⟨b0, b1, b2, -⟩ := hk0.new3 (by simp) (by simp) (by simp)
  have e0 := cellOf b0 0 rfl
  have e1 := cellOf b1 0 rfl
  have hn := (h.sess z hz).1.ne
  have hu := h.under
  have hu2 := hu.2 z hz
  have hu1 := hu.1
  have hsz := ltOf b2
  have hA := vask_pic_yes (h.on hk1) hc hO hz 47 #[.pointer (some ⟨w.heap.size, 0, none⟩), .pointer (some ⟨w.heap.size + 1, 0, none⟩)] (enters_of Tryz.func47 (by kernel_rfl) rfl)
    (fun w' => Keeps [P.tb, P.cb, z.x, z.o] w1 w' ∧ R w') (fun w' w'' lst h1 k hl => ⟨OldOnly.keeps w1 _ _ _ _ h1.1 k hl, hR.up hk1.size _ _ _ h1.2 k hl⟩) err
    (fun w2 hk => (hwhat w2 w.heap.size (w.heap.size + 1) (hk1.trans hk) (hk.cell e0 (by simp)) (hk.cell e1 (by simp))).mono fun _ _ ⟨h1, h2, h3⟩ => ⟨h1, h2, (hk.mono (by simp)).trans h2, h3⟩)
  have hA := Lib.hid hA
  have HB := Lib.hid b2
  have HR := Lib.hid hR
  have hw1 := Lib.hid hw1
  clear h hc hO hk0 b1 b2 hk1 hu hwhat hR b0
  go_enter Tryz.func17, Tryz.ntmps17
  go_wp2_with fail
  rw [← hw1.out]
  go_wp2_with (go_at_call 46; refine (hA.out).mono ?_; rintro e w' ⟨rfl, hk, hRw⟩; have g0 := hk.blk HB.out (by simp; omega); obtain ⟨p0, p1, p2, p3⟩ := cells4 g0; have fr := frees g0; have hg0 := Lib.hid g0; clear g0)
  have hb1 := blk_setCell (blk_setCell (blk_setCell (blk_setCell hg0.out 0 (.int .i64 0)) 1 (.int .i64 0)) 2 (.int .i64 0)) 3 (.slice none 0 0)
  exact bodyPost_ret (res_ct rfl agg_picture rfl rfl rfl hb1) rfl ⟨by simp, HR.out.store4 hRw (by omega) _ _ _ _⟩

theorem vdrain_empty {P : SrvP} {c : Cf} {last : Int} {l : List (Int × Int)} {L : List Sess} {w : World} (h : SrvAt w P c last l L) (hc : c.ok) (hO : VOk last l L) {z : Sess} (hz : z ∈ L) (f : Fn) (fa fb : Array Value) (hx : z.nx = .func f fa fb) :
    Calls Tryz.prog 17 #[.pointer (some ⟨P.s, 0, none⟩), .int .i64 z.id] w fun en w' => en = .returned (.tuple #[noPic, .int .i64 16]) ∧ Keeps [] w w' :=
  vdrain_of h hc hO hz (fun w' => Keeps [] w w') (OldOnly.keeps w []) 16 fun _ _ _ k _ _ => (vdrain1_empty ((h.on k).sess z hz).1 hc.o.1 f fa fb hx _ _).mono fun _ _ ⟨h1, h2⟩ => ⟨h1, h2.mono (by simp), k.trans h2⟩

theorem vdrain_over {P : SrvP} {c : Cf} {last : Int} {l : List (Int × Int)} {L : List Sess} {w : World} (h : SrvAt w P c last l L) (hc : c.ok) (hO : VOk last l L) {z : Sess} (hz : z ∈ L) (hx : z.nx = .nilFunc) (h0 : z.cause ≠ 0) (h16 : z.cause ≠ 16) :
    Calls Tryz.prog 17 #[.pointer (some ⟨P.s, 0, none⟩), .int .i64 z.id] w fun en w' => en = .returned (.tuple #[noPic, .int .i64 z.cause]) ∧ Keeps [P.tb, P.cb, z.x, z.o] w w' ∧ SrvAt w' P c last (ended l z.id z.cause) (L.filter fun y => y.id != z.id) :=
  vdrain_of h hc hO hz (fun w' => Keeps [P.tb, P.cb, z.x, z.o] w w' ∧ SrvAt w' P c last (ended l z.id z.cause) (L.filter fun y => y.id != z.id)) (OldOnly.srv h (fun y hy => (List.mem_filter.1 hy).1) _) z.cause
    fun _ a0 a1 k d0 d1 => (vdrain1_over (h.on k) hc hO hz hx h0 h16 a0 a1 d0 d1).mono fun _ _ ⟨h1, h2, h3⟩ => ⟨h1, h2, (k.mono (by simp)).trans h2, h3⟩

set_option maxRecDepth 100000 in
set_option maxHeartbeats 1000000 in
theorem vdrain_no {P : SrvP} {c : Cf} {last : Int} {l : List (Int × Int)} {L : List Sess} {w : World} (h : SrvAt w P c last l L) (hc : c.ok) (id : Int) (hr : vref l id ≠ 0) :
    Calls Tryz.prog 17 #[.pointer (some ⟨P.s, 0, none⟩), .int .i64 id] w fun en w' => en = .returned (.tuple #[noPic, .int .i64 (vref l id)]) ∧ Keeps [] w w' := by
  have hA : Hid (∀ w', Keeps [] w w' → ∀ f, _) := Lib.hid fun w' (k : Keeps [] w w') => fun f => vask_pic_no (h.on k) hc id f hr
  have hx : w.heap.size + 2 < w.heap.size → w.heap.size + 2 ∈ ([] : List Nat) := fun h => absurd h (by omega)
  clear h hc hr
  go_enter Tryz.func17, Tryz.ntmps17
  go_wp2_with (go_at_call 46; refine (hA.out _ (by repeat (first | exact Keeps.refl _ _ | assumption | refine Keeps.drew ?_ | refine Keeps.drewN ?_ _ | refine Keeps.alloc ?_ _ | refine Keeps.setCell ?_ (by simp <;> omega) _ | refine Keeps.trans ?_ (by assumption))) _).mono ?_; rintro e w' ⟨rfl, hk⟩; obtain ⟨b0, b1, b2, hk⟩ := hk.new3 (by simp) (by simp) (by simp); obtain ⟨p0, p1, p2, p3⟩ := cells4 b2; have fr := frees b2; have hg0 := Lib.hid b2; clear b0 b1 b2)
  have hb1 := blk_setCell (blk_setCell (blk_setCell (blk_setCell hg0.out 0 (.int .i64 0)) 1 (.int .i64 0)) 2 (.int .i64 0)) 3 (.slice none 0 0)
  exact bodyPost_ret (res_ct rfl agg_picture rfl rfl rfl hb1) rfl ⟨by simp, (((hk.setCell (p := ⟨w.heap.size + 2, 0, none⟩) hx (.int .i64 0)).setCell (p := ⟨w.heap.size + 2, 1, none⟩) hx (.int .i64 0)).setCell (p := ⟨w.heap.size + 2, 2, none⟩) hx (.int .i64 0)).setCell (p := ⟨w.heap.size + 2, 3, none⟩) hx (.slice none 0 0)⟩

theorem vlive {P : SrvP} {c : Cf} {last : Int} {l : List (Int × Int)} {L : List Sess} {w : World} (h : SrvAt w P c last l L) (hc : c.ok) (hO : VOk last l L) :
    Calls Tryz.prog 21 #[.pointer (some ⟨P.s, 0, none⟩)] w fun e w' => ∃ v, e = .returned v ∧ w'.ownsRow w.heap.size 3 1 v (liveIds l).length ((liveIds l).map (Value.int .i64)) ∧ Keeps [] w w' := by
  have c5 := h.c.2.2.2.2.1
  have hL := Lib.hid (live_any h.tbl (by have := hc.s.1; omega) hO.rise)
  clear h hc hO
  go_enter Tryz.func21, Tryz.ntmps21
  go_wp2_with (first
    | (go_at_call 31; refine (vnone c5).mono ?_; rintro e w' ⟨rfl, rfl⟩)
    | (go_at_call 52; refine (hL.out).mono ?_; rintro e w' ⟨v, rfl, hrow, -, hk⟩))
  go_ret
  exact ⟨v, rfl, hrow, hk⟩

theorem vfree {P : SrvP} {c : Cf} {last : Int} {l : List (Int × Int)} {L : List Sess} {w : World} (h : SrvAt w P c last l L) (hc : c.ok) :
    Calls Tryz.prog 22 #[.pointer (some ⟨P.s, 0, none⟩)] w fun e w' => e = .returned (.int .i64 c.frames) ∧ w = w' := by
  obtain ⟨c1, c2, c3, c4, c5, c6, c7⟩ := h.c
  have hF := Lib.hid (pfree h.pool (by have := hc.q.1; omega))
  clear h hc
  go_enter Tryz.func22, Tryz.ntmps22
  go_wp2_with (first
    | (go_at_call 31; refine (vnone c5).mono ?_; rintro e w' ⟨rfl, rfl⟩)
    | (go_at_call 39; refine (hF.out).mono ?_; rintro e w' ⟨rfl, rfl⟩))
  go_ret
  simp

end Go.Proofs.YtkhokdikabopfaaGreatDoor
