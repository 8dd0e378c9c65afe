/-
  See, asked of both models.
-/
import Derived.Test.YthjghcfnopancaaGreatGr
import Derived.Deep.DeepCutAuto
import Derived.Deep.RegionHeld3
namespace Go.Proofs.YthjghcfnopancaaGreat
open Go.RowKit Go.Shelf Go.Maps

def stObj (s : St) : Obj := .cells #[.int .i64 s.cause, .int .i64 s.queued, .int .i64 s.left, .int .i64 s.free, .int .i64 s.frames, .int .i64 s.pictures, .int .i64 s.gone] 35

/-- Both models, in states of their own, beside an act's box and a status's. -/
structure DuoS (w0 : World) (lo A B : Nat) (o : Obj) (q : Obj) (m t tb lb m' t' : Nat) (w : World) (S T : MS) : Prop where
  p : Mine w0 w m t tb lb S
  r : MineR ⟨lo, [A, B]⟩ w m' t' T
  box : w.heap[A]? = some o
  sbox : w.heap[B]? = some q
  u : Under lo m t tb lb
  l0 : w0.heap.size ≤ lo
  a : lo ≤ A
  b : lo ≤ B

theorem DuoS.stepP {w0 : World} {lo A B : Nat} {o q : Obj} {m t tb lb m' t' : Nat} {w w' : World} {S S' T : MS} (h : DuoS w0 lo A B o q m t tb lb m' t' w S T) (k : Keeps [t, tb, lb] w w') (hM : Mine w0 w' m t tb lb S') : DuoS w0 lo A B o q m t tb lb m' t' w' S' T :=
  ⟨hM, h.r.byP h.u k h.r.X, k.blk h.box (fun hm => by have := h.a; have := h.u.t; have := h.u.tb; have := h.u.lb; simp at hm; omega), k.blk h.sbox (fun hm => by have := h.b; have := h.u.t; have := h.u.tb; have := h.u.lb; simp at hm; omega), h.u, h.l0, h.a, h.b⟩
theorem DuoS.stepR {w0 : World} {lo A B : Nat} {o q : Obj} {m t tb lb m' t' : Nat} {w w' : World} {S T T' : MS} (h : DuoS w0 lo A B o q m t tb lb m' t' w S T) (k : Above ⟨lo, [A, B]⟩ w w') (hR : MineR ⟨lo, [A, B]⟩ w' m' t' T') : DuoS w0 lo A B o q m t tb lb m' t' w' S T' :=
  ⟨h.p.byA h.u k h.l0, hR, k.blk h.box (by simp), k.blk h.sbox (by simp), h.u, h.l0, h.a, h.b⟩
theorem DuoS.on {w0 : World} {lo A B : Nat} {o q : Obj} {m t tb lb m' t' : Nat} {w w' : World} {S T : MS} (h : DuoS w0 lo A B o q m t tb lb m' t' w S T) (k : Keeps [] w w') : DuoS w0 lo A B o q m t tb lb m' t' w' S T :=
  ⟨h.p.on k, h.r.on k, k.blk h.box (by simp), k.blk h.sbox (by simp), h.u, h.l0, h.a, h.b⟩
theorem DuoS.both {w0 : World} {lo A B : Nat} {o q : Obj} {m t tb lb m' t' : Nat} {w : World} {S : MS} (h : DuoS w0 lo A B o q m t tb lb m' t' w S S) (hF : Few S) : Both w0 lo w m t tb lb m' t' S := ⟨h.p, h.r.drop, hF, h.u, h.l0⟩
/-- The status is turned. -/
theorem DuoS.turn {w0 : World} {lo A B : Nat} {o q q' : Obj} {m t tb lb m' t' : Nat} {w w' : World} {S T : MS} (h : DuoS w0 lo A B o q m t tb lb m' t' w S T) (hne : A ≠ B) (k : Keeps [B] w w') (hq : w'.heap[B]? = some q') : DuoS w0 lo A B o q' m t tb lb m' t' w' S T :=
  ⟨h.p.byR h.u k (fun b hb => by simp at hb; subst hb; exact h.b) h.l0, h.r.step k (fun b hb => .inr (.inl (by simp at hb; subst hb; simp))) (fun b hb => ⟨.inl hb, Nat.lt_of_lt_of_le (h.r.X b hb) k.size⟩), k.blk h.box (by simpa using hne), hq, h.u, h.l0, h.a, h.b⟩
theorem Both.duoS {w0 : World} {lo : Nat} {w : World} {m t tb lb m' t' : Nat} {S : MS} (h : Both w0 lo w m t tb lb m' t' S) (o q : Obj) : DuoS w0 lo w.heap.size (w.heap.size + 1) o q m t tb lb m' t' ((w.alloc o).alloc q) S S :=
  ⟨h.p.on (((Keeps.refl _ _).alloc _).alloc _), h.r.step (((Keeps.refl [] _).alloc _).alloc _) (by simp) (by simp; omega), ((Keeps.refl [] _).alloc _).blk (heap_new _ _) (by simp), heap_new_at _ (by simp), h.u, h.lo, h.r.size, by have : lo ≤ w.heap.size := h.r.size; omega⟩

/-- A store into the status: whatever it holds then. -/
theorem gen_set {P : Program} {c : Code} {Q : Exit → Act → World → Prop} {a : Act} {w0 : World} {lo A B C : Nat} {o r : Obj} {q : St} {m t tb lb m' t' : Nat} {w : World} {S T : MS} (h : DuoS w0 lo A B o (stObj q) m t tb lb m' t' w S T) (hne : A ≠ B) (hC : w.heap[C]? = some r) (hCB : C ≠ B)
    {i : Nat} (hi : i < 7) {v : Int} (H : ∀ w' q', DuoS w0 lo A B o (stObj q') m t tb lb m' t' w' S T → w'.heap[C]? = some r → c.wp P Q a w') : c.wp P Q a (w.setCell ⟨B, i, none⟩ (.int .i64 v)) := by
  have k : Keeps [B] w (w.setCell ⟨B, i, none⟩ (.int .i64 v)) := (Keeps.refl _ _).setCell (by simp) _
  have hb := blk_setCell h.sbox i (.int .i64 v)
  have key : ∃ q', (w.setCell ⟨B, i, none⟩ (.int .i64 v)).heap[B]? = some (stObj q') := by
    obtain ⟨a0, a1, a2, a3, a4, a5, a6⟩ := q
    have : i = 0 ∨ i = 1 ∨ i = 2 ∨ i = 3 ∨ i = 4 ∨ i = 5 ∨ i = 6 := by omega
    rcases this with rfl | rfl | rfl | rfl | rfl | rfl | rfl
    · exact ⟨⟨v, a1, a2, a3, a4, a5, a6⟩, hb⟩
    · exact ⟨⟨a0, v, a2, a3, a4, a5, a6⟩, hb⟩
    · exact ⟨⟨a0, a1, v, a3, a4, a5, a6⟩, hb⟩
    · exact ⟨⟨a0, a1, a2, v, a4, a5, a6⟩, hb⟩
    · exact ⟨⟨a0, a1, a2, a3, v, a5, a6⟩, hb⟩
    · exact ⟨⟨a0, a1, a2, a3, a4, v, a6⟩, hb⟩
    · exact ⟨⟨a0, a1, a2, a3, a4, a5, v⟩, hb⟩
  obtain ⟨q', hq'⟩ := key
  exact H _ q' (h.turn hne k hq') (k.blk hC (by simpa using hCB))
theorem gen_set7 {P : Program} {c : Code} {Q : Exit → Act → World → Prop} {a : Act} {w0 : World} {lo A B : Nat} {o r : Obj} {q : St} {m t tb lb m' t' : Nat} {w : World} {S T : MS} (h : DuoS w0 lo A B o (stObj q) m t tb lb m' t' w S T) (hne : A ≠ B)
    {v0 v1 v2 v3 v4 v5 v6 : Int} (H : ∀ w' q', DuoS w0 lo A B o (stObj q') m t tb lb m' t' w' S T → w'.heap[w.heap.size]? = some r → c.wp P Q a w') :
    c.wp P Q a ((((((((w.setCell ⟨B, 0, none⟩ (.int .i64 v0)).setCell ⟨B, 1, none⟩ (.int .i64 v1)).setCell ⟨B, 2, none⟩ (.int .i64 v2)).setCell ⟨B, 3, none⟩ (.int .i64 v3)).setCell ⟨B, 4, none⟩ (.int .i64 v4)).setCell ⟨B, 5, none⟩ (.int .i64 v5)).setCell ⟨B, 6, none⟩ (.int .i64 v6)).alloc r) := by
  have k := Keeps.store7 (v0 := .int .i64 v0) (v1 := .int .i64 v1) (v2 := .int .i64 v2) (v3 := .int .i64 v3) (v4 := .int .i64 v4) (v5 := .int .i64 v5) (v6 := .int .i64 v6) (Keeps.refl [B] w) (b := B) (by simp)
  have hb := stored7 (v0 := .int .i64 v0) (v1 := .int .i64 v1) (v2 := .int .i64 v2) (v3 := .int .i64 v3) (v4 := .int .i64 v4) (v5 := .int .i64 v5) (v6 := .int .i64 v6) h.sbox
  have h2 : DuoS w0 lo A B o (stObj ⟨v0, v1, v2, v3, v4, v5, v6⟩) m t tb lb m' t' _ S T := h.turn hne k hb
  exact H _ ⟨v0, v1, v2, v3, v4, v5, v6⟩ (h2.on ((Keeps.refl _ _).alloc r)) (heap_new_at _ (by simp))

set_option maxRecDepth 100000 in
set_option maxHeartbeats 800000 in
theorem acted_see_near {w0 : World} {lo : Nat} {w : World} {m t tb lb m' t' : Nat} {S : MS} (h : Both w0 lo w m t tb lb m' t' S) (id n : Int) (s : St) (hn : 0 < n) (hn2 : n < 1000) :
    Calls Tryz.prog 7 #[.pointer (some ⟨m, 0, none⟩), .pointer (some ⟨m', 0, none⟩), actVal 3 id n s] w (Acted w0 lo m t tb lb m' t' S) := by
  have HD0 := h.duoS (actObj 3 id n s) (stObj s)
  have HB := Lib.hid h
  have d1 := decide_eq_true hn
  have d2 := decide_eq_true hn2
  obtain ⟨W, hW⟩ : ∃ W, (w.alloc (actObj 3 id n s)).alloc (stObj s) = W := ⟨_, rfl⟩
  rw [hW] at HD0
  have hW' := Lib.hid hW
  obtain ⟨s0, s1, s2, s3, s4, s5, s6⟩ := s
  unfold actVal
  unfold actObj stObj at hW'
  have hA := HD0.box
  have hS := Lib.hid (HD0.r.status HB.out.p.valid id)
  unfold actObj at hA
  have HD0 := Lib.hid HD0
  simp only at *
  clear h hW
  go_enter Tryz.func7, Tryz.ntmps7
  go_upto_if 95 with fail
  rw [hW'.out]
  obtain ⟨c0, c1, c2, c3, c4, c5, c6, c7, c8, c9⟩ := cellsA hA
  go_wp2_with fail
  refine (hS.out).mono ?_
  rintro e w2 ⟨rfl, hk2⟩
  have HD2 := HD0.out.on hk2
  obtain ⟨b0, b1, b2, b3, b4, b5, b6, b7, b8, b9⟩ := cellsA (hk2.blk hA (by simp))
  have hS2 := HD2.sbox
  unfold stObj at hS2
  obtain ⟨x0, x1, x2, x3, x4, x5, x6⟩ := cells7 hS2
  have fx := frees hS2
  have hlt := ltOf hS2
  have hltA := ltOf HD2.box
  generalize (S.status id).1 = K
  obtain ⟨k0, k1, k2, k3, k4, k5, k6⟩ := K
  have HD2 := Lib.hid HD2
  clear c0 c1 c2 c3 c4 c5 c6 c7 c8 c9 hA hS2 d1 d2
  have hne : w.heap.size ≠ w.heap.size + 1 := by omega
  have hCB : w2.heap.size ≠ w.heap.size + 1 := by omega
  have hne := Lib.hid hne
  have hCB := Lib.hid hCB
  go_upto_region 17 with fail
  refine gen_set7 (r := stObj ⟨k0, k1, k2, k3, k4, k5, k6⟩) HD2.out hne.out ?_
  clear b0 b1 b2 b3 b4 b5 b6 b7 b8 b9 x0 x1 x2 x3 x4 x5 x6 fx
  intro wx q HDx hCx
  obtain ⟨q0, q1, q2, q3, q4, q5, q6⟩ := q
  obtain ⟨c0, c1, c2, c3, c4, c5, c6, c7, c8, c9⟩ := cellsA HDx.box
  obtain ⟨x0, x1, x2, x3, x4, x5, x6⟩ := cells7 HDx.sbox
  obtain ⟨y0, y1, y2, y3, y4, y5, y6⟩ := cells7 hCx
  have fx := frees HDx.sbox
  simp only at x0 x1 x2 x3 x4 x5 x6
  have HDx := Lib.hid HDx
  have hCx := Lib.hid hCx
  go_upto_region 18 with fail
  refine gen_set (r := stObj ⟨k0, k1, k2, k3, k4, k5, k6⟩) HDx.out hne.out hCx.out hCB.out (by omega) ?_
  clear HDx hCx c0 c1 c2 c3 c4 c5 c6 c7 c8 c9 x0 x1 x2 x3 x4 x5 x6 y0 y1 y2 y3 y4 y5 y6 fx
  intro wx q HDx hCx
  obtain ⟨q0, q1, q2, q3, q4, q5, q6⟩ := q
  obtain ⟨c0, c1, c2, c3, c4, c5, c6, c7, c8, c9⟩ := cellsA HDx.box
  obtain ⟨x0, x1, x2, x3, x4, x5, x6⟩ := cells7 HDx.sbox
  obtain ⟨y0, y1, y2, y3, y4, y5, y6⟩ := cells7 hCx
  have fx := frees HDx.sbox
  simp only at x0 x1 x2 x3 x4 x5 x6
  have HDx := Lib.hid HDx
  have hCx := Lib.hid hCx
  go_upto_region 19 with fail
  refine gen_set (r := stObj ⟨k0, k1, k2, k3, k4, k5, k6⟩) HDx.out hne.out hCx.out hCB.out (by omega) ?_
  clear HDx hCx c0 c1 c2 c3 c4 c5 c6 c7 c8 c9 x0 x1 x2 x3 x4 x5 x6 y0 y1 y2 y3 y4 y5 y6 fx
  intro wx q HDx hCx
  obtain ⟨q0, q1, q2, q3, q4, q5, q6⟩ := q
  obtain ⟨c0, c1, c2, c3, c4, c5, c6, c7, c8, c9⟩ := cellsA HDx.box
  obtain ⟨x0, x1, x2, x3, x4, x5, x6⟩ := cells7 HDx.sbox
  obtain ⟨y0, y1, y2, y3, y4, y5, y6⟩ := cells7 hCx
  have fx := frees HDx.sbox
  simp only at x0 x1 x2 x3 x4 x5 x6
  have HDx := Lib.hid HDx
  have hCx := Lib.hid hCx
  go_upto_region 20 with fail
  refine gen_set (r := stObj ⟨k0, k1, k2, k3, k4, k5, k6⟩) HDx.out hne.out hCx.out hCB.out (by omega) ?_
  clear HDx hCx c0 c1 c2 c3 c4 c5 c6 c7 c8 c9 x0 x1 x2 x3 x4 x5 x6 y0 y1 y2 y3 y4 y5 y6 fx
  intro wx q HDx hCx
  obtain ⟨q0, q1, q2, q3, q4, q5, q6⟩ := q
  obtain ⟨c0, c1, c2, c3, c4, c5, c6, c7, c8, c9⟩ := cellsA HDx.box
  obtain ⟨x0, x1, x2, x3, x4, x5, x6⟩ := cells7 HDx.sbox
  obtain ⟨y0, y1, y2, y3, y4, y5, y6⟩ := cells7 hCx
  have fx := frees HDx.sbox
  simp only at x0 x1 x2 x3 x4 x5 x6
  have HDx := Lib.hid HDx
  have hCx := Lib.hid hCx
  go_upto_region 21 with fail
  refine gen_set (r := stObj ⟨k0, k1, k2, k3, k4, k5, k6⟩) HDx.out hne.out hCx.out hCB.out (by omega) ?_
  clear HDx hCx c0 c1 c2 c3 c4 c5 c6 c7 c8 c9 x0 x1 x2 x3 x4 x5 x6 y0 y1 y2 y3 y4 y5 y6 fx
  intro wx q HDx hCx
  obtain ⟨q0, q1, q2, q3, q4, q5, q6⟩ := q
  obtain ⟨c0, c1, c2, c3, c4, c5, c6, c7, c8, c9⟩ := cellsA HDx.box
  obtain ⟨x0, x1, x2, x3, x4, x5, x6⟩ := cells7 HDx.sbox
  obtain ⟨y0, y1, y2, y3, y4, y5, y6⟩ := cells7 hCx
  have fx := frees HDx.sbox
  simp only at x0 x1 x2 x3 x4 x5 x6
  have HDx := Lib.hid HDx
  have hCx := Lib.hid hCx
  go_upto_region 22 with fail
  refine gen_set (r := stObj ⟨k0, k1, k2, k3, k4, k5, k6⟩) HDx.out hne.out hCx.out hCB.out (by omega) ?_
  clear HDx hCx c0 c1 c2 c3 c4 c5 c6 c7 c8 c9 x0 x1 x2 x3 x4 x5 x6 y0 y1 y2 y3 y4 y5 y6 fx
  intro wx q HDx hCx
  obtain ⟨q0, q1, q2, q3, q4, q5, q6⟩ := q
  obtain ⟨c0, c1, c2, c3, c4, c5, c6, c7, c8, c9⟩ := cellsA HDx.box
  obtain ⟨x0, x1, x2, x3, x4, x5, x6⟩ := cells7 HDx.sbox
  obtain ⟨y0, y1, y2, y3, y4, y5, y6⟩ := cells7 hCx
  have fx := frees HDx.sbox
  simp only at x0 x1 x2 x3 x4 x5 x6
  have HDx := Lib.hid HDx
  have hCx := Lib.hid hCx
  go_wp2_with fail
  refine gen_set (r := stObj ⟨k0, k1, k2, k3, k4, k5, k6⟩) HDx.out hne.out hCx.out hCB.out (by omega) ?_
  clear HDx hCx c0 c1 c2 c3 c4 c5 c6 c7 c8 c9 x0 x1 x2 x3 x4 x5 x6 y0 y1 y2 y3 y4 y5 y6 fx
  intro wx q HDx hCx
  obtain ⟨q0, q1, q2, q3, q4, q5, q6⟩ := q
  obtain ⟨c0, c1, c2, c3, c4, c5, c6, c7, c8, c9⟩ := cellsA HDx.box
  obtain ⟨x0, x1, x2, x3, x4, x5, x6⟩ := cells7 HDx.sbox
  obtain ⟨y0, y1, y2, y3, y4, y5, y6⟩ := cells7 hCx
  have fx := frees HDx.sbox
  simp only at x0 x1 x2 x3 x4 x5 x6
  have HDx := Lib.hid HDx
  have hCx := Lib.hid hCx
  have HD := Lib.hid (HDx.out.on ((Keeps.refl _ _).drew))
  have hlen := Lib.hid (len_see S id ⟨q0, q1, q2, q3, q4, q5, q6⟩)
  clear HDx
  go_region_held3 (fun w' => w'.cell? ⟨w.heap.size, 1, none⟩ = some (.int .i64 id) ∧ w'.cell? ⟨w.heap.size + 1, 0, none⟩ = some (.int .i64 q0) ∧ w'.cell? ⟨w.heap.size + 1, 1, none⟩ = some (.int .i64 q1) ∧ w'.cell? ⟨w.heap.size + 1, 2, none⟩ = some (.int .i64 q2) ∧ w'.cell? ⟨w.heap.size + 1, 3, none⟩ = some (.int .i64 q3) ∧ w'.cell? ⟨w.heap.size + 1, 4, none⟩ = some (.int .i64 q4) ∧ w'.cell? ⟨w.heap.size + 1, 5, none⟩ = some (.int .i64 q5) ∧ w'.cell? ⟨w.heap.size + 1, 6, none⟩ = some (.int .i64 q6)) (first | exact ⟨c1, x0, x1, x2, x3, x4, x5, x6⟩ | exact ⟨p1, z0, z1, z2, z3, z4, z5, z6⟩ | exact ⟨e1, v0, v1, v2, v3, v4, v5, v6⟩) (first
    | (go_at_call 21; (first
        | ((with_reducible refine (HD.out.p.seeK id ⟨q0, q1, q2, q3, q4, q5, q6⟩).mono ?_); rintro e wP ⟨rfl, hMP, hkP⟩; have HDP := HD.out.stepP hkP hMP; obtain ⟨p0, p1, p2, p3, p4, p5, p6, p7, p8, p9⟩ := cellsA HDP.box; obtain ⟨z0, z1, z2, z3, z4, z5, z6⟩ := cells7 HDP.sbox; have HDP := Lib.hid HDP; clear hMP hkP)
        | ((with_reducible refine (HDR.out.p.seeK id ⟨q0, q1, q2, q3, q4, q5, q6⟩).mono ?_); rintro e wE ⟨rfl, hMP, hkP⟩; have HDE := HDR.out.stepP hkP hMP; obtain ⟨e0, e1, e2, e3, e4, e5, e6, e7, e8, e9⟩ := cellsA HDE.box; obtain ⟨v0, v1, v2, v3, v4, v5, v6⟩ := cells7 HDE.sbox; have HDE := Lib.hid HDE; clear hMP hkP)))
    | (go_at_call 31; (first
        | ((with_reducible refine (HD.out.r.see HB.out.p.valid id ⟨q0, q1, q2, q3, q4, q5, q6⟩).mono ?_); rintro e wR ⟨rfl, hMR, hkR⟩; have HDR := HD.out.stepR hkR hMR; obtain ⟨p0, p1, p2, p3, p4, p5, p6, p7, p8, p9⟩ := cellsA HDR.box; obtain ⟨z0, z1, z2, z3, z4, z5, z6⟩ := cells7 HDR.sbox; have HDR := Lib.hid HDR; clear hMR hkR)
        | ((with_reducible refine (HDP.out.r.see HB.out.p.valid id ⟨q0, q1, q2, q3, q4, q5, q6⟩).mono ?_); rintro e wE ⟨rfl, hMR, hkR⟩; have HDE := HDP.out.stepR hkR hMR; obtain ⟨e0, e1, e2, e3, e4, e5, e6, e7, e8, e9⟩ := cellsA HDE.box; obtain ⟨v0, v1, v2, v3, v4, v5, v6⟩ := cells7 HDE.sbox; have HDE := Lib.hid HDE; clear hMR hkR))))
  all_goals go_wp2
  all_goals go_ret
  all_goals exact ⟨rfl, _, HDE.out.both (HB.out.few.see HB.out.p.valid id _), by have := hlen.out; omega⟩

end Go.Proofs.YthjghcfnopancaaGreat

/-
  See, asked of both models: as the act has it.
-/
namespace Go.Proofs.YthjghcfnopancaaGreat
open Go.RowKit Go.Shelf Go.Maps

set_option maxRecDepth 100000 in
set_option maxHeartbeats 4000000 in
theorem acted_see_far {w0 : World} {lo : Nat} {w : World} {m t tb lb m' t' : Nat} {S : MS} (h : Both w0 lo w m t tb lb m' t' S) (id n : Int) (s : St) (hn : ¬ (0 < n ∧ n < 1000)) :
    Calls Tryz.prog 7 #[.pointer (some ⟨m, 0, none⟩), .pointer (some ⟨m', 0, none⟩), actVal 3 id n s] w (Acted w0 lo m t tb lb m' t' S) := by
  obtain ⟨q0, q1, q2, q3, q4, q5, q6⟩ := s
  have HD0 := h.duoS (actObj 3 id n ⟨q0, q1, q2, q3, q4, q5, q6⟩) (stObj ⟨q0, q1, q2, q3, q4, q5, q6⟩)
  have HB := Lib.hid h
  obtain ⟨W, hW⟩ : ∃ W, (w.alloc (actObj 3 id n ⟨q0, q1, q2, q3, q4, q5, q6⟩)).alloc (stObj ⟨q0, q1, q2, q3, q4, q5, q6⟩) = W := ⟨_, rfl⟩
  rw [hW] at HD0
  have hW' := Lib.hid hW
  unfold actVal
  unfold actObj stObj at hW'
  obtain ⟨c0, c1, c2, c3, c4, c5, c6, c7, c8, c9⟩ := cellsA HD0.box
  obtain ⟨x0, x1, x2, x3, x4, x5, x6⟩ := cells7 HD0.sbox
  have HDx := Lib.hid HD0
  simp only at *
  clear h hW HD0
  by_cases hn1 : 0 < n
  all_goals
    first
    | (have d1 := decide_eq_true hn1; have d2 : decide (n < 1000) = false := decide_eq_false (by omega))
    | have d1 := decide_eq_false hn1
    clear hn hn1
    go_enter Tryz.func7, Tryz.ntmps7
    go_upto_region 23 with fail
    rw [hW'.out]
    have HD := Lib.hid (HDx.out.on ((Keeps.refl _ _).drew))
    have hlen := Lib.hid (len_see S id ⟨q0, q1, q2, q3, q4, q5, q6⟩)
    clear HDx
    go_region_held3 (fun w' => w'.cell? ⟨w.heap.size, 1, none⟩ = some (.int .i64 id) ∧ w'.cell? ⟨w.heap.size + 1, 0, none⟩ = some (.int .i64 q0) ∧ w'.cell? ⟨w.heap.size + 1, 1, none⟩ = some (.int .i64 q1) ∧ w'.cell? ⟨w.heap.size + 1, 2, none⟩ = some (.int .i64 q2) ∧ w'.cell? ⟨w.heap.size + 1, 3, none⟩ = some (.int .i64 q3) ∧ w'.cell? ⟨w.heap.size + 1, 4, none⟩ = some (.int .i64 q4) ∧ w'.cell? ⟨w.heap.size + 1, 5, none⟩ = some (.int .i64 q5) ∧ w'.cell? ⟨w.heap.size + 1, 6, none⟩ = some (.int .i64 q6)) (first | exact ⟨c1, x0, x1, x2, x3, x4, x5, x6⟩ | exact ⟨p1, z0, z1, z2, z3, z4, z5, z6⟩ | exact ⟨e1, v0, v1, v2, v3, v4, v5, v6⟩) (first
      | (go_at_call 21; (first
          | ((with_reducible refine (HD.out.p.seeK id ⟨q0, q1, q2, q3, q4, q5, q6⟩).mono ?_); rintro e wP ⟨rfl, hMP, hkP⟩; have HDP := HD.out.stepP hkP hMP; obtain ⟨p0, p1, p2, p3, p4, p5, p6, p7, p8, p9⟩ := cellsA HDP.box; obtain ⟨z0, z1, z2, z3, z4, z5, z6⟩ := cells7 HDP.sbox; have HDP := Lib.hid HDP; clear hMP hkP)
          | ((with_reducible refine (HDR.out.p.seeK id ⟨q0, q1, q2, q3, q4, q5, q6⟩).mono ?_); rintro e wE ⟨rfl, hMP, hkP⟩; have HDE := HDR.out.stepP hkP hMP; obtain ⟨e0, e1, e2, e3, e4, e5, e6, e7, e8, e9⟩ := cellsA HDE.box; obtain ⟨v0, v1, v2, v3, v4, v5, v6⟩ := cells7 HDE.sbox; have HDE := Lib.hid HDE; clear hMP hkP)))
      | (go_at_call 31; (first
          | ((with_reducible refine (HD.out.r.see HB.out.p.valid id ⟨q0, q1, q2, q3, q4, q5, q6⟩).mono ?_); rintro e wR ⟨rfl, hMR, hkR⟩; have HDR := HD.out.stepR hkR hMR; obtain ⟨p0, p1, p2, p3, p4, p5, p6, p7, p8, p9⟩ := cellsA HDR.box; obtain ⟨z0, z1, z2, z3, z4, z5, z6⟩ := cells7 HDR.sbox; have HDR := Lib.hid HDR; clear hMR hkR)
          | ((with_reducible refine (HDP.out.r.see HB.out.p.valid id ⟨q0, q1, q2, q3, q4, q5, q6⟩).mono ?_); rintro e wE ⟨rfl, hMR, hkR⟩; have HDE := HDP.out.stepR hkR hMR; obtain ⟨e0, e1, e2, e3, e4, e5, e6, e7, e8, e9⟩ := cellsA HDE.box; obtain ⟨v0, v1, v2, v3, v4, v5, v6⟩ := cells7 HDE.sbox; have HDE := Lib.hid HDE; clear hMR hkR))))
    all_goals go_wp2
    all_goals go_ret
    all_goals exact ⟨rfl, _, HDE.out.both (HB.out.few.see HB.out.p.valid id _), by have := hlen.out; omega⟩

end Go.Proofs.YthjghcfnopancaaGreat
