/-
  Server: Drain, Live, Free.
-/
import Derived.Test.YtkhokdikabopfaaGreatDoorServerF
import Derived.Test.YtkhokdikabopfaaGreatDoorSessionD
namespace Go.Proofs.YtkhokdikabopfaaGreatDoor
open Go.RowKit Go.Shelf Go.Maps

/-- What lies above all that a server is hangs on nothing of it. -/
theorem SrvAt.high {w' w'' : World} {P : SrvP} {c : Cf} {last : Int} {l : List (Int × Int)} {L : List Sess} (h : SrvAt w' P c last l L) {N : Nat} (hN : P.s < N ∧ P.t < N ∧ P.tb < N ∧ P.cb < N ∧ P.B ≤ N) (hL : ∀ z ∈ L, z.hi ≤ N)
    {lst : List Nat} (k : Keeps lst w' w'') (hl : ∀ b ∈ lst, N ≤ b) : SrvAt w'' P c last l L := by
  have key : ∀ b, b < N → b ∉ lst := fun b h1 h2 => by have := hl b h2; omega
  exact ⟨k.blk h.blk (key _ hN.1), ⟨k.blk h.tbl.blk (key _ hN.2.1), h.tbl.map.keep k (key _ hN.2.2.1)⟩, h.pool.keep k (fun b hb => by have := hl b hb; omega), h.out, h.cl.keep k (key _ hN.2.2.2.1), h.ne, Nat.le_trans h.top k.size,
    fun z hz => by obtain ⟨h1, h2, h3, h4, h5, h6, h7⟩ := h.sess z hz; exact ⟨h1.keep k (fun b hb => by have := hl b hb; have := hL z hz; omega), h2, h3, h4, h5, h6, Nat.le_trans h7 k.size⟩, h.sep⟩

theorem SrvAt.under {w : World} {P : SrvP} {c : Cf} {last : Int} {l : List (Int × Int)} {L : List Sess} (h : SrvAt w P c last l L) : (P.s < w.heap.size ∧ P.t < w.heap.size ∧ P.tb < w.heap.size ∧ P.cb < w.heap.size ∧ P.B ≤ w.heap.size) ∧ ∀ z ∈ L, z.hi ≤ w.heap.size :=
  ⟨⟨ltOf h.blk, ltOf h.tbl.blk, h.tbl.map.lt, h.cl.lt, h.top⟩, fun z hz => (h.sess z hz).2.2.2.2.2.2⟩

/-- A word on the world that does not hang on what is new since w. -/
def OldOnly (w : World) (R : World → Prop) : Prop := ∀ w' w'' lst, R w' → Keeps lst w' w'' → (∀ b ∈ lst, w.heap.size ≤ b) → R w''

theorem OldOnly.srv {w : World} {P : SrvP} {c : Cf} {last last' : Int} {l l' : List (Int × Int)} {L L' : List Sess} (h : SrvAt w P c last l L) (hL : ∀ z ∈ L', z ∈ L) (lst : List Nat) :
    OldOnly w fun w' => Keeps lst w w' ∧ SrvAt w' P c last' l' L' := by
  rintro w' w'' lst' ⟨h1, h2⟩ k hl
  refine ⟨h1.trans' k (fun i hi h3 => ?_), h2.high h.under.1 (fun z hz => h.under.2 z (hL z hz)) k hl⟩
  have := hl i hi; omega
theorem OldOnly.keeps (w : World) (lst : List Nat) : OldOnly w fun w' => Keeps lst w w' := by
  rintro w' w'' lst' h1 k hl
  exact h1.trans' k (fun i hi h3 => by have := hl i hi; omega)
theorem OldOnly.up {w w1 : World} {R : World → Prop} (h : OldOnly w R) (hs : w.heap.size ≤ w1.heap.size) : OldOnly w1 R := fun w' w'' lst h1 k hl => h w' w'' lst h1 k (fun b hb => Nat.le_trans hs (hl b hb))

theorem OldOnly.store4 {w w' : World} {R : World → Prop} (h : OldOnly w R) (hR : R w') {b : Nat} (hb : w.heap.size ≤ b) (v0 v1 v2 v3 : Value) :
    R ((((w'.setCell ⟨b, 0, none⟩ v0).setCell ⟨b, 1, none⟩ v1).setCell ⟨b, 2, none⟩ v2).setCell ⟨b, 3, none⟩ v3) :=
  h _ _ [b] hR (((((Keeps.refl [b] w').setCell (by simp) _).setCell (by simp) _).setCell (by simp) _).setCell (by simp) _) (by simpa using hb)

set_option maxRecDepth 100000 in
set_option maxHeartbeats 1000000 in
theorem vask_pic_no {P : SrvP} {c : Cf} {last : Int} {l : List (Int × Int)} {L : List Sess} {w : World} (h : SrvAt w P c last l L) (hc : c.ok) (id : Int) (what : Value) (hr : vref l id ≠ 0) :
    Calls Tryz.prog 46 #[.pointer (some ⟨P.s, 0, none⟩), .int .i64 id, what] w fun e w' => e = .returned (.tuple #[noPic, .int .i64 (vref l id)]) ∧ Keeps [] w w' := by
  have hC : Hid (∀ w', Keeps [] w w' → _) := Lib.hid fun w' (k : Keeps [] w w') => cause_any (h.on k).tbl (by have := hc.s.1; omega) id
  have H5 : Hid (∀ w', Keeps [] w w' → _) := Lib.hid fun w' (k : Keeps [] w w') => (h.on k).c.2.2.2.2.1
  have c5 := h.c.2.2.2.2.1
  have hlt := h.under.1.1
  unfold vref at hr ⊢
  generalize causeOf l id = q at hC hr ⊢
  obtain ⟨a, b⟩ := q
  simp only at hC hr ⊢
  clear h hc
  by_cases hb : b = 0
  · subst hb
    rw [if_pos rfl] at hr ⊢
    have hr0 : (a == 0) = false := by simpa using hr
    clear hr
    go_enter Tryz.func46, Tryz.ntmps46
    go_wp2_with (first
      | (go_at_call 31; refine (vnone (H5.out _ (by repeat (first | exact Keeps.refl _ _ | assumption | refine Keeps.drew ?_ | refine Keeps.drewN ?_ _ | refine Keeps.alloc ?_ _ | refine Keeps.setCell ?_ (by simp <;> omega) _ | refine Keeps.trans ?_ (by assumption))))).mono ?_; rintro e w' ⟨rfl, rfl⟩)
      | (go_at_call 32; refine (hC.out _ (by repeat (first | exact Keeps.refl _ _ | assumption | refine Keeps.drew ?_ | refine Keeps.drewN ?_ _ | refine Keeps.alloc ?_ _ | refine Keeps.setCell ?_ (by simp <;> omega) _ | refine Keeps.trans ?_ (by assumption)))).mono ?_; rintro e w1 ⟨rfl, hk⟩; obtain ⟨b0, hk⟩ := hk.new1 (by simp); obtain ⟨e0, e1, e2, e3⟩ := cells4 b0; have fr := frees b0; have hb0 := Lib.hid b0; clear b0))
    have hx : w.heap.size < w.heap.size → w.heap.size ∈ ([] : List Nat) := fun h => absurd h (by omega)
    have hb1 := blk_setCell (blk_setCell (blk_setCell (blk_setCell hb0.out 0 (.int .i64 0)) 1 (.int .i64 0)) 2 (.int .i64 0)) 3 (.slice none 0 0)
    exact bodyPost_ret (res_ct rfl agg_picture rfl rfl rfl hb1) rfl ⟨by simp, (((hk.setCell (p := ⟨w.heap.size, 0, none⟩) hx (.int .i64 0)).setCell (p := ⟨w.heap.size, 1, none⟩) hx (.int .i64 0)).setCell (p := ⟨w.heap.size, 2, none⟩) hx (.int .i64 0)).setCell (p := ⟨w.heap.size, 3, none⟩) hx (.slice none 0 0)⟩
  · rw [if_neg hb] at hr ⊢
    have hb0 : (b == 0) = false := by simpa using hb
    clear hr hb
    go_enter Tryz.func46, Tryz.ntmps46
    go_wp2_with (first
      | (go_at_call 31; refine (vnone (H5.out _ (by repeat (first | exact Keeps.refl _ _ | assumption | refine Keeps.drew ?_ | refine Keeps.drewN ?_ _ | refine Keeps.alloc ?_ _ | refine Keeps.setCell ?_ (by simp <;> omega) _ | refine Keeps.trans ?_ (by assumption))))).mono ?_; rintro e w' ⟨rfl, rfl⟩)
      | (go_at_call 32; refine (hC.out _ (by repeat (first | exact Keeps.refl _ _ | assumption | refine Keeps.drew ?_ | refine Keeps.drewN ?_ _ | refine Keeps.alloc ?_ _ | refine Keeps.setCell ?_ (by simp <;> omega) _ | refine Keeps.trans ?_ (by assumption)))).mono ?_; rintro e w1 ⟨rfl, hk⟩; obtain ⟨b0, hk⟩ := hk.new1 (by simp); obtain ⟨e0, e1, e2, e3⟩ := cells4 b0; have fr := frees b0; have hb0 := Lib.hid b0; clear b0))
    have hx : w.heap.size < w.heap.size → w.heap.size ∈ ([] : List Nat) := fun h => absurd h (by omega)
    have hb1 := blk_setCell (blk_setCell (blk_setCell (blk_setCell hb0.out 0 (.int .i64 0)) 1 (.int .i64 0)) 2 (.int .i64 0)) 3 (.slice none 0 0)
    exact bodyPost_ret (res_ct rfl agg_picture rfl rfl rfl hb1) rfl ⟨by simp, (((hk.setCell (p := ⟨w.heap.size, 0, none⟩) hx (.int .i64 0)).setCell (p := ⟨w.heap.size, 1, none⟩) hx (.int .i64 0)).setCell (p := ⟨w.heap.size, 2, none⟩) hx (.int .i64 0)).setCell (p := ⟨w.heap.size, 3, none⟩) hx (.slice none 0 0)⟩

set_option maxRecDepth 100000 in
set_option maxHeartbeats 1000000 in
theorem vask_pic_yes {P : SrvP} {c : Cf} {last : Int} {l : List (Int × Int)} {L : List Sess} {w : World} (h : SrvAt w P c last l L) (hc : c.ok) (hO : VOk last l L) {z : Sess} (hz : z ∈ L)
    (gf : Nat) (cap : Array Value) (eg : Enters Tryz.prog gf) (R : World → Prop) (hR : OldOnly w R) (err : Int)
    (hwhat : ∀ w1, Keeps [] w w1 → Calls Tryz.prog gf (#[.pointer (some ⟨z.k, 0, none⟩)] ++ cap) w1 fun en w' => en = .returned (.tuple #[noPic, .int .i64 err]) ∧ Keeps [P.tb, P.cb, z.x, z.o] w1 w' ∧ R w') :
    Calls Tryz.prog 46 #[.pointer (some ⟨P.s, 0, none⟩), .int .i64 z.id, .func (.func gf) #[] cap] w fun en w' => en = .returned (.tuple #[noPic, .int .i64 err]) ∧ R w' := by
  have hC : Hid (∀ w', Keeps [] w w' → _) := Lib.hid fun w' (k : Keeps [] w w') => cause_any (h.on k).tbl (by have := hc.s.1; omega) z.id
  rw [causeOf_live hO.rise (hO.mem hz)] at hC
  have H5 : Hid (∀ w', Keeps [] w w' → _) := Lib.hid fun w' (k : Keeps [] w w') => (h.on k).c.2.2.2.2.1
  have c5 := h.c.2.2.2.2.1
  have hlt := h.under.1
  have hn := (h.sess z hz).1.ne
  have hhi := h.under.2 z hz
  have HW := Lib.hid hwhat
  have H := Lib.hid h
  have HL := Lib.hid (look_cl hO.nodup hz)
  have HR := Lib.hid hR
  have eg' : ∀ args w, (callFunc gf args).run Tryz.prog w = .ok (.enter gf args) w := eg
  clear h hc hO hwhat hR
  go_enter Tryz.func46, Tryz.ntmps46
  go_wp2_with (first
    | (go_at_call 31; refine (vnone (H5.out _ (by repeat (first | exact Keeps.refl _ _ | assumption | refine Keeps.drew ?_ | refine Keeps.drewN ?_ _ | refine Keeps.alloc ?_ _ | refine Keeps.setCell ?_ (by simp <;> omega) _ | refine Keeps.trans ?_ (by assumption))))).mono ?_; rintro e w' ⟨rfl, rfl⟩)
    | (go_at_call 32; refine (hC.out _ (by repeat (first | exact Keeps.refl _ _ | assumption | refine Keeps.drew ?_ | refine Keeps.drewN ?_ _ | refine Keeps.alloc ?_ _ | refine Keeps.setCell ?_ (by simp <;> omega) _ | refine Keeps.trans ?_ (by assumption)))).mono ?_; rintro e w1 ⟨rfl, hk⟩; obtain ⟨b0, hk⟩ := hk.new1 (by simp)
       have hb := hk.blk H.out.blk (by simp)
       have d7 : w1.cell? ⟨P.s, 7, none⟩ = some (.map (some P.cb)) := cellOf hb 7 rfl
       have hlk := (run_lookup_yes (P := Tryz.prog) Tryz.underlying47 Tryz.underlying3 (H.out.cl.keep hk (by simp)) HL.out).1))
  refine (HW.out _ hk).mono ?_
  rintro e2 w2 ⟨rfl, hk2, hR2⟩
  have b1 := hk2.blk b0 (by simp; omega)
  obtain ⟨e0, e1, e2, e3⟩ := cells4 b1
  have fr := frees b1
  have hb1 := Lib.hid b1
  clear b1 b0 hb
  go_wp2
  have hb2 := blk_setCell (blk_setCell (blk_setCell (blk_setCell hb1.out 0 (.int .i64 0)) 1 (.int .i64 0)) 2 (.int .i64 0)) 3 (.slice none 0 0)
  exact bodyPost_ret (res_ct rfl agg_picture rfl rfl rfl hb2) rfl ⟨by simp, HR.out.store4 hR2 (Nat.le_refl _) _ _ _ _⟩

end Go.Proofs.YtkhokdikabopfaaGreatDoor
