/-
  The model in memory, and what asking it does.
-/
import Derived.Test.YthjghcfnopancaaGreatGb
import Derived.RangeFuncOwn
namespace Go.Proofs.YthjghcfnopancaaGreat
open Go.RowKit Go.Shelf Go.Maps

/-- A configuration. -/
structure Cf where
  (sessions frames quota room slots : Int)
/-- A status. -/
structure St where
  (cause queued left free frames pictures gone : Int)
  deriving DecidableEq
/-- What is known of a live number. -/
structure Kn where
  came : Int
  ended : Bool
  s : St
def St.cells (s : St) : List Value := [.int .i64 s.cause, .int .i64 s.queued, .int .i64 s.left, .int .i64 s.free, .int .i64 s.frames, .int .i64 s.pictures, .int .i64 s.gone]
def Kn.cells (k : Kn) : List Value := [.int .i64 k.came, .bool k.ended, .int .i64 k.s.cause, .int .i64 k.s.queued, .int .i64 k.s.left, .int .i64 k.s.free, .int .i64 k.s.frames, .int .i64 k.s.pictures, .int .i64 k.s.gone]
abbrev Kn.val (k : Kn) : Value := .agg #[.int .i64 k.came, .bool k.ended, .int .i64 k.s.cause, .int .i64 k.s.queued, .int .i64 k.s.left, .int .i64 k.s.free, .int .i64 k.s.frames, .int .i64 k.s.pictures, .int .i64 k.s.gone]
abbrev St.val (s : St) : Value := .agg #[.int .i64 s.cause, .int .i64 s.queued, .int .i64 s.left, .int .i64 s.free, .int .i64 s.frames, .int .i64 s.pictures, .int .i64 s.gone]

/-- A model's state. -/
structure MS where
  c : Cf
  last : Int
  l : List (Int × Int)
  live : List (Int × Kn)
def lmap (l : List (Int × Kn)) : List (Int × Value) := l.map fun p => (p.1, p.2.val)

structure ModelAt (w : World) (m t tb lb : Nat) (S : MS) : Prop where
  blk : w.heap[m]? = some (.cells #[.int .i64 S.c.sessions, .int .i64 S.c.frames, .int .i64 S.c.quota, .int .i64 S.c.room, .int .i64 S.c.slots, .pointer (some ⟨t, 0, none⟩), .map (some lb)] 56 (0, 0))
  tbl : TblAt w t tb S.c.sessions S.last S.l
  live : IMap w lb (lmap S.live)
  ne : tb ≠ lb

theorem ModelAt.keep {l : List Nat} {w w' : World} {m t tb lb : Nat} {S : MS} (h : ModelAt w m t tb lb S) (k : Keeps l w w') (h1 : m ∉ l) (h2 : t ∉ l) (h3 : tb ∉ l) (h4 : lb ∉ l) : ModelAt w' m t tb lb S :=
  ⟨k.blk h.blk h1, ⟨k.blk h.tbl.blk h2, h.tbl.map.keep k h3⟩, h.live.keep k h4, h.ne⟩
theorem TblAt.keep {l : List Nat} {w w' : World} {t tb : Nat} {most last : Int} {x : List (Int × Int)} (h : TblAt w t tb most last x) (k : Keeps l w w') (h2 : t ∉ l) (h3 : tb ∉ l) : TblAt w' t tb most last x :=
  ⟨k.blk h.blk h2, h.map.keep k h3⟩

theorem map_ne {w : World} {b c : Nat} {cs : Array Value} {T : TypeId} {z : Nat × Nat} {l : List (Int × Value)} (h : w.heap[b]? = some (.cells cs T z)) (h2 : IMap w c l) : b ≠ c := by
  obtain ⟨es, clock, hb, -⟩ := h2.ex
  intro e; subst e; rw [h] at hb; cases hb

set_option maxHeartbeats 400000 in
theorem within_any (n lo hi : Int) (w : World) :
    Calls Tryz.prog 16 #[.int .i64 n, .int .i64 lo, .int .i64 hi] w fun e w' => e = .returned (.bool (decide (lo ≤ n ∧ n ≤ hi))) ∧ w = w' := by
  by_cases h1 : lo ≤ n
  · go_enter Tryz.func16, Tryz.ntmps16
    go_wp2
    go_ret
    simp [h1]
  · go_enter Tryz.func16, Tryz.ntmps16
    go_wp2
    go_ret
    refine ⟨?_, rfl⟩
    congr 2
    simp; omega

set_option maxHeartbeats 400000 in
theorem mnone_nil (w : World) : Calls Tryz.prog 39 #[.pointer none] w fun e w' => e = .returned (.bool true) ∧ w = w' := by
  go_enter Tryz.func39, Tryz.ntmps39
  go_wp2
  go_ret
  simp

set_option maxHeartbeats 400000 in
theorem mnone_empty (m : Nat) (w : World) (hc : w.cell? ⟨m, 5, none⟩ = some (.pointer none)) :
    Calls Tryz.prog 39 #[.pointer (some ⟨m, 0, none⟩)] w fun e w' => e = .returned (.bool true) ∧ w = w' := by
  go_enter Tryz.func39, Tryz.ntmps39
  go_wp2
  go_ret
  simp

set_option maxHeartbeats 400000 in
theorem mnone_made (m t : Nat) (w : World) (hc : w.cell? ⟨m, 5, none⟩ = some (.pointer (some ⟨t, 0, none⟩))) :
    Calls Tryz.prog 39 #[.pointer (some ⟨m, 0, none⟩)] w fun e w' => e = .returned (.bool false) ∧ w = w' := by
  go_enter Tryz.func39, Tryz.ntmps39
  go_wp2
  go_ret
  simp

theorem mnone_at {m t tb lb : Nat} {S : MS} {w : World} (h : ModelAt w m t tb lb S) : Calls Tryz.prog 39 #[.pointer (some ⟨m, 0, none⟩)] w fun e w' => e = .returned (.bool false) ∧ w = w' :=
  mnone_made m t w (cellOf h.blk 5 rfl)

theorem agg_status : Agg Tryz.prog 35 7 := ⟨fun _ => by kernel_rfl, fun _ => by kernel_rfl⟩
theorem agg_known : Agg Tryz.prog 72 9 := ⟨fun _ => by kernel_rfl, fun _ => by kernel_rfl⟩
theorem zero_known (w : World) : (zeroValue 72).run Tryz.prog w = .ok (.agg #[.int .i64 0, .bool false, .int .i64 0, .int .i64 0, .int .i64 0, .int .i64 0, .int .i64 0, .int .i64 0, .int .i64 0]) w := by kernel_rfl

/-- Why nothing is asked of a number; 0: it is live. -/
def refusal (l : List (Int × Int)) (id : Int) : Int := if (causeOf l id).2 = 0 then (causeOf l id).1 else (causeOf l id).2

set_option maxHeartbeats 400000 in
theorem askint_refused {m t tb lb : Nat} {S : MS} {w : World} (h : ModelAt w m t tb lb S) (h1 : 1 ≤ S.c.sessions) (id : Int) (x0 : Int) (what : Value) (hr : refusal S.l id ≠ 0) :
    Calls Tryz.prog 43 #[.pointer (some ⟨m, 0, none⟩), .int .i64 id, .int .i64 x0, what] w fun e w' => e = .returned (.tuple #[.int .i64 x0, .int .i64 (refusal S.l id)]) ∧ Keeps [] w w' := by
  have c5 : w.cell? ⟨m, 5, none⟩ = some (.pointer (some ⟨t, 0, none⟩)) := cellOf h.blk 5 rfl
  have hC := cause_any h.tbl h1 id
  unfold refusal at hr ⊢
  generalize causeOf S.l id = ce at hC hr ⊢
  obtain ⟨c, e⟩ := ce
  simp only at hC hr ⊢
  clear h
  by_cases he : e = 0
  · subst he
    simp only [if_true] at hr ⊢
    have hc0 : (c == 0) = false := by simpa using hr
    clear hr
    go_enter Tryz.func43, Tryz.ntmps43
    go_wp2_with (first
      | (go_at_call 39; refine (mnone_made _ t _ c5).mono ?_; rintro e w' ⟨rfl, rfl⟩)
      | (go_at_call 40; refine hC.mono ?_; clear hC; rintro e w1 ⟨rfl, hk⟩))
    go_ret2
    exact ⟨rfl, hk⟩
  · rw [if_neg he]
    have he0 : (e == 0) = false := by simpa using he
    clear hr he
    go_enter Tryz.func43, Tryz.ntmps43
    go_wp2_with (first
      | (go_at_call 39; refine (mnone_made _ t _ c5).mono ?_; rintro e w' ⟨rfl, rfl⟩)
      | (go_at_call 40; refine hC.mono ?_; clear hC; rintro e w1 ⟨rfl, hk⟩))
    go_ret2
    exact ⟨rfl, hk⟩

set_option maxHeartbeats 400000 in
theorem askst_refused {m t tb lb : Nat} {S : MS} {w : World} (h : ModelAt w m t tb lb S) (h1 : 1 ≤ S.c.sessions) (id : Int) (s0 : St) (what : Value) (hr : refusal S.l id ≠ 0) :
    Calls Tryz.prog 46 #[.pointer (some ⟨m, 0, none⟩), .int .i64 id, s0.val, what] w fun e w' => e = .returned (.tuple #[s0.val, .int .i64 (refusal S.l id)]) ∧ Keeps [] w w' := by
  obtain ⟨q0, q1, q2, q3, q4, q5, q6⟩ := s0
  have HM : Hid (∀ w', Keeps [] w w' → ModelAt w' m t tb lb S) := Lib.hid fun w' hk => h.keep hk (by simp) (by simp) (by simp) (by simp)
  have hC : Hid (∀ w', Keeps [] w w' → _) := Lib.hid fun w' (hk : Keeps [] w w') => cause_any (HM.out w' hk).tbl h1 id
  have c5 : w.cell? ⟨m, 5, none⟩ = some (.pointer (some ⟨t, 0, none⟩)) := cellOf h.blk 5 rfl
  have hlt := ltOf h.blk
  unfold refusal at hr ⊢
  generalize causeOf S.l id = ce at hC hr ⊢
  obtain ⟨c, e⟩ := ce
  simp only at hC hr ⊢
  clear h
  by_cases he : e = 0
  · subst he
    simp only [if_true] at hr ⊢
    have hc0 : (c == 0) = false := by simpa using hr
    clear hr
    go_enter Tryz.func46, Tryz.ntmps46
    go_wp2_with (first
      | (go_at_call 39; refine (mnone_at (HM.out _ (by repeat (first | exact Keeps.refl _ _ | assumption | refine Keeps.drew ?_ | refine Keeps.drewN ?_ _ | refine Keeps.alloc ?_ _ | refine Keeps.setCell ?_ (by simp <;> omega) _ | refine Keeps.trans ?_ (by assumption))))).mono ?_; rintro e w' ⟨rfl, rfl⟩)
      | (go_at_call 40; refine (hC.out _ (by repeat (first | exact Keeps.refl _ _ | assumption | refine Keeps.drew ?_ | refine Keeps.drewN ?_ _ | refine Keeps.alloc ?_ _ | refine Keeps.setCell ?_ (by simp <;> omega) _ | refine Keeps.trans ?_ (by assumption)))).mono ?_; clear hC; rintro e w1 ⟨rfl, hk⟩
         obtain ⟨b0, b1, hk⟩ := hk.new2 (by simp) (by simp)
         obtain ⟨p0, p1, p2, p3, p4, p5, p6⟩ := cells7 b0
         obtain ⟨r0, r1, r2, r3, r4, r5, r6⟩ := cells7 b1
         have fr := frees b1
         have hb1 := Lib.hid b1
         clear b0 b1))
    exact bodyPost_ret (res_ct rfl agg_status rfl rfl rfl (stored7 hb1.out)) rfl ⟨rfl, hk.store7 (fun h => by omega)⟩
  · rw [if_neg he]
    have he0 : (e == 0) = false := by simpa using he
    clear hr he
    go_enter Tryz.func46, Tryz.ntmps46
    go_wp2_with (first
      | (go_at_call 39; refine (mnone_at (HM.out _ (by repeat (first | exact Keeps.refl _ _ | assumption | refine Keeps.drew ?_ | refine Keeps.drewN ?_ _ | refine Keeps.alloc ?_ _ | refine Keeps.setCell ?_ (by simp <;> omega) _ | refine Keeps.trans ?_ (by assumption))))).mono ?_; rintro e w' ⟨rfl, rfl⟩)
      | (go_at_call 40; refine (hC.out _ (by repeat (first | exact Keeps.refl _ _ | assumption | refine Keeps.drew ?_ | refine Keeps.drewN ?_ _ | refine Keeps.alloc ?_ _ | refine Keeps.setCell ?_ (by simp <;> omega) _ | refine Keeps.trans ?_ (by assumption)))).mono ?_; clear hC; rintro e w1 ⟨rfl, hk⟩
         obtain ⟨b0, b1, hk⟩ := hk.new2 (by simp) (by simp)
         obtain ⟨p0, p1, p2, p3, p4, p5, p6⟩ := cells7 b0
         obtain ⟨r0, r1, r2, r3, r4, r5, r6⟩ := cells7 b1
         have fr := frees b1
         have hb1 := Lib.hid b1
         clear b0 b1))
    exact bodyPost_ret (res_ct rfl agg_status rfl rfl rfl (stored7 hb1.out)) rfl ⟨rfl, hk.store7 (fun h => by omega)⟩

theorem look_lmap {l : List (Int × Kn)} (hn : (l.map (·.1)).Nodup) {id : Int} {k : Kn} (hk : (id, k) ∈ l) : look (lmap l) id = some k.val := by
  induction l with
  | nil => cases hk
  | cons p t ih =>
    obtain ⟨a, x⟩ := p
    simp only [List.map_cons, List.nodup_cons] at hn
    simp only [List.mem_cons, Prod.mk.injEq] at hk
    rcases hk with ⟨rfl, rfl⟩ | hk
    · simp [lmap, look]
    · have : ¬ id = a := fun e => hn.1 (List.mem_map.2 ⟨(id, k), hk, e⟩)
      have := ih hn.2 hk
      simp only [lmap] at this
      simp [lmap, look, *]

set_option maxRecDepth 100000 in
set_option maxHeartbeats 1000000 in
theorem askint_no {m t tb lb : Nat} {S : MS} {w : World} (h : ModelAt w m t tb lb S) (h1 : 1 ≤ S.c.sessions) (id : Int) (x0 : Int) (k : Kn) (hn : (S.live.map (·.1)).Nodup) (hk : (id, k) ∈ S.live) (hc : causeOf S.l id = (0, 0))
    (gf : Nat) (cap : Array Value) (eg : Enters Tryz.prog gf) (k' : Kn) (y : Int) (e : Int) (he : e ≠ 0)
    (hwhat : ∀ w1, Keeps [] w w1 → Calls Tryz.prog gf (#[k.val] ++ cap) w1 fun en w' => en = .returned (.tuple #[k'.val, .int .i64 y, .int .i64 e]) ∧ Keeps [] w1 w') :
    Calls Tryz.prog 43 #[.pointer (some ⟨m, 0, none⟩), .int .i64 id, .int .i64 x0, .func (.func gf) #[] cap] w fun en w' => en = .returned (.tuple #[.int .i64 x0, .int .i64 e]) ∧ Keeps [] w w' := by
  have he0 : (e == 0) = false := by simpa using he
  have HM : Hid (∀ w', Keeps [] w w' → ModelAt w' m t tb lb S) := Lib.hid fun w' hk => h.keep hk (by simp) (by simp) (by simp) (by simp)
  have HW := Lib.hid hwhat
  have c5 : w.cell? ⟨m, 5, none⟩ = some (.pointer (some ⟨t, 0, none⟩)) := cellOf h.blk 5 rfl
  have hlt := ltOf h.blk
  have hC : Hid (∀ w', Keeps [] w w' → _) := Lib.hid fun w' (hk : Keeps [] w w') => cause_any (HM.out w' hk).tbl h1 id
  rw [hc] at hC
  have Hl := Lib.hid (look_lmap hn hk)
  have eg' : ∀ args w, (callFunc gf args).run Tryz.prog w = .ok (.enter gf args) w := eg
  clear h hwhat hc hk hn he eg
  go_enter Tryz.func43, Tryz.ntmps43
  go_wp2_with (first
    | (go_at_call 39; refine (mnone_at (HM.out _ (by repeat (first | exact Keeps.refl _ _ | assumption | refine Keeps.drew ?_ | refine Keeps.drewN ?_ _ | refine Keeps.alloc ?_ _ | refine Keeps.setCell ?_ (by simp <;> omega) _ | refine Keeps.trans ?_ (by assumption))))).mono ?_; rintro e w' ⟨rfl, rfl⟩)
    | (go_at_call 40; refine (hC.out _ (by repeat (first | exact Keeps.refl _ _ | assumption | refine Keeps.drew ?_ | refine Keeps.drewN ?_ _ | refine Keeps.alloc ?_ _ | refine Keeps.setCell ?_ (by simp <;> omega) _ | refine Keeps.trans ?_ (by assumption)))).mono ?_; clear hC; rintro e w1 ⟨rfl, hk⟩
       have hk1 : Keeps [] w w1 := (by repeat (first | exact Keeps.refl _ _ | assumption | refine Keeps.drew ?_ | refine Keeps.drewN ?_ _ | refine Keeps.alloc ?_ _ | refine Keeps.setCell ?_ (by simp <;> omega) _ | refine Keeps.trans ?_ (by assumption)))
       have k6 : w1.cell? ⟨m, 6, none⟩ = some (.map (some lb)) := cellOf (HM.out _ hk1).blk 6 rfl
       have hlk := (run_lookup_yes (P := Tryz.prog) Tryz.underlying54 Tryz.underlying3 (HM.out _ hk1).live Hl.out).1))
  refine (HW.out _ hk1).mono ?_
  rintro e2 w2 ⟨rfl, hk2⟩
  go_wp2
  go_ret2
  exact ⟨rfl, (by repeat (first | exact Keeps.refl _ _ | assumption | refine Keeps.drew ?_ | refine Keeps.drewN ?_ _ | refine Keeps.alloc ?_ _ | refine Keeps.setCell ?_ (by simp <;> omega) _ | refine Keeps.trans ?_ (by assumption)))⟩

set_option maxRecDepth 100000 in
set_option maxHeartbeats 1000000 in
theorem askint_yes {m t tb lb : Nat} {S : MS} {w : World} (h : ModelAt w m t tb lb S) (h1 : 1 ≤ S.c.sessions) (id : Int) (x0 : Int) (k : Kn) (hn : (S.live.map (·.1)).Nodup) (hk : (id, k) ∈ S.live) (hc : causeOf S.l id = (0, 0))
    (gf : Nat) (cap : Array Value) (eg : Enters Tryz.prog gf) (k' : Kn) (y : Int)
    (hwhat : ∀ w1, Keeps [] w w1 → Calls Tryz.prog gf (#[k.val] ++ cap) w1 fun en w' => en = .returned (.tuple #[k'.val, .int .i64 y, .int .i64 0]) ∧ Keeps [] w1 w') :
    Calls Tryz.prog 43 #[.pointer (some ⟨m, 0, none⟩), .int .i64 id, .int .i64 x0, .func (.func gf) #[] cap] w fun en w' => en = .returned (.tuple #[.int .i64 y, .int .i64 0]) ∧ Keeps [lb] w w' ∧ IMap w' lb (put (lmap S.live) id k'.val) := by
  have HM : Hid (∀ w', Keeps [] w w' → ModelAt w' m t tb lb S) := Lib.hid fun w' hk => h.keep hk (by simp) (by simp) (by simp) (by simp)
  have HW := Lib.hid hwhat
  have c5 : w.cell? ⟨m, 5, none⟩ = some (.pointer (some ⟨t, 0, none⟩)) := cellOf h.blk 5 rfl
  have hlt := ltOf h.blk
  have hC : Hid (∀ w', Keeps [] w w' → _) := Lib.hid fun w' (hk : Keeps [] w w') => cause_any (HM.out w' hk).tbl h1 id
  rw [hc] at hC
  have Hl := Lib.hid (look_lmap hn hk)
  have eg' : ∀ args w, (callFunc gf args).run Tryz.prog w = .ok (.enter gf args) w := eg
  clear h hwhat hc hk hn eg
  go_enter Tryz.func43, Tryz.ntmps43
  go_wp2_with (first
    | (go_at_call 39; refine (mnone_at (HM.out _ (by repeat (first | exact Keeps.refl _ _ | assumption | refine Keeps.drew ?_ | refine Keeps.drewN ?_ _ | refine Keeps.alloc ?_ _ | refine Keeps.setCell ?_ (by simp <;> omega) _ | refine Keeps.trans ?_ (by assumption))))).mono ?_; rintro e w' ⟨rfl, rfl⟩)
    | (go_at_call 40; refine (hC.out _ (by repeat (first | exact Keeps.refl _ _ | assumption | refine Keeps.drew ?_ | refine Keeps.drewN ?_ _ | refine Keeps.alloc ?_ _ | refine Keeps.setCell ?_ (by simp <;> omega) _ | refine Keeps.trans ?_ (by assumption)))).mono ?_; clear hC; rintro e w1 ⟨rfl, hk⟩
       have hk1 : Keeps [] w w1 := (by repeat (first | exact Keeps.refl _ _ | assumption | refine Keeps.drew ?_ | refine Keeps.drewN ?_ _ | refine Keeps.alloc ?_ _ | refine Keeps.setCell ?_ (by simp <;> omega) _ | refine Keeps.trans ?_ (by assumption)))
       have k6 : w1.cell? ⟨m, 6, none⟩ = some (.map (some lb)) := cellOf (HM.out _ hk1).blk 6 rfl
       have hlk := (run_lookup_yes (P := Tryz.prog) Tryz.underlying54 Tryz.underlying3 (HM.out _ hk1).live Hl.out).1))
  refine (HW.out _ hk1).mono ?_
  rintro e2 w2 ⟨rfl, hk2⟩
  have hk3 : Keeps [] w w2 := (by repeat (first | exact Keeps.refl _ _ | assumption | refine Keeps.drew ?_ | refine Keeps.drewN ?_ _ | refine Keeps.alloc ?_ _ | refine Keeps.setCell ?_ (by simp <;> omega) _ | refine Keeps.trans ?_ (by assumption)))
  have m6 : w2.cell? ⟨m, 6, none⟩ = some (.map (some lb)) := cellOf (HM.out _ hk3).blk 6 rfl
  have hm2 := ltOf (HM.out _ hk3).blk
  have hI := ((HM.out _ hk3).live.alloc (.cells k'.cells.toArray 72)).drew
  obtain ⟨w3, hrun, hM3, hk4⟩ := run_update (P := Tryz.prog) Tryz.underlying54 Tryz.underlying3 hI id k'.val
  simp only [Kn.cells] at hrun hk4
  have HI := Lib.hid hM3
  clear hI hM3 hlk k6
  go_wp2
  go_region
  go_wp2
  go_ret2
  exact ⟨rfl, (hk3.mono (by simp)).trans (((Keeps.refl _ _).alloc _).drew.trans hk4), HI.out⟩

end Go.Proofs.YthjghcfnopancaaGreat

/-
  Asking a model something that answers a status.
-/
namespace Go.Proofs.YthjghcfnopancaaGreat
open Go.RowKit Go.Shelf Go.Maps

set_option maxRecDepth 100000 in
set_option maxHeartbeats 1000000 in
theorem askst_no {m t tb lb : Nat} {S : MS} {w : World} (h : ModelAt w m t tb lb S) (h1 : 1 ≤ S.c.sessions) (id : Int) (s0 : St) (k : Kn) (hn : (S.live.map (·.1)).Nodup) (hk : (id, k) ∈ S.live) (hc : causeOf S.l id = (0, 0))
    (gf : Nat) (cap : Array Value) (eg : Enters Tryz.prog gf) (k' : Kn) (y : St) (e : Int) (he : e ≠ 0)
    (hwhat : ∀ w1, Keeps [] w w1 → Calls Tryz.prog gf (#[k.val] ++ cap) w1 fun en w' => en = .returned (.tuple #[k'.val, y.val, .int .i64 e]) ∧ Keeps [] w1 w') :
    Calls Tryz.prog 46 #[.pointer (some ⟨m, 0, none⟩), .int .i64 id, s0.val, .func (.func gf) #[] cap] w fun en w' => en = .returned (.tuple #[s0.val, .int .i64 e]) ∧ Keeps [] w w' := by
  have he0 : (e == 0) = false := by simpa using he
  obtain ⟨q0, q1, q2, q3, q4, q5, q6⟩ := s0
  have h5 := h.live.lt
  have HM : Hid (∀ w', Keeps [] w w' → ModelAt w' m t tb lb S) := Lib.hid fun w' hk => h.keep hk (by simp) (by simp) (by simp) (by simp)
  have HW := Lib.hid hwhat
  have c5 : w.cell? ⟨m, 5, none⟩ = some (.pointer (some ⟨t, 0, none⟩)) := cellOf h.blk 5 rfl
  have hlt := ltOf h.blk
  have hC : Hid (∀ w', Keeps [] w w' → _) := Lib.hid fun w' (hk : Keeps [] w w') => cause_any (HM.out w' hk).tbl h1 id
  rw [hc] at hC
  have Hl := Lib.hid (look_lmap hn hk)
  have eg' : ∀ args w, (callFunc gf args).run Tryz.prog w = .ok (.enter gf args) w := eg
  clear h hwhat hc hk hn he eg
  go_enter Tryz.func46, Tryz.ntmps46
  go_wp2_with (first
    | (go_at_call 39; refine (mnone_at (HM.out _ (by repeat (first | exact Keeps.refl _ _ | assumption | refine Keeps.drew ?_ | refine Keeps.drewN ?_ _ | refine Keeps.alloc ?_ _ | refine Keeps.setCell ?_ (by simp <;> omega) _ | refine Keeps.trans ?_ (by assumption))))).mono ?_; rintro e w' ⟨rfl, rfl⟩)
    | (go_at_call 40; refine (hC.out _ (by repeat (first | exact Keeps.refl _ _ | assumption | refine Keeps.drew ?_ | refine Keeps.drewN ?_ _ | refine Keeps.alloc ?_ _ | refine Keeps.setCell ?_ (by simp <;> omega) _ | refine Keeps.trans ?_ (by assumption)))).mono ?_; clear hC; rintro e w1 ⟨rfl, hk⟩
       obtain ⟨b0, b1, hk⟩ := hk.new2 (by simp) (by simp)
       have hb0 := Lib.hid b0
       have hb1 := Lib.hid b1
       clear b0 b1
       have hk1 : Keeps [] w w1 := (by repeat (first | exact Keeps.refl _ _ | assumption | refine Keeps.drew ?_ | refine Keeps.drewN ?_ _ | refine Keeps.alloc ?_ _ | refine Keeps.setCell ?_ (by simp <;> omega) _ | refine Keeps.trans ?_ (by assumption)))
       have k6 : w1.cell? ⟨m, 6, none⟩ = some (.map (some lb)) := cellOf (HM.out _ hk1).blk 6 rfl
       have hlk := (run_lookup_yes (P := Tryz.prog) Tryz.underlying54 Tryz.underlying3 (HM.out _ hk1).live Hl.out).1))
  refine (HW.out _ hk1).mono ?_
  rintro e2 w2 ⟨rfl, hk2⟩
  obtain ⟨p0, p1, p2, p3, p4, p5, p6⟩ := cells7 (hk2.blk hb0.out (by simp))
  have hb2 := Lib.hid (hk2.blk hb1.out (by simp))
  obtain ⟨r0, r1, r2, r3, r4, r5, r6⟩ := cells7 hb2.out
  have fr := frees hb2.out
  have hlr := ltOf hb2.out
  have hlr0 := ltOf (hk2.blk hb0.out (by simp))
  go_wp2
  exact bodyPost_ret (res_ct rfl agg_status rfl rfl rfl ((((Keeps.refl [] _).alloc _).alloc _).blk (stored7 hb2.out) (by simp))) rfl ⟨rfl, ((((hk1.trans hk2).store7 (fun h => by omega)).alloc _).alloc _)⟩

set_option maxRecDepth 100000 in
set_option maxHeartbeats 1000000 in
theorem askst_yes {m t tb lb : Nat} {S : MS} {w : World} (h : ModelAt w m t tb lb S) (h1 : 1 ≤ S.c.sessions) (id : Int) (s0 : St) (k : Kn) (hn : (S.live.map (·.1)).Nodup) (hk : (id, k) ∈ S.live) (hc : causeOf S.l id = (0, 0))
    (gf : Nat) (cap : Array Value) (eg : Enters Tryz.prog gf) (k' : Kn) (y : St)
    (hwhat : ∀ w1, Keeps [] w w1 → Calls Tryz.prog gf (#[k.val] ++ cap) w1 fun en w' => en = .returned (.tuple #[k'.val, y.val, .int .i64 0]) ∧ Keeps [] w1 w') :
    Calls Tryz.prog 46 #[.pointer (some ⟨m, 0, none⟩), .int .i64 id, s0.val, .func (.func gf) #[] cap] w fun en w' => en = .returned (.tuple #[y.val, .int .i64 0]) ∧ Keeps [lb] w w' ∧ IMap w' lb (put (lmap S.live) id k'.val) := by
  obtain ⟨q0, q1, q2, q3, q4, q5, q6⟩ := s0
  have h5 := h.live.lt
  have HM : Hid (∀ w', Keeps [] w w' → ModelAt w' m t tb lb S) := Lib.hid fun w' hk => h.keep hk (by simp) (by simp) (by simp) (by simp)
  have HW := Lib.hid hwhat
  have c5 : w.cell? ⟨m, 5, none⟩ = some (.pointer (some ⟨t, 0, none⟩)) := cellOf h.blk 5 rfl
  have hlt := ltOf h.blk
  have hC : Hid (∀ w', Keeps [] w w' → _) := Lib.hid fun w' (hk : Keeps [] w w') => cause_any (HM.out w' hk).tbl h1 id
  rw [hc] at hC
  have Hl := Lib.hid (look_lmap hn hk)
  have eg' : ∀ args w, (callFunc gf args).run Tryz.prog w = .ok (.enter gf args) w := eg
  clear h hwhat hc hk hn eg
  go_enter Tryz.func46, Tryz.ntmps46
  go_wp2_with (first
    | (go_at_call 39; refine (mnone_at (HM.out _ (by repeat (first | exact Keeps.refl _ _ | assumption | refine Keeps.drew ?_ | refine Keeps.drewN ?_ _ | refine Keeps.alloc ?_ _ | refine Keeps.setCell ?_ (by simp <;> omega) _ | refine Keeps.trans ?_ (by assumption))))).mono ?_; rintro e w' ⟨rfl, rfl⟩)
    | (go_at_call 40; refine (hC.out _ (by repeat (first | exact Keeps.refl _ _ | assumption | refine Keeps.drew ?_ | refine Keeps.drewN ?_ _ | refine Keeps.alloc ?_ _ | refine Keeps.setCell ?_ (by simp <;> omega) _ | refine Keeps.trans ?_ (by assumption)))).mono ?_; clear hC; rintro e w1 ⟨rfl, hk⟩
       obtain ⟨b0, b1, hk⟩ := hk.new2 (by simp) (by simp)
       have hb0 := Lib.hid b0
       have hb1 := Lib.hid b1
       clear b0 b1
       have hk1 : Keeps [] w w1 := (by repeat (first | exact Keeps.refl _ _ | assumption | refine Keeps.drew ?_ | refine Keeps.drewN ?_ _ | refine Keeps.alloc ?_ _ | refine Keeps.setCell ?_ (by simp <;> omega) _ | refine Keeps.trans ?_ (by assumption)))
       have k6 : w1.cell? ⟨m, 6, none⟩ = some (.map (some lb)) := cellOf (HM.out _ hk1).blk 6 rfl
       have hlk := (run_lookup_yes (P := Tryz.prog) Tryz.underlying54 Tryz.underlying3 (HM.out _ hk1).live Hl.out).1))
  refine (HW.out _ hk1).mono ?_
  rintro e2 w2 ⟨rfl, hk2⟩
  have hk3 : Keeps [] w w2 := (by repeat (first | exact Keeps.refl _ _ | assumption | refine Keeps.drew ?_ | refine Keeps.drewN ?_ _ | refine Keeps.alloc ?_ _ | refine Keeps.setCell ?_ (by simp <;> omega) _ | refine Keeps.trans ?_ (by assumption)))
  have m6 : w2.cell? ⟨m, 6, none⟩ = some (.map (some lb)) := cellOf (HM.out _ hk3).blk 6 rfl
  have hm2 := ltOf (HM.out _ hk3).blk
  have hI := (((HM.out _ hk3).live.alloc (.cells k'.cells.toArray 72)).alloc (.cells y.cells.toArray 35)).drew
  have hb2 := Lib.hid (hk2.blk hb1.out (by simp))
  have hlb : lb < w.heap.size := h5
  obtain ⟨w3, hrun, hM3, hk4⟩ := run_update (P := Tryz.prog) Tryz.underlying54 Tryz.underlying3 hI id k'.val
  simp only [Kn.cells, St.cells] at hrun hk4
  have HI := Lib.hid hM3
  have hb3 := Lib.hid (hk4.blk (((((Keeps.refl [] w2).alloc _).alloc _).drew).blk hb2.out (by simp)) (by simp; omega))
  obtain ⟨r0, r1, r2, r3, r4, r5, r6⟩ := cells7 hb3.out
  have fr := frees hb3.out
  have hs2 := hk3.size
  have hb4 := hk4.blk (b := w2.heap.size + 1) (heap_new_at (w := w2.alloc _) _ (by simp)) (by simp; omega)
  obtain ⟨y0, y1, y2, y3, y4, y5, y6⟩ := cells7 hb4
  clear hI hM3 hlk k6 hb4
  go_wp2
  go_region
  go_wp2
  exact bodyPost_ret (res_ct rfl agg_status rfl rfl rfl (stored7 hb3.out)) rfl ⟨rfl, ((hk3.mono (by simp)).trans ((((Keeps.refl _ _).alloc _).alloc _).drew.trans hk4)).store7 (fun h => by omega),
    HI.out.keep ((Keeps.refl [w.heap.size + 1] w3).store7 (fun _ => by simp)) (by simp; omega)⟩

end Go.Proofs.YthjghcfnopancaaGreat

/-
  A model's state, in plain words: what each call answers, and leaves.
-/
namespace Go.Proofs.YthjghcfnopancaaGreat
open Go.RowKit

/-- A configuration that New takes. -/
structure Cf.ok (c : Cf) : Prop where
  s : 1 ≤ c.sessions ∧ c.sessions ≤ 64
  f : 1 ≤ c.frames ∧ c.frames ≤ 64
  q : 2 ≤ c.quota ∧ c.quota ≤ c.frames
  r : 1024 ≤ c.room ∧ c.room ≤ 1048576
  o : 1 ≤ c.slots ∧ c.slots ≤ 1000

/-- A state that calls can lead to. -/
structure Valid (S : MS) : Prop where
  ok : S.c.ok
  few : ((liveIds S.l).length : Int) ≤ S.c.sessions
  rise : Rising S.l
  last : S.last = S.l.length
  lim : S.l.length ≤ 1000
  bound : ∀ p ∈ S.l, 1 ≤ p.1 ∧ p.1 ≤ S.last
  live : S.live.map (·.1) = liveIds S.l

theorem Valid.s1 {S : MS} (h : Valid S) : 1 ≤ S.c.sessions := h.ok.s.1
theorem Valid.s2 {S : MS} (h : Valid S) : S.c.sessions ≤ 64 := h.ok.s.2

theorem Valid.nodup {S : MS} (h : Valid S) : (S.live.map (·.1)).Nodup := by
  rw [h.live]; unfold liveIds
  exact (h.rise.lt.imp (fun h => Int.ne_of_lt h)).sublist (List.Sublist.map _ List.filter_sublist)

theorem causeOf_of_mem {l : List (Int × Int)} (hn : (l.map (·.1)).Nodup) {id c : Int} (h : (id, c) ∈ l) : causeOf l id = (c, 0) := by
  unfold causeOf
  cases hq : l.find? (fun p => p.1 == id) with
  | none => have := List.find?_eq_none.1 hq _ h; simp at this
  | some q =>
    have hq1 := List.mem_of_find?_eq_some hq
    have hq2 : q.1 = id := by simpa using List.find?_some hq
    rw [nodup_fst hn hq1 h hq2]

/-- A number is refused, or it is live and known. -/
theorem Valid.cases {S : MS} (h : Valid S) (id : Int) : refusal S.l id ≠ 0 ∨ (refusal S.l id = 0 ∧ ∃ k, (id, k) ∈ S.live ∧ (id, 0) ∈ S.l ∧ causeOf S.l id = (0, 0)) := by
  by_cases hr : refusal S.l id = 0
  · right
    refine ⟨hr, ?_⟩
    unfold refusal at hr
    cases hq : S.l.find? (fun p => p.1 == id) with
    | none => simp [causeOf, hq] at hr
    | some q =>
      have hq1 := List.mem_of_find?_eq_some hq
      have hq2 : q.1 = id := by simpa using List.find?_some hq
      simp [causeOf, hq] at hr
      have hq3 : (id, 0) ∈ S.l := by
        have : q = (id, 0) := by rw [← hq2, ← hr]
        rw [← this]; exact hq1
      have hm : id ∈ S.live.map (·.1) := by
        rw [h.live]; exact List.mem_map.2 ⟨(id, 0), List.mem_filter.2 ⟨hq3, by simp⟩, rfl⟩
      obtain ⟨p, hp, rfl⟩ := List.mem_map.1 hm
      exact ⟨p.2, hp, hq3, causeOf_of_mem h.rise.nodup hq3⟩
  · exact .inl hr

def MS.get (S : MS) (id : Int) : Option Kn := (S.live.find? (fun p => p.1 == id)).map (·.2)
def MS.set (S : MS) (id : Int) (k : Kn) : MS := { S with live := S.live.map fun p => if p.1 = id then (id, k) else p }

theorem MS.get_of {S : MS} (hn : (S.live.map (·.1)).Nodup) {id : Int} {k : Kn} (h : (id, k) ∈ S.live) : S.get id = some k := by
  unfold MS.get
  cases hq : S.live.find? (fun p => p.1 == id) with
  | none => have := List.find?_eq_none.1 hq _ h; simp at this
  | some q =>
    have hq1 := List.mem_of_find?_eq_some hq
    have hq2 : q.1 = id := by simpa using List.find?_some hq
    rw [nodup_fst hn hq1 h hq2]; rfl

theorem map_if_id {α : Type} (id : Int) (k : α) : ∀ t : List (Int × α), id ∉ t.map (·.1) → t.map (fun p => if p.1 = id then (id, k) else p) = t := by
  intro t h
  refine (List.map_congr_left fun p hp => ?_).trans (List.map_id t)
  have : p.1 ≠ id := fun e => h (List.mem_map.2 ⟨p, hp, e⟩)
  simp [this]

theorem put_lmap {id : Int} {k : Kn} : ∀ {l : List (Int × Kn)}, (l.map (·.1)).Nodup → id ∈ l.map (·.1) → put (lmap l) id k.val = lmap (l.map fun p => if p.1 = id then (id, k) else p)
  | (a, x) :: t, hn, h => by
    simp only [List.map_cons, List.nodup_cons] at hn
    by_cases e : id = a
    · subst e
      have := map_if_id id k t hn.1
      simp only [lmap] at this ⊢
      simp [put, this]
    · have e' : ¬ a = id := fun h => e h.symm
      have h2 : id ∈ t.map (·.1) := by simp only [List.map_cons, List.mem_cons] at h; rcases h with h | h; exact absurd h e; exact h
      have := put_lmap (k := k) hn.2 h2
      simp only [lmap] at this ⊢
      simp [put, e, e', this]

theorem del_lmap {id : Int} : ∀ {l : List (Int × Kn)}, (l.map (·.1)).Nodup → del (lmap l) id = lmap (l.filter fun p => p.1 != id)
  | [], _ => rfl
  | (a, x) :: t, hn => by
    simp only [List.map_cons, List.nodup_cons] at hn
    have ih := del_lmap (id := id) hn.2
    by_cases e : id = a
    · subst e
      have h2 : t.filter (fun p => p.1 != id) = t := by
        rw [List.filter_eq_self]
        intro p hp
        have : p.1 ≠ id := fun e => hn.1 (List.mem_map.2 ⟨p, hp, e⟩)
        simpa using this
      simp [lmap, del, h2]
    · have e' : ¬ a = id := fun h => e h.symm
      simp only [lmap] at ih ⊢
      simp [del, e, e', ih]

theorem MS.set_keys (S : MS) (id : Int) (k : Kn) : (S.set id k).live.map (·.1) = S.live.map (·.1) := by
  simp only [MS.set, List.map_map]
  refine List.map_congr_left fun p _ => ?_
  by_cases h : p.1 = id <;> simp [h]

theorem Valid.set {S : MS} (h : Valid S) (id : Int) (k : Kn) : Valid (S.set id k) :=
  ⟨h.ok, h.few, h.rise, h.last, h.lim, h.bound, by rw [MS.set_keys]; exact h.live⟩

/-- A number is over. -/
def MS.over (S : MS) (id c : Int) : MS := { S with l := ended S.l id c, live := S.live.filter fun p => p.1 != id }

theorem ended_keys (l : List (Int × Int)) (id c : Int) : (ended l id c).map (·.1) = l.map (·.1) := by
  simp only [ended, List.map_map]
  refine List.map_congr_left fun p _ => ?_
  by_cases h : p.1 = id <;> simp [h]

theorem liveIds_ended {id c : Int} (hc : c ≠ 0) : ∀ {l : List (Int × Int)}, liveIds (ended l id c) = (liveIds l).filter (fun x => x != id) := by
  intro l
  induction l with
  | nil => rfl
  | cons p t ih =>
    obtain ⟨a, x⟩ := p
    simp only [liveIds, ended] at ih ⊢
    have hcz : (c == 0) = false := by simpa using hc
    by_cases e : a = id
    · by_cases hx : x = 0
      · simp [e, hcz, hx]; simpa using ih
      · have hx' : (x == 0) = false := by simpa using hx
        simp [e, hcz, hx']; simpa using ih
    · by_cases hx : x = 0
      · simp [e, hx]; simpa using ih
      · have hx' : (x == 0) = false := by simpa using hx
        simp [e, hx']; simpa using ih

theorem Valid.over {S : MS} (h : Valid S) (id c : Int) (hc : c ≠ 0) : Valid (S.over id c) := by
  have hk := ended_keys S.l id c
  have hlen : (ended S.l id c).length = S.l.length := by simp [ended]
  have hmem : ∀ p ∈ ended S.l id c, ∃ q ∈ S.l, q.1 = p.1 := by
    intro p hp
    have : p.1 ∈ (ended S.l id c).map (·.1) := List.mem_map.2 ⟨p, hp, rfl⟩
    rw [hk] at this
    obtain ⟨q, hq, e⟩ := List.mem_map.1 this
    exact ⟨q, hq, e⟩
  refine ⟨h.ok, by simp only [MS.over]; rw [liveIds_ended hc]; have h1 := List.length_filter_le (fun x => x != id) (liveIds S.l); have h2 := h.few; omega, ⟨by simp only [MS.over]; rw [hk]; exact h.rise.lt, fun p hp => ?_, by simp only [MS.over]; rw [hlen]; exact h.rise.len⟩, by simp only [MS.over]; rw [hlen]; exact h.last, by simp only [MS.over]; rw [hlen]; exact h.lim, fun p hp => ?_, ?_⟩
  · obtain ⟨q, hq, e⟩ := hmem p hp
    rw [← e]; exact h.rise.wf q hq
  · obtain ⟨q, hq, e⟩ := hmem p hp
    rw [← e]; exact h.bound q hq
  · simp only [MS.over]
    rw [liveIds_ended hc, ← h.live]
    induction S.live with
    | nil => rfl
    | cons p t ih => by_cases e : p.1 = id <;> simp [e]; simpa using ih; simpa using ih

/-- What hangs on bytes and bits. -/
def Kn.counts (k : Kn) (room : Int) : Kn :=
  { k with s := { k.s with left := wrap64 (wrap64 (8 * k.came) - k.s.gone), free := wrap64 (wrap64 (room - k.came) + wrap64 (k.s.gone.tdiv 8)) } }

/-- Feed: how many, the error, the state. -/
def MS.feed (S : MS) (id n : Int) : Int × Int × MS :=
  if refusal S.l id ≠ 0 then (0, refusal S.l id, S) else
  match S.get id with
  | none => (0, 18, S)
  | some k =>
    if n < 0 then (0, 3, S) else if k.ended then (0, 20, S) else
    (min n k.s.free, 0, S.set id (({ k with came := wrap64 (k.came + min n k.s.free) } : Kn).counts S.c.room))
/-- End. -/
def MS.stop (S : MS) (id : Int) : Int × MS :=
  if refusal S.l id ≠ 0 then (refusal S.l id, S) else
  match S.get id with
  | none => (18, S)
  | some k => if k.ended then (20, S) else (0, S.set id { k with ended := true })

/-- Is a status possible for it? -/
def Kn.may (k : Kn) (c : Cf) (s : St) : Bool :=
  decide ((({ k with s := s } : Kn).counts c.room).s = s) && decide (k.s.gone ≤ s.gone ∧ s.gone ≤ wrap64 (8 * k.came)) && decide (0 ≤ s.queued ∧ s.queued ≤ c.slots) && decide (0 ≤ s.frames ∧ s.frames ≤ c.quota) &&
    decide (k.s.pictures ≤ s.pictures) && (k.s.cause == 0 || s.cause == k.s.cause)
/-- See. -/
def MS.see (S : MS) (id : Int) (s : St) : Int × MS :=
  if refusal S.l id ≠ 0 then (refusal S.l id, S) else
  match S.get id with
  | none => (18, S)
  | some k => if k.may S.c s then (0, S.set id (({ k with s := s } : Kn).counts S.c.room)) else (2, S)
/-- Close, Evict. -/
def MS.out (S : MS) (id c : Int) : Int × MS :=
  if refusal S.l id ≠ 0 then (refusal S.l id, S) else (0, S.over id c)
/-- Drain. -/
def MS.drain (S : MS) (id : Int) : Int × MS :=
  if refusal S.l id ≠ 0 then (refusal S.l id, S) else
  match S.get id with
  | none => (18, S)
  | some k =>
    if k.s.queued = 0 ∧ k.s.cause = 0 then (16, S) else
    if 0 < k.s.queued then (0, S.set id { k with s := { k.s with queued := max (wrap64 (k.s.queued - 1)) 0 } }) else
    (k.s.cause, (S.set id { k with s := { k.s with queued := max (wrap64 (k.s.queued - 1)) 0 } }).over id k.s.cause)
/-- Open. -/
def MS.opens (S : MS) : Int × Int × MS :=
  if S.c.frames < ((S.live.length : Int) + 1) * S.c.quota then (0, 15, S) else
  if (liveIds S.l).length = S.c.sessions then (0, 15, S) else
  (S.last + 1, 0, { S with last := S.last + 1, l := S.l ++ [(S.last + 1, 0)], live := S.live ++ [(S.last + 1, ⟨0, false, ⟨0, 0, 0, S.c.room, 0, 0, 0⟩⟩)] })

theorem Valid.count {S : MS} (h : Valid S) : (S.live.length : Int) ≤ S.c.sessions := by
  have := congrArg List.length h.live
  simp only [List.length_map] at this
  have h2 := h.few
  omega

/-- The new session. -/
def MS.more (S : MS) : MS := { S with last := S.last + 1, l := S.l ++ [(S.last + 1, 0)], live := S.live ++ [(S.last + 1, ⟨0, false, ⟨0, 0, 0, S.c.room, 0, 0, 0⟩⟩)] }

theorem Valid.more {S : MS} (h : Valid S) (hf : ((liveIds S.l).length : Int) < S.c.sessions) (hl : S.l.length < 1000) : Valid S.more := by
  have hlast := h.last
  have hids : liveIds (S.l ++ [(S.last + 1, 0)]) = liveIds S.l ++ [S.last + 1] := by simp [liveIds]
  refine ⟨h.ok, ?_, ⟨?_, ?_, ?_⟩, ?_, ?_, ?_, ?_⟩
  · simp only [MS.more]; rw [hids]; simp; omega
  · simp only [MS.more, List.map_append, List.pairwise_append]
    refine ⟨h.rise.lt, by simp, fun a ha b hb => ?_⟩
    obtain ⟨p, hp, rfl⟩ := List.mem_map.1 ha
    simp at hb
    have := (h.bound p hp).2
    omega
  · intro p hp
    simp only [MS.more, List.mem_append, List.mem_singleton] at hp
    rcases hp with hp | rfl
    · exact h.rise.wf p hp
    · exact WalkArith.wf_i64 (by simp only; omega)
  · simp [MS.more]; omega
  · simp [MS.more]; omega
  · simp [MS.more]; omega
  · intro p hp
    simp only [MS.more, List.mem_append, List.mem_singleton] at hp ⊢
    rcases hp with hp | rfl
    · have := h.bound p hp; omega
    · simp; omega
  · simp only [MS.more]; rw [hids]; simp [h.live]

end Go.Proofs.YthjghcfnopancaaGreat

/-
  Feed, End, See of a model: contracts.
-/
namespace Go.Proofs.YthjghcfnopancaaGreat
open Go.RowKit Go.Shelf Go.Maps

set_option maxHeartbeats 400000 in
theorem counts_any (m : Nat) (room : Int) (k : Kn) (w : World) (hc : w.cell? ⟨m, 3, none⟩ = some (.int .i64 room)) :
    Calls Tryz.prog 45 #[.pointer (some ⟨m, 0, none⟩), k.val] w fun e w' => e = .returned (k.counts room).val ∧ Keeps [] w w' := by
  obtain ⟨a1, x, a2, a3, a4, a5, a6, a7, a8⟩ := k
  have hm : m < w.heap.size := by
    have h := hc
    unfold World.cell? at h
    cases hh : w.heap[m]? with
    | none => simp [hh] at h
    | some o => exact ltOf hh
  go_enter Tryz.func45, Tryz.ntmps45
  go_wp2
  go_region
  go_wp2
  exact bodyPost_ret (res_c rfl agg_known rfl rfl (heap_new_at _ (by simp))) rfl ⟨rfl, (by repeat (first | exact Keeps.refl _ _ | assumption | refine Keeps.drew ?_ | refine Keeps.drewN ?_ _ | refine Keeps.alloc ?_ _ | refine Keeps.setCell ?_ (by simp <;> omega) _ | refine Keeps.trans ?_ (by assumption)))⟩

set_option maxHeartbeats 400000 in
theorem feed1_neg (bm bn : Nat) (n : Int) (k : Kn) (w : World) (hn : w.cell? ⟨bn, 0, none⟩ = some (.int .i64 n)) (h : n < 0) (hbn : bn < w.heap.size) :
    Calls Tryz.prog 51 #[k.val, .pointer (some ⟨bn, 0, none⟩), .pointer (some ⟨bm, 0, none⟩)] w fun e w' => e = .returned (.tuple #[k.val, .int .i64 0, .int .i64 3]) ∧ Keeps [] w w' := by
  obtain ⟨a1, x, a2, a3, a4, a5, a6, a7, a8⟩ := k
  go_enter Tryz.func51, Tryz.ntmps51
  go_wp2
  exact bodyPost_ret (res_ctt rfl agg_known rfl rfl rfl rfl (heap_new_at _ (by simp))) rfl ⟨rfl, (by repeat (first | exact Keeps.refl _ _ | assumption | refine Keeps.drew ?_ | refine Keeps.drewN ?_ _ | refine Keeps.alloc ?_ _ | refine Keeps.setCell ?_ (by simp <;> omega) _ | refine Keeps.trans ?_ (by assumption)))⟩

set_option maxHeartbeats 400000 in
theorem feed1_ended (bm bn : Nat) (n : Int) (k : Kn) (w : World) (hn : w.cell? ⟨bn, 0, none⟩ = some (.int .i64 n)) (h : ¬ n < 0) (he : k.ended = true) (hbn : bn < w.heap.size) :
    Calls Tryz.prog 51 #[k.val, .pointer (some ⟨bn, 0, none⟩), .pointer (some ⟨bm, 0, none⟩)] w fun e w' => e = .returned (.tuple #[k.val, .int .i64 0, .int .i64 20]) ∧ Keeps [] w w' := by
  obtain ⟨a1, x, a2, a3, a4, a5, a6, a7, a8⟩ := k
  simp only at he
  subst he
  go_enter Tryz.func51, Tryz.ntmps51
  go_wp2
  exact bodyPost_ret (res_ctt rfl agg_known rfl rfl rfl rfl (heap_new_at _ (by simp))) rfl ⟨rfl, (by repeat (first | exact Keeps.refl _ _ | assumption | refine Keeps.drew ?_ | refine Keeps.drewN ?_ _ | refine Keeps.alloc ?_ _ | refine Keeps.setCell ?_ (by simp <;> omega) _ | refine Keeps.trans ?_ (by assumption)))⟩

set_option maxHeartbeats 800000 in
theorem feed1_yes (bm bn m : Nat) (n room : Int) (k : Kn) (w : World) (hn : w.cell? ⟨bn, 0, none⟩ = some (.int .i64 n)) (hm : w.cell? ⟨bm, 0, none⟩ = some (.pointer (some ⟨m, 0, none⟩)))
    (hr : w.cell? ⟨m, 3, none⟩ = some (.int .i64 room)) (h : ¬ n < 0) (he : k.ended = false) (hbn : bn < w.heap.size) (hbm : bm < w.heap.size) :
    Calls Tryz.prog 51 #[k.val, .pointer (some ⟨bn, 0, none⟩), .pointer (some ⟨bm, 0, none⟩)] w fun e w' =>
      e = .returned (.tuple #[(({ k with came := wrap64 (k.came + min n k.s.free) } : Kn).counts room).val, .int .i64 (min n k.s.free), .int .i64 0]) ∧ Keeps [] w w' := by
  obtain ⟨a1, x, a2, a3, a4, a5, a6, a7, a8⟩ := k
  simp only at he
  subst he
  go_enter Tryz.func51, Tryz.ntmps51
  go_wp2_with fail
  refine (counts_any m room ⟨wrap64 (a1 + min n a5), false, ⟨a2, a3, a4, a5, a6, a7, a8⟩⟩ _ ?_).mono ?_
  · exact (((Keeps.refl [] _).alloc _).alloc _).cell hr (by simp)
  · rintro e w1 ⟨rfl, hk⟩
    obtain ⟨b0, b1, hk⟩ := hk.new2 (by simp) (by simp)
    have hb1 := Lib.hid b1
    obtain ⟨r0, r1, r2, r3, r4, r5, r6, r7, r8⟩ := cells9 b1
    have fr := frees b1
    clear b0 b1
    go_wp2
    exact bodyPost_ret (res_ctt rfl agg_known rfl rfl rfl rfl (stored9 hb1.out)) rfl ⟨rfl, hk.store9 (fun h => by omega)⟩


/-- What a call leaves of a model. -/
def Left (lb : Nat) (w w' : World) (m t tb : Nat) (S : MS) : Prop := Keeps [lb] w w' ∧ ModelAt w' m t tb lb S

theorem Left.same {lb : Nat} {w w' : World} {m t tb : Nat} {S : MS} (h : ModelAt w m t tb lb S) (hk : Keeps [] w w') : Left lb w w' m t tb S :=
  ⟨hk.mono (by simp), h.keep hk (by simp) (by simp) (by simp) (by simp)⟩
theorem Left.put {lb : Nat} {w w' : World} {m t tb : Nat} {S : MS} (h : ModelAt w m t tb lb S) (hV : Valid S) {id : Int} {k k' : Kn} (hk : (id, k) ∈ S.live) (hK : Keeps [lb] w w') (hI : IMap w' lb (put (lmap S.live) id k'.val)) :
    Left lb w w' m t tb (S.set id k') := by
  rw [put_lmap hV.nodup (List.mem_map.2 ⟨_, hk, rfl⟩)] at hI
  have h1 := map_ne h.blk h.live
  have h2 := map_ne h.tbl.blk h.live
  exact ⟨hK, hK.blk h.blk (by simpa using h1), h.tbl.keep hK (by simpa using h2) (by simpa using h.ne), hI, h.ne⟩

set_option maxHeartbeats 800000 in
theorem feed_any {m t tb lb : Nat} {S : MS} {w : World} (h : ModelAt w m t tb lb S) (hV : Valid S) (id n : Int) :
    Calls Tryz.prog 27 #[.pointer (some ⟨m, 0, none⟩), .int .i64 id, .int .i64 n] w fun e w' =>
      e = .returned (.tuple #[.int .i64 (S.feed id n).1, .int .i64 (S.feed id n).2.1]) ∧ Left lb w w' m t tb (S.feed id n).2.2 := by
  obtain ⟨W, hW⟩ : ∃ W, (w.alloc (.cells #[.pointer (some ⟨m, 0, none⟩)] 25)).alloc (.cells #[.int .i64 n] 3) = W := ⟨_, rfl⟩
  have hk0 : Keeps [] w W := by rw [← hW]; exact ((Keeps.refl _ _).alloc _).alloc _
  have hM := h.keep hk0 (by simp) (by simp) (by simp) (by simp)
  have hsz : W.heap.size = w.heap.size + 2 := by rw [← hW]; simp
  have hbm : W.heap[w.heap.size]? = some (.cells #[.pointer (some ⟨m, 0, none⟩)] 25 (0, 0)) := by rw [← hW]; exact (Below.heap_alloc _ _ _ (by simp)).trans (heap_new _ _)
  have hbn : W.heap[w.heap.size + 1]? = some (.cells #[.int .i64 n] 3 (0, 0)) := by rw [← hW]; exact heap_new_at _ (by simp)
  have hfin : ∀ (x e : Int) (S' : MS) (w' : World), S.feed id n = (x, e, S') → Left lb W w' m t tb S' → Left lb w w' m t tb (S.feed id n).2.2 := by
    intro x e S' w' hs hl
    rw [hs]
    exact ⟨(hk0.mono (by simp)).trans hl.1, hl.2⟩
  have key : Calls Tryz.prog 43 #[.pointer (some ⟨m, 0, none⟩), .int .i64 id, .int .i64 0, .func (.func 51) #[] #[.pointer (some ⟨w.heap.size + 1, 0, none⟩), .pointer (some ⟨w.heap.size, 0, none⟩)]] W fun e w' =>
      e = .returned (.tuple #[.int .i64 (S.feed id n).1, .int .i64 (S.feed id n).2.1]) ∧ Left lb w w' m t tb (S.feed id n).2.2 := by
    rcases hV.cases id with hr | ⟨hr, k, hk, -, hc⟩
    · have hs : S.feed id n = (0, refusal S.l id, S) := by simp [MS.feed, hr]
      refine (askint_refused hM hV.s1 id 0 _ hr).mono ?_
      rintro e w' ⟨rfl, hk1⟩
      exact ⟨by rw [hs], hfin _ _ _ _ hs (Left.same hM hk1)⟩
    · have hg := MS.get_of hV.nodup hk
      by_cases hn : n < 0
      · have hs : S.feed id n = (0, 3, S) := by simp [MS.feed, hr, hg, hn]
        refine (askint_no hM hV.s1 id 0 k hV.nodup hk hc 51 _ (enters_of Tryz.func51 (by kernel_rfl) rfl) k 0 3 (by decide) ?_).mono ?_
        · intro w1 hk1
          exact feed1_neg _ _ n k w1 (cellOf (hk1.blk hbn (by simp)) 0 rfl) hn (ltOf (hk1.blk hbn (by simp)))
        · rintro e w' ⟨rfl, hk1⟩
          exact ⟨by rw [hs], hfin _ _ _ _ hs (Left.same hM hk1)⟩
      · by_cases he : k.ended = true
        · have hs : S.feed id n = (0, 20, S) := by simp [MS.feed, hr, hg, hn, he]
          refine (askint_no hM hV.s1 id 0 k hV.nodup hk hc 51 _ (enters_of Tryz.func51 (by kernel_rfl) rfl) k 0 20 (by decide) ?_).mono ?_
          · intro w1 hk1
            exact feed1_ended _ _ n k w1 (cellOf (hk1.blk hbn (by simp)) 0 rfl) hn he (ltOf (hk1.blk hbn (by simp)))
          · rintro e w' ⟨rfl, hk1⟩
            exact ⟨by rw [hs], hfin _ _ _ _ hs (Left.same hM hk1)⟩
        · have he' : k.ended = false := by simpa using he
          have hs : S.feed id n = (min n k.s.free, 0, S.set id (({ k with came := wrap64 (k.came + min n k.s.free) } : Kn).counts S.c.room)) := by simp [MS.feed, hr, hg, hn, he']
          refine (askint_yes hM hV.s1 id 0 k hV.nodup hk hc 51 _ (enters_of Tryz.func51 (by kernel_rfl) rfl) (({ k with came := wrap64 (k.came + min n k.s.free) } : Kn).counts S.c.room) (min n k.s.free) ?_).mono ?_
          · intro w1 hk1
            have hM1 := hM.keep hk1 (by simp) (by simp) (by simp) (by simp)
            exact feed1_yes _ _ m n S.c.room k w1 (cellOf (hk1.blk hbn (by simp)) 0 rfl) (cellOf (hk1.blk hbm (by simp)) 0 rfl) (cellOf hM1.blk 3 rfl) hn he' (ltOf (hk1.blk hbn (by simp))) (ltOf (hk1.blk hbm (by simp)))
          · rintro e w' ⟨rfl, hk1, hI⟩
            exact ⟨by rw [hs], hfin _ _ _ _ hs (Left.put hM hV hk hk1 hI)⟩
  have HK := Lib.hid key
  clear key hfin hbm hbn hM hV h
  subst hW
  go_enter Tryz.func27, Tryz.ntmps27
  go_wp2_with (go_at_call 43; refine (HK.out).mono ?_; rintro e w1 ⟨rfl, hk⟩)
  go_ret2
  exact ⟨rfl, hk⟩

end Go.Proofs.YthjghcfnopancaaGreat
