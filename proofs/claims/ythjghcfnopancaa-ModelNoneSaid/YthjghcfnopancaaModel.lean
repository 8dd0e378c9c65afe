/-
  The model in memory, and what asking it does.
-/
import Derived.Test.YthjghcfnopancaaOpen
namespace Go.Proofs.Ythjghcfnopancaa
open Go.RowKit Go.Shelf Go.Maps

/-- A configuration. -/
structure Cf where
  (sessions frames quota room slots : Int)
/-- A status. -/
structure St where
  (cause queued left free frames pictures gone : Int)
  deriving DecidableEq
/-- What is known of a live number. -/
structure Kn where
  came : Int
  ended : Bool
  s : St
def St.cells (s : St) : List Value := [.int .i64 s.cause, .int .i64 s.queued, .int .i64 s.left, .int .i64 s.free, .int .i64 s.frames, .int .i64 s.pictures, .int .i64 s.gone]
def Kn.cells (k : Kn) : List Value := [.int .i64 k.came, .bool k.ended, .int .i64 k.s.cause, .int .i64 k.s.queued, .int .i64 k.s.left, .int .i64 k.s.free, .int .i64 k.s.frames, .int .i64 k.s.pictures, .int .i64 k.s.gone]
abbrev Kn.val (k : Kn) : Value := .agg #[.int .i64 k.came, .bool k.ended, .int .i64 k.s.cause, .int .i64 k.s.queued, .int .i64 k.s.left, .int .i64 k.s.free, .int .i64 k.s.frames, .int .i64 k.s.pictures, .int .i64 k.s.gone]
abbrev St.val (s : St) : Value := .agg #[.int .i64 s.cause, .int .i64 s.queued, .int .i64 s.left, .int .i64 s.free, .int .i64 s.frames, .int .i64 s.pictures, .int .i64 s.gone]

/-- A model's state. -/
structure MS where
  c : Cf
  last : Int
  l : List (Int × Int)
  live : List (Int × Kn)
def lmap (l : List (Int × Kn)) : List (Int × Value) := l.map fun p => (p.1, p.2.val)

structure ModelAt (w : World) (m t tb lb : Nat) (S : MS) : Prop where
  blk : w.heap[m]? = some (.cells #[.int .i64 S.c.sessions, .int .i64 S.c.frames, .int .i64 S.c.quota, .int .i64 S.c.room, .int .i64 S.c.slots, .pointer (some ⟨t, 0, none⟩), .map (some lb)] 49 (0, 0))
  tbl : TblAt w t tb S.c.sessions S.last S.l
  live : IMap w lb (lmap S.live)
  ne : tb ≠ lb

theorem ModelAt.keep {l : List Nat} {w w' : World} {m t tb lb : Nat} {S : MS} (h : ModelAt w m t tb lb S) (k : Keeps l w w') (h1 : m ∉ l) (h2 : t ∉ l) (h3 : tb ∉ l) (h4 : lb ∉ l) : ModelAt w' m t tb lb S :=
  ⟨k.blk h.blk h1, ⟨k.blk h.tbl.blk h2, h.tbl.map.keep k h3⟩, h.live.keep k h4, h.ne⟩
theorem TblAt.keep {l : List Nat} {w w' : World} {t tb : Nat} {most last : Int} {x : List (Int × Int)} (h : TblAt w t tb most last x) (k : Keeps l w w') (h2 : t ∉ l) (h3 : tb ∉ l) : TblAt w' t tb most last x :=
  ⟨k.blk h.blk h2, h.map.keep k h3⟩

theorem map_ne {w : World} {b c : Nat} {cs : Array Value} {T : TypeId} {z : Nat × Nat} {l : List (Int × Value)} (h : w.heap[b]? = some (.cells cs T z)) (h2 : IMap w c l) : b ≠ c := by
  obtain ⟨es, clock, hb, -⟩ := h2.ex
  intro e; subst e; rw [h] at hb; cases hb

set_option maxHeartbeats 400000 in
theorem within_any (n lo hi : Int) (w : World) :
    Calls Try.prog 27 #[.int .i64 n, .int .i64 lo, .int .i64 hi] w fun e w' => e = .returned (.bool (decide (lo ≤ n ∧ n ≤ hi))) ∧ w = w' := by
  by_cases h1 : lo ≤ n
  · go_enter Try.func27, Try.ntmps27
    go_wp2
    go_ret
    simp [h1]
  · go_enter Try.func27, Try.ntmps27
    go_wp2
    go_ret
    refine ⟨?_, rfl⟩
    congr 2
    simp; omega

set_option maxHeartbeats 400000 in
theorem mnone_nil (w : World) : Calls Try.prog 33 #[.pointer none] w fun e w' => e = .returned (.bool true) ∧ w = w' := by
  go_enter Try.func33, Try.ntmps33
  go_wp2
  go_ret
  simp

set_option maxHeartbeats 400000 in
theorem mnone_empty (m : Nat) (w : World) (hc : w.cell? ⟨m, 5, none⟩ = some (.pointer none)) :
    Calls Try.prog 33 #[.pointer (some ⟨m, 0, none⟩)] w fun e w' => e = .returned (.bool true) ∧ w = w' := by
  go_enter Try.func33, Try.ntmps33
  go_wp2
  go_ret
  simp

set_option maxHeartbeats 400000 in
theorem mnone_made (m t : Nat) (w : World) (hc : w.cell? ⟨m, 5, none⟩ = some (.pointer (some ⟨t, 0, none⟩))) :
    Calls Try.prog 33 #[.pointer (some ⟨m, 0, none⟩)] w fun e w' => e = .returned (.bool false) ∧ w = w' := by
  go_enter Try.func33, Try.ntmps33
  go_wp2
  go_ret
  simp

theorem mnone_at {m t tb lb : Nat} {S : MS} {w : World} (h : ModelAt w m t tb lb S) : Calls Try.prog 33 #[.pointer (some ⟨m, 0, none⟩)] w fun e w' => e = .returned (.bool false) ∧ w = w' :=
  mnone_made m t w (cellOf h.blk 5 rfl)

theorem agg_status : Agg Try.prog 27 7 := ⟨fun _ => by kernel_rfl, fun _ => by kernel_rfl⟩
theorem agg_known : Agg Try.prog 59 9 := ⟨fun _ => by kernel_rfl, fun _ => by kernel_rfl⟩
theorem zero_known (w : World) : (zeroValue 59).run Try.prog w = .ok (.agg #[.int .i64 0, .bool false, .int .i64 0, .int .i64 0, .int .i64 0, .int .i64 0, .int .i64 0, .int .i64 0, .int .i64 0]) w := by kernel_rfl

/-- Why nothing is asked of a number; 0: it is live. -/
def refusal (l : List (Int × Int)) (id : Int) : Int := if (causeOf l id).2 = 0 then (causeOf l id).1 else (causeOf l id).2

set_option maxHeartbeats 400000 in
theorem askint_refused {m t tb lb : Nat} {S : MS} {w : World} (h : ModelAt w m t tb lb S) (h1 : 1 ≤ S.c.sessions) (id : Int) (x0 : Int) (what : Value) (hr : refusal S.l id ≠ 0) :
    Calls Try.prog 24 #[.pointer (some ⟨m, 0, none⟩), .int .i64 id, .int .i64 x0, what] w fun e w' => e = .returned (.tuple #[.int .i64 x0, .int .i64 (refusal S.l id)]) ∧ Keeps [] w w' := by
  have c5 : w.cell? ⟨m, 5, none⟩ = some (.pointer (some ⟨t, 0, none⟩)) := cellOf h.blk 5 rfl
  have hC := cause_any h.tbl h1 id
  unfold refusal at hr ⊢
  generalize causeOf S.l id = ce at hC hr ⊢
  obtain ⟨c, e⟩ := ce
  simp only at hC hr ⊢
  clear h
  by_cases he : e = 0
  · subst he
    simp only [if_true] at hr ⊢
    have hc0 : (c == 0) = false := by simpa using hr
    clear hr
    go_enter Try.func24, Try.ntmps24
    go_wp2_with (first
      | (go_at_call 33; refine (mnone_made _ t _ c5).mono ?_; rintro e w' ⟨rfl, rfl⟩)
      | (go_at_call 39; refine hC.mono ?_; clear hC; rintro e w1 ⟨rfl, hk⟩))
    go_ret2
    exact ⟨rfl, hk⟩
  · rw [if_neg he]
    have he0 : (e == 0) = false := by simpa using he
    clear hr he
    go_enter Try.func24, Try.ntmps24
    go_wp2_with (first
      | (go_at_call 33; refine (mnone_made _ t _ c5).mono ?_; rintro e w' ⟨rfl, rfl⟩)
      | (go_at_call 39; refine hC.mono ?_; clear hC; rintro e w1 ⟨rfl, hk⟩))
    go_ret2
    exact ⟨rfl, hk⟩

set_option maxHeartbeats 400000 in
theorem askst_refused {m t tb lb : Nat} {S : MS} {w : World} (h : ModelAt w m t tb lb S) (h1 : 1 ≤ S.c.sessions) (id : Int) (s0 : St) (what : Value) (hr : refusal S.l id ≠ 0) :
    Calls Try.prog 30 #[.pointer (some ⟨m, 0, none⟩), .int .i64 id, s0.val, what] w fun e w' => e = .returned (.tuple #[s0.val, .int .i64 (refusal S.l id)]) ∧ Keeps [] w w' := by
  obtain ⟨q0, q1, q2, q3, q4, q5, q6⟩ := s0
  have HM : Hid (∀ w', Keeps [] w w' → ModelAt w' m t tb lb S) := Lib.hid fun w' hk => h.keep hk (by simp) (by simp) (by simp) (by simp)
  have hC : Hid (∀ w', Keeps [] w w' → _) := Lib.hid fun w' (hk : Keeps [] w w') => cause_any (HM.out w' hk).tbl h1 id
  have c5 : w.cell? ⟨m, 5, none⟩ = some (.pointer (some ⟨t, 0, none⟩)) := cellOf h.blk 5 rfl
  have hlt := ltOf h.blk
  unfold refusal at hr ⊢
  generalize causeOf S.l id = ce at hC hr ⊢
  obtain ⟨c, e⟩ := ce
  simp only at hC hr ⊢
  clear h
  by_cases he : e = 0
  · subst he
    simp only [if_true] at hr ⊢
    have hc0 : (c == 0) = false := by simpa using hr
    clear hr
    go_enter Try.func30, Try.ntmps30
    go_wp2_with (first
      | (go_at_call 33; refine (mnone_at (HM.out _ (by repeat (first | exact Keeps.refl _ _ | assumption | refine Keeps.drew ?_ | refine Keeps.drewN ?_ _ | refine Keeps.alloc ?_ _ | refine Keeps.setCell ?_ (by simp <;> omega) _ | refine Keeps.trans ?_ (by assumption))))).mono ?_; rintro e w' ⟨rfl, rfl⟩)
      | (go_at_call 39; refine (hC.out _ (by repeat (first | exact Keeps.refl _ _ | assumption | refine Keeps.drew ?_ | refine Keeps.drewN ?_ _ | refine Keeps.alloc ?_ _ | refine Keeps.setCell ?_ (by simp <;> omega) _ | refine Keeps.trans ?_ (by assumption)))).mono ?_; clear hC; rintro e w1 ⟨rfl, hk⟩
         obtain ⟨b0, b1, hk⟩ := hk.new2 (by simp) (by simp)
         obtain ⟨p0, p1, p2, p3, p4, p5, p6⟩ := cells7 b0
         obtain ⟨r0, r1, r2, r3, r4, r5, r6⟩ := cells7 b1
         have fr := frees b1
         have hb1 := Lib.hid b1
         clear b0 b1))
    exact bodyPost_ret (res_ct rfl agg_status rfl rfl rfl (stored7 hb1.out)) rfl ⟨rfl, hk.store7 (fun h => by omega)⟩
  · rw [if_neg he]
    have he0 : (e == 0) = false := by simpa using he
    clear hr he
    go_enter Try.func30, Try.ntmps30
    go_wp2_with (first
      | (go_at_call 33; refine (mnone_at (HM.out _ (by repeat (first | exact Keeps.refl _ _ | assumption | refine Keeps.drew ?_ | refine Keeps.drewN ?_ _ | refine Keeps.alloc ?_ _ | refine Keeps.setCell ?_ (by simp <;> omega) _ | refine Keeps.trans ?_ (by assumption))))).mono ?_; rintro e w' ⟨rfl, rfl⟩)
      | (go_at_call 39; refine (hC.out _ (by repeat (first | exact Keeps.refl _ _ | assumption | refine Keeps.drew ?_ | refine Keeps.drewN ?_ _ | refine Keeps.alloc ?_ _ | refine Keeps.setCell ?_ (by simp <;> omega) _ | refine Keeps.trans ?_ (by assumption)))).mono ?_; clear hC; rintro e w1 ⟨rfl, hk⟩
         obtain ⟨b0, b1, hk⟩ := hk.new2 (by simp) (by simp)
         obtain ⟨p0, p1, p2, p3, p4, p5, p6⟩ := cells7 b0
         obtain ⟨r0, r1, r2, r3, r4, r5, r6⟩ := cells7 b1
         have fr := frees b1
         have hb1 := Lib.hid b1
         clear b0 b1))
    exact bodyPost_ret (res_ct rfl agg_status rfl rfl rfl (stored7 hb1.out)) rfl ⟨rfl, hk.store7 (fun h => by omega)⟩

theorem look_lmap {l : List (Int × Kn)} (hn : (l.map (·.1)).Nodup) {id : Int} {k : Kn} (hk : (id, k) ∈ l) : look (lmap l) id = some k.val := by
  induction l with
  | nil => cases hk
  | cons p t ih =>
    obtain ⟨a, x⟩ := p
    simp only [List.map_cons, List.nodup_cons] at hn
    simp only [List.mem_cons, Prod.mk.injEq] at hk
    rcases hk with ⟨rfl, rfl⟩ | hk
    · simp [lmap, look]
    · have : ¬ id = a := fun e => hn.1 (List.mem_map.2 ⟨(id, k), hk, e⟩)
      have := ih hn.2 hk
      simp only [lmap] at this
      simp [lmap, look, *]

set_option maxRecDepth 100000 in
set_option maxHeartbeats 1000000 in
theorem askint_no {m t tb lb : Nat} {S : MS} {w : World} (h : ModelAt w m t tb lb S) (h1 : 1 ≤ S.c.sessions) (id : Int) (x0 : Int) (k : Kn) (hn : (S.live.map (·.1)).Nodup) (hk : (id, k) ∈ S.live) (hc : causeOf S.l id = (0, 0))
    (gf : Nat) (cap : Array Value) (eg : Enters Try.prog gf) (k' : Kn) (y : Int) (e : Int) (he : e ≠ 0)
    (hwhat : ∀ w1, Keeps [] w w1 → Calls Try.prog gf (#[k.val] ++ cap) w1 fun en w' => en = .returned (.tuple #[k'.val, .int .i64 y, .int .i64 e]) ∧ Keeps [] w1 w') :
    Calls Try.prog 24 #[.pointer (some ⟨m, 0, none⟩), .int .i64 id, .int .i64 x0, .func (.func gf) #[] cap] w fun en w' => en = .returned (.tuple #[.int .i64 x0, .int .i64 e]) ∧ Keeps [] w w' := by
  have he0 : (e == 0) = false := by simpa using he
  have HM : Hid (∀ w', Keeps [] w w' → ModelAt w' m t tb lb S) := Lib.hid fun w' hk => h.keep hk (by simp) (by simp) (by simp) (by simp)
  have HW := Lib.hid hwhat
  have c5 : w.cell? ⟨m, 5, none⟩ = some (.pointer (some ⟨t, 0, none⟩)) := cellOf h.blk 5 rfl
  have hlt := ltOf h.blk
  have hC : Hid (∀ w', Keeps [] w w' → _) := Lib.hid fun w' (hk : Keeps [] w w') => cause_any (HM.out w' hk).tbl h1 id
  rw [hc] at hC
  have Hl := Lib.hid (look_lmap hn hk)
  have eg' : ∀ args w, (callFunc gf args).run Try.prog w = .ok (.enter gf args) w := eg
  clear h hwhat hc hk hn he eg
  go_enter Try.func24, Try.ntmps24
  go_wp2_with (first
    | (go_at_call 33; refine (mnone_at (HM.out _ (by repeat (first | exact Keeps.refl _ _ | assumption | refine Keeps.drew ?_ | refine Keeps.drewN ?_ _ | refine Keeps.alloc ?_ _ | refine Keeps.setCell ?_ (by simp <;> omega) _ | refine Keeps.trans ?_ (by assumption))))).mono ?_; rintro e w' ⟨rfl, rfl⟩)
    | (go_at_call 39; refine (hC.out _ (by repeat (first | exact Keeps.refl _ _ | assumption | refine Keeps.drew ?_ | refine Keeps.drewN ?_ _ | refine Keeps.alloc ?_ _ | refine Keeps.setCell ?_ (by simp <;> omega) _ | refine Keeps.trans ?_ (by assumption)))).mono ?_; clear hC; rintro e w1 ⟨rfl, hk⟩
       have hk1 : Keeps [] w w1 := (by repeat (first | exact Keeps.refl _ _ | assumption | refine Keeps.drew ?_ | refine Keeps.drewN ?_ _ | refine Keeps.alloc ?_ _ | refine Keeps.setCell ?_ (by simp <;> omega) _ | refine Keeps.trans ?_ (by assumption)))
       have k6 : w1.cell? ⟨m, 6, none⟩ = some (.map (some lb)) := cellOf (HM.out _ hk1).blk 6 rfl
       have hlk := (run_lookup_yes (P := Try.prog) Try.underlying47 Try.underlying3 (HM.out _ hk1).live Hl.out).1))
  refine (HW.out _ hk1).mono ?_
  rintro e2 w2 ⟨rfl, hk2⟩
  go_wp2
  go_ret2
  exact ⟨rfl, (by repeat (first | exact Keeps.refl _ _ | assumption | refine Keeps.drew ?_ | refine Keeps.drewN ?_ _ | refine Keeps.alloc ?_ _ | refine Keeps.setCell ?_ (by simp <;> omega) _ | refine Keeps.trans ?_ (by assumption)))⟩

set_option maxRecDepth 100000 in
set_option maxHeartbeats 1000000 in
theorem askint_yes {m t tb lb : Nat} {S : MS} {w : World} (h : ModelAt w m t tb lb S) (h1 : 1 ≤ S.c.sessions) (id : Int) (x0 : Int) (k : Kn) (hn : (S.live.map (·.1)).Nodup) (hk : (id, k) ∈ S.live) (hc : causeOf S.l id = (0, 0))
    (gf : Nat) (cap : Array Value) (eg : Enters Try.prog gf) (k' : Kn) (y : Int)
    (hwhat : ∀ w1, Keeps [] w w1 → Calls Try.prog gf (#[k.val] ++ cap) w1 fun en w' => en = .returned (.tuple #[k'.val, .int .i64 y, .int .i64 0]) ∧ Keeps [] w1 w') :
    Calls Try.prog 24 #[.pointer (some ⟨m, 0, none⟩), .int .i64 id, .int .i64 x0, .func (.func gf) #[] cap] w fun en w' => en = .returned (.tuple #[.int .i64 y, .int .i64 0]) ∧ Keeps [lb] w w' ∧ IMap w' lb (put (lmap S.live) id k'.val) := by
  have HM : Hid (∀ w', Keeps [] w w' → ModelAt w' m t tb lb S) := Lib.hid fun w' hk => h.keep hk (by simp) (by simp) (by simp) (by simp)
  have HW := Lib.hid hwhat
  have c5 : w.cell? ⟨m, 5, none⟩ = some (.pointer (some ⟨t, 0, none⟩)) := cellOf h.blk 5 rfl
  have hlt := ltOf h.blk
  have hC : Hid (∀ w', Keeps [] w w' → _) := Lib.hid fun w' (hk : Keeps [] w w') => cause_any (HM.out w' hk).tbl h1 id
  rw [hc] at hC
  have Hl := Lib.hid (look_lmap hn hk)
  have eg' : ∀ args w, (callFunc gf args).run Try.prog w = .ok (.enter gf args) w := eg
  clear h hwhat hc hk hn eg
  go_enter Try.func24, Try.ntmps24
  go_wp2_with (first
    | (go_at_call 33; refine (mnone_at (HM.out _ (by repeat (first | exact Keeps.refl _ _ | assumption | refine Keeps.drew ?_ | refine Keeps.drewN ?_ _ | refine Keeps.alloc ?_ _ | refine Keeps.setCell ?_ (by simp <;> omega) _ | refine Keeps.trans ?_ (by assumption))))).mono ?_; rintro e w' ⟨rfl, rfl⟩)
    | (go_at_call 39; refine (hC.out _ (by repeat (first | exact Keeps.refl _ _ | assumption | refine Keeps.drew ?_ | refine Keeps.drewN ?_ _ | refine Keeps.alloc ?_ _ | refine Keeps.setCell ?_ (by simp <;> omega) _ | refine Keeps.trans ?_ (by assumption)))).mono ?_; clear hC; rintro e w1 ⟨rfl, hk⟩
       have hk1 : Keeps [] w w1 := (by repeat (first | exact Keeps.refl _ _ | assumption | refine Keeps.drew ?_ | refine Keeps.drewN ?_ _ | refine Keeps.alloc ?_ _ | refine Keeps.setCell ?_ (by simp <;> omega) _ | refine Keeps.trans ?_ (by assumption)))
       have k6 : w1.cell? ⟨m, 6, none⟩ = some (.map (some lb)) := cellOf (HM.out _ hk1).blk 6 rfl
       have hlk := (run_lookup_yes (P := Try.prog) Try.underlying47 Try.underlying3 (HM.out _ hk1).live Hl.out).1))
  refine (HW.out _ hk1).mono ?_
  rintro e2 w2 ⟨rfl, hk2⟩
  have hk3 : Keeps [] w w2 := (by repeat (first | exact Keeps.refl _ _ | assumption | refine Keeps.drew ?_ | refine Keeps.drewN ?_ _ | refine Keeps.alloc ?_ _ | refine Keeps.setCell ?_ (by simp <;> omega) _ | refine Keeps.trans ?_ (by assumption)))
  have m6 : w2.cell? ⟨m, 6, none⟩ = some (.map (some lb)) := cellOf (HM.out _ hk3).blk 6 rfl
  have hm2 := ltOf (HM.out _ hk3).blk
  have hI := ((HM.out _ hk3).live.alloc (.cells k'.cells.toArray 59)).drew
  obtain ⟨w3, hrun, hM3, hk4⟩ := run_update (P := Try.prog) Try.underlying47 Try.underlying3 hI id k'.val
  simp only [Kn.cells] at hrun hk4
  have HI := Lib.hid hM3
  clear hI hM3 hlk k6
  go_wp2
  go_region
  go_wp2
  go_ret2
  exact ⟨rfl, (hk3.mono (by simp)).trans (((Keeps.refl _ _).alloc _).drew.trans hk4), HI.out⟩

end Go.Proofs.Ythjghcfnopancaa
