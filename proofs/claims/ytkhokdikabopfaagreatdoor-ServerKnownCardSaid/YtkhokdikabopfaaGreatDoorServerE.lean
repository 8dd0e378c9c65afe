/-
  Server: what a live session is asked.
-/
import Derived.Test.YtkhokdikabopfaaGreatDoorServerD
namespace Go.Proofs.YtkhokdikabopfaaGreatDoor
open Go.RowKit Go.Shelf Go.Maps

/-- Two results are told, the second one a number. -/
def Told2 (Q : Value → Int → World → Prop) (en : Ending) (w' : World) : Prop := ∃ x e, en = .returned (.tuple #[x, .int .i64 e]) ∧ Q x e w'

theorem causeOf_live {l : List (Int × Int)} (hr : Rising l) {id : Int} (h : (id, 0) ∈ l) : causeOf l id = (0, 0) := by
  unfold causeOf
  cases hq : l.find? (fun p => p.1 == id) with
  | none => have := List.find?_eq_none.1 hq _ h; simp at this
  | some q =>
    have hq1 := List.mem_of_find?_eq_some hq
    have hq2 : q.1 = id := by simpa using List.find?_some hq
    rw [nodup_fst hr.nodup hq1 h hq2]

set_option maxHeartbeats 800000 in
theorem vask_int_yes {P : SrvP} {c : Cf} {last : Int} {l : List (Int × Int)} {L : List Sess} {w : World} (h : SrvAt w P c last l L) (hc : c.ok) (hO : VOk last l L) {z : Sess} (hz : z ∈ L)
    (gf : Nat) (cap : Array Value) (eg : Enters Tryz.prog gf) (Q : Value → Int → World → Prop)
    (hwhat : ∀ w1, Keeps [] w w1 → Calls Tryz.prog gf (#[.pointer (some ⟨z.k, 0, none⟩)] ++ cap) w1 (Told2 Q)) :
    Calls Tryz.prog 25 #[.pointer (some ⟨P.s, 0, none⟩), .int .i64 z.id, .func (.func gf) #[] cap] w (Told2 Q) := by
  obtain ⟨c1, c2, c3, c4, c5, c6, c7⟩ := h.c
  have hC := cause_any h.tbl (by have := hc.s.1; omega) z.id
  rw [causeOf_live hO.rise (hO.mem hz)] at hC
  have hC := Lib.hid hC
  have HW := Lib.hid hwhat
  have H := Lib.hid h
  have HL := Lib.hid (look_cl hO.nodup hz)
  have eg' : ∀ args w, (callFunc gf args).run Tryz.prog w = .ok (.enter gf args) w := eg
  clear h hc hO hwhat
  go_enter Tryz.func25, Tryz.ntmps25
  go_wp2_with (first
    | (go_at_call 31; refine (vnone c5).mono ?_; rintro e w' ⟨rfl, rfl⟩)
    | (go_at_call 32; refine (hC.out).mono ?_; rintro e w1 ⟨rfl, hk⟩
       have hb := hk.blk H.out.blk (by simp)
       have d7 : w1.cell? ⟨P.s, 7, none⟩ = some (.map (some P.cb)) := cellOf hb 7 rfl
       have hlk := (run_lookup_yes (P := Tryz.prog) Tryz.underlying47 Tryz.underlying3 (H.out.cl.keep hk (by simp)) HL.out).1))
  refine (HW.out _ hk).mono ?_
  rintro e2 w2 ⟨x, e, rfl, hQ⟩
  go_wp2
  go_ret2
  exact ⟨x, e, rfl, hQ⟩

set_option maxHeartbeats 800000 in
theorem vask_bool_yes {P : SrvP} {c : Cf} {last : Int} {l : List (Int × Int)} {L : List Sess} {w : World} (h : SrvAt w P c last l L) (hc : c.ok) (hO : VOk last l L) {z : Sess} (hz : z ∈ L)
    (gf : Nat) (cap : Array Value) (eg : Enters Tryz.prog gf) (Q : Value → Int → World → Prop)
    (hwhat : ∀ w1, Keeps [] w w1 → Calls Tryz.prog gf (#[.pointer (some ⟨z.k, 0, none⟩)] ++ cap) w1 (Told2 Q)) :
    Calls Tryz.prog 33 #[.pointer (some ⟨P.s, 0, none⟩), .int .i64 z.id, .func (.func gf) #[] cap] w (Told2 Q) := by
  obtain ⟨c1, c2, c3, c4, c5, c6, c7⟩ := h.c
  have hC := cause_any h.tbl (by have := hc.s.1; omega) z.id
  rw [causeOf_live hO.rise (hO.mem hz)] at hC
  have hC := Lib.hid hC
  have HW := Lib.hid hwhat
  have H := Lib.hid h
  have HL := Lib.hid (look_cl hO.nodup hz)
  have eg' : ∀ args w, (callFunc gf args).run Tryz.prog w = .ok (.enter gf args) w := eg
  clear h hc hO hwhat
  go_enter Tryz.func33, Tryz.ntmps33
  go_wp2_with (first
    | (go_at_call 31; refine (vnone c5).mono ?_; rintro e w' ⟨rfl, rfl⟩)
    | (go_at_call 32; refine (hC.out).mono ?_; rintro e w1 ⟨rfl, hk⟩
       have hb := hk.blk H.out.blk (by simp)
       have d7 : w1.cell? ⟨P.s, 7, none⟩ = some (.map (some P.cb)) := cellOf hb 7 rfl
       have hlk := (run_lookup_yes (P := Tryz.prog) Tryz.underlying47 Tryz.underlying3 (H.out.cl.keep hk (by simp)) HL.out).1))
  refine (HW.out _ hk).mono ?_
  rintro e2 w2 ⟨x, e, rfl, hQ⟩
  go_wp2
  go_ret2
  exact ⟨x, e, rfl, hQ⟩


end Go.Proofs.YtkhokdikabopfaaGreatDoor
