/-
  A server of the caller's own; opens, drains, two, awake.
-/
import Derived.Test.YtkhokdikabopfaaGreatDoorServerH
import Derived.Test.YtkhokdikabopfaaGreatDoorInts
namespace Go.Proofs.YtkhokdikabopfaaGreatDoor
open Go.RowKit Go.Shelf Go.Maps

/-- A server that the caller made. -/
structure Srv (w0 w : World) (P : SrvP) (c : Cf) (last : Int) (l : List (Int × Int)) (L : List Sess) : Prop where
  kept : Keeps [] w0 w
  at_ : SrvAt w P c last l L
  ok : VOk last l L
  cok : c.ok
  hi : w0.heap.size ≤ P.t ∧ w0.heap.size ≤ P.tb ∧ w0.heap.size ≤ P.cb ∧ w0.heap.size ≤ P.s
  lo : ∀ z ∈ L, w0.heap.size ≤ z.lo

theorem Srv.on {w0 w w' : World} {P : SrvP} {c : Cf} {last : Int} {l : List (Int × Int)} {L : List Sess} (h : Srv w0 w P c last l L) (k : Keeps [] w w') : Srv w0 w' P c last l L :=
  ⟨h.kept.trans k, h.at_.on k, h.ok, h.cok, h.hi, h.lo⟩

theorem Srv.step {w0 w w' : World} {P : SrvP} {c : Cf} {last last' : Int} {l l' : List (Int × Int)} {L L' : List Sess} (h : Srv w0 w P c last l L) {lst : List Nat} (k : Keeps lst w w') (hl : ∀ b ∈ lst, w0.heap.size ≤ b)
    (hs : SrvAt w' P c last' l' L') (hv : VOk last' l' L') (hL : ∀ z ∈ L', w0.heap.size ≤ z.lo) : Srv w0 w' P c last' l' L' :=
  ⟨h.kept.trans' k (fun i hi h2 => by have := hl i hi; omega), hs, hv, h.cok, h.hi, hL⟩

theorem Srv.made (c : Cf) (h : c.ok) (w : World) :
    Calls Tryz.prog 14 #[c.val] w fun e w' => ∃ P, e = .returned (.tuple #[.pointer (some ⟨P.s, 0, none⟩), .int .i64 0]) ∧ Srv w w' P c 0 [] [] :=
  (vnew c w h).mono fun _ _ ⟨P, h1, h2, h3, h4, h5, h6, h7⟩ => ⟨P, h1, h2, h7, VOk.fresh, h, ⟨h3, h4, h5, h6⟩, by simp⟩

theorem Srv.opened {w0 w : World} {P : SrvP} {c : Cf} {last : Int} {l : List (Int × Int)} {L : List Sess} (h : Srv w0 w P c last l L) (hf : (L.length + 1) * c.quota ≤ c.frames) (hb : L.length < c.sessions) (hlast : last < 1000) (hll : l.length < 1000) :
    Calls Tryz.prog 16 #[.pointer (some ⟨P.s, 0, none⟩)] w fun e w' => ∃ z, e = .returned (.tuple #[.int .i64 (last + 1), .int .i64 0]) ∧ z.id = last + 1 ∧ z.begun ∧ Srv w0 w' P c (last + 1) (l ++ [(last + 1, 0)]) (L ++ [z]) := by
  refine (vopen_yes h.at_ h.cok h.ok hf hb hlast).mono ?_
  rintro e w' ⟨z, h1, h2, h3, h4, h5, h6⟩
  have hk := h.kept.size
  have hh := h.hi
  refine ⟨z, h1, h3, h4, h.step h2 (by simp; omega) h6 (h.ok.more hlast hll (by have := h.cok.s.2; omega) z h3) ?_⟩
  intro y hy
  rcases List.mem_append.1 hy with hy | hy
  · exact h.lo y hy
  · simp at hy; subst hy; omega

theorem Srv.full {w0 w : World} {P : SrvP} {c : Cf} {last : Int} {l : List (Int × Int)} {L : List Sess} (h : Srv w0 w P c last l L) (hf : c.frames < (L.length + 1) * c.quota) :
    Calls Tryz.prog 16 #[.pointer (some ⟨P.s, 0, none⟩)] w fun e w' => e = .returned (.tuple #[.int .i64 0, .int .i64 15]) ∧ Srv w0 w' P c last l L :=
  (vopen_full h.at_ h.cok h.ok hf).mono fun _ _ ⟨h1, h2⟩ => ⟨h1, h.on h2⟩

theorem Srv.over {w0 w w' : World} {P : SrvP} {c : Cf} {last : Int} {l : List (Int × Int)} {L : List Sess} (h : Srv w0 w P c last l L) {z : Sess} (hz : z ∈ L) {cause : Int} (hc : cause ≠ 0) {lst : List Nat} (k : Keeps lst w w') (hl : ∀ b ∈ lst, b = z.x ∨ b = z.o ∨ b = P.cb ∨ b = P.tb)
    (hs : SrvAt w' P c last (ended l z.id cause) (L.filter fun y => y.id != z.id)) : Srv w0 w' P c last (ended l z.id cause) (L.filter fun y => y.id != z.id) := by
  have h1 := h.lo z hz
  have h2 := (h.at_.sess z hz).1.ne
  have h3 := h.hi
  exact h.step k (fun b hb => by have := hl b hb; omega) hs (h.ok.ended z.id cause hc) (fun y hy => h.lo y (List.mem_filter.1 hy).1)

theorem Srv.closed {w0 w : World} {P : SrvP} {c : Cf} {last : Int} {l : List (Int × Int)} {L : List Sess} (h : Srv w0 w P c last l L) {z : Sess} (hz : z ∈ L) {id : Int} (hid : z.id = id) :
    Calls Tryz.prog 6 #[.pointer (some ⟨P.s, 0, none⟩), .int .i64 id] w fun e w' => e = .returned (.int .i64 0) ∧ Srv w0 w' P c last (ended l id 21) (L.filter fun y => y.id != id) := by
  subst hid
  exact (vClose h.at_ h.cok h.ok hz).mono fun _ _ ⟨h1, h2, h3⟩ => ⟨h1, h.over hz (by decide) h2 (by simp) h3⟩

theorem Srv.closed_no {w0 w : World} {P : SrvP} {c : Cf} {last : Int} {l : List (Int × Int)} {L : List Sess} (h : Srv w0 w P c last l L) (id : Int) (hr : vref l id ≠ 0) :
    Calls Tryz.prog 6 #[.pointer (some ⟨P.s, 0, none⟩), .int .i64 id] w fun e w' => e = .returned (.int .i64 (vref l id)) ∧ Srv w0 w' P c last l L :=
  (vClose_no h.at_ h.cok id hr).mono fun _ _ ⟨h1, h2⟩ => ⟨h1, h.on h2⟩

theorem Srv.endd {w0 w : World} {P : SrvP} {c : Cf} {last : Int} {l : List (Int × Int)} {L : List Sess} (h : Srv w0 w P c last l L) {z : Sess} (hz : z ∈ L) (hcz : (z.cause == 21) = false) (he : z.ended = false) {id : Int} (hid : z.id = id) :
    Calls Tryz.prog 10 #[.pointer (some ⟨P.s, 0, none⟩), .int .i64 id] w fun e w' => e = .returned (.int .i64 0) ∧ Srv w0 w' P c last l (swap L { z with ended := true }) := by
  subst hid
  exact (vend h.at_ h.cok h.ok hz hcz he).mono fun _ _ ⟨h1, h2, h3⟩ => ⟨h1, h.step h2 (by have := h.lo z hz; have := (h.at_.sess z hz).1.ne; simp; omega) h3 (h.ok.swap _) (fun y hy => by
    obtain ⟨x, hx, rfl⟩ := List.mem_map.1 hy
    by_cases e : x.id = z.id
    · simp only [e, if_true]; exact h.lo z hz
    · rw [if_neg e]; exact h.lo x hx)⟩

theorem Srv.drained {w0 w : World} {P : SrvP} {c : Cf} {last : Int} {l : List (Int × Int)} {L : List Sess} (h : Srv w0 w P c last l L) {z : Sess} (hz : z ∈ L) (f : Fn) (fa fb : Array Value) (hx : z.nx = .func f fa fb) {id : Int} (hid : z.id = id) :
    Calls Tryz.prog 17 #[.pointer (some ⟨P.s, 0, none⟩), .int .i64 id] w fun e w' => e = .returned (.tuple #[noPic, .int .i64 16]) ∧ Srv w0 w' P c last l L := by
  subst hid
  exact (vdrain_empty h.at_ h.cok h.ok hz f fa fb hx).mono fun _ _ ⟨h1, h2⟩ => ⟨h1, h.on h2⟩

set_option maxHeartbeats 400000 in
theorem opens_yes {w0 w : World} {P : SrvP} {c : Cf} {last : Int} {l : List (Int × Int)} {L : List Sess} (h : Srv w0 w P c last l L) (hf : (L.length + 1) * c.quota ≤ c.frames) (hb : L.length < c.sessions) (hlast : last < 1000) (hll : l.length < 1000) :
    Calls Tryz.prog 8 #[.pointer (some ⟨P.s, 0, none⟩), .int .i64 (last + 1), .int .i64 0] w fun e w' => ∃ z, e = .returned (.bool true) ∧ z.id = last + 1 ∧ z.begun ∧ Srv w0 w' P c (last + 1) (l ++ [(last + 1, 0)]) (L ++ [z]) := by
  have hO := Lib.hid (h.opened hf hb hlast hll)
  clear h hf hb hlast hll
  go_enter Tryz.func8, Tryz.ntmps8
  go_wp2_with (go_at_call 16; refine (hO.out).mono ?_; rintro e w' ⟨z, rfl, h1, h2, h3⟩; have h1 := Lib.hid h1; have h2 := Lib.hid h2)
  go_ret
  exact ⟨z, rfl, h1.out, h2.out, h3⟩

set_option maxHeartbeats 400000 in
theorem opens_full {w0 w : World} {P : SrvP} {c : Cf} {last : Int} {l : List (Int × Int)} {L : List Sess} (h : Srv w0 w P c last l L) (hf : c.frames < (L.length + 1) * c.quota) :
    Calls Tryz.prog 8 #[.pointer (some ⟨P.s, 0, none⟩), .int .i64 0, .int .i64 15] w fun e w' => e = .returned (.bool true) ∧ Srv w0 w' P c last l L := by
  have hO := Lib.hid (h.full hf)
  clear h hf
  go_enter Tryz.func8, Tryz.ntmps8
  go_wp2_with (go_at_call 16; refine (hO.out).mono ?_; rintro e w' ⟨rfl, h3⟩)
  go_ret
  exact ⟨rfl, h3⟩

/-- drains, of a call of Drain that tells no picture. -/
theorem drains_of {s : Nat} {id err : Int} {w : World} {R : World → Prop} (hD : Calls Tryz.prog 17 #[.pointer (some ⟨s, 0, none⟩), .int .i64 id] w fun e w' => e = .returned (.tuple #[noPic, .int .i64 err]) ∧ R w')
    (hR : ∀ w', R w' → R (w'.alloc (.cells #[.int .i64 0, .int .i64 0, .int .i64 0, .slice none 0 0] 53))) :
    Calls Tryz.prog 11 #[.pointer (some ⟨s, 0, none⟩), .int .i64 id, .int .i64 err] w fun e w' => e = .returned (.bool true) ∧ R w' := by
  have hD := Lib.hid hD
  have hR := Lib.hid hR
  go_enter Tryz.func11, Tryz.ntmps11
  go_wp2_with (go_at_call 17; refine (hD.out).mono ?_; rintro e w' ⟨rfl, h3⟩)
  go_ret
  exact ⟨rfl, hR.out _ h3⟩

def exC : Cf := ⟨2, 5, 2, 1024, 2⟩
theorem exC_ok : exC.ok := ⟨by decide, by decide, by decide, by decide, by decide⟩

/-- The chapter's server behind its first line. -/
def Two (w0 : World) (v : Value) (w : World) : Prop := ∃ P z1 z2, v = .pointer (some ⟨P.s, 0, none⟩) ∧ z1.id = 1 ∧ z1.begun ∧ z2.id = 2 ∧ z2.begun ∧ Srv w0 w P exC 2 [(1, 0), (2, 0)] [z1, z2]

set_option maxRecDepth 100000 in
set_option maxHeartbeats 1000000 in
theorem two_calls (w : World) : Calls Tryz.prog 5 #[] w fun e w' => ∃ v, e = .returned v ∧ Two w v w' := by
  have hN := Lib.hid (Srv.made exC exC_ok w)
  go_enter Tryz.func5, Tryz.ntmps5
  go_wp2_with fail
  refine (hN.out).mono ?_
  rintro e w1 ⟨P, rfl, h1⟩
  go_wp2_with fail
  refine (opens_yes h1 (by decide) (by decide) (by decide) (by decide)).mono ?_
  rintro e w2 ⟨z1, rfl, i1, b1, h2⟩
  have i1 := Lib.hid i1
  have b1 := Lib.hid b1
  clear h1
  go_wp2_with fail
  refine (opens_yes h2 (by simp [exC]) (by simp [exC]) (by decide) (by decide)).mono ?_
  rintro e w3 ⟨z2, rfl, i2, b2, h3⟩
  have i2 := Lib.hid i2
  have b2 := Lib.hid b2
  clear h2
  go_wp2_with fail
  refine (opens_full h3 (by simp [exC])).mono ?_
  rintro e w4 ⟨rfl, h4⟩
  clear h3
  go_wp2_with fail
  refine (vlive h4.at_ h4.cok h4.ok).mono ?_
  rintro e w5 ⟨v, rfl, hrow, hk⟩
  obtain ⟨a, cap, rfl, hI⟩ := introw_of_row hrow
  have h5 := h4.on hk
  clear h4 hrow
  go_wp2_with fail
  have hJ : IntRow (w5.alloc (.cells #[.int .i64 1, .int .i64 2] 3)) (some ⟨w5.heap.size, 0, none⟩) [1, 2] := ⟨by decide, fun i x hx => ⟨_, _, rfl, by
    rw [Nat.zero_add]
    rcases i with _ | _ | i
    · simp at hx; subst hx; exact cellOf (heap_new _ _) 0 rfl
    · simp at hx; subst hx; exact cellOf (heap_new _ _) 1 rfl
    · simp at hx⟩⟩
  have h6 := h5.on ((Keeps.refl [] w5).alloc (.cells #[.int .i64 1, .int .i64 2] 3))
  have hS := same_ints (c := cap) (d := 2) (hI.on ((Keeps.refl [] w5).alloc (.cells #[.int .i64 1, .int .i64 2] 3))) hJ
  have hd : decide (liveIds [(1, 0), (2, 0)] = [1, 2]) = true := by decide
  refine hS.mono ?_
  rintro e w6 ⟨rfl, hk6⟩
  have h7 := h6.on hk6
  rw [show decide (liveIds ([] ++ [((0 : Int) + 1, (0 : Int))] ++ [(0 + 1 + 1, 0)]) = [1, 2]) = true from hd]
  clear h5 h6 hS hJ hI hd
  go_wp2_with fail
  refine (vfree h7.at_ h7.cok).mono ?_
  rintro e w7 ⟨rfl, rfl⟩
  have hf : ((5 : Nat) : Int) = 5 := rfl
  go_wp2
  go_ret
  exact ⟨_, rfl, P, z1, z2, rfl, i1.out, b1.out, i2.out, b2.out, h7⟩

end Go.Proofs.YtkhokdikabopfaaGreatDoor
