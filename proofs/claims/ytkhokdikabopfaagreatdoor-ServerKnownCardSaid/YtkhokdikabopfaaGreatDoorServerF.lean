/-
  Server: End, Close, Evict.
-/
import Derived.Test.YtkhokdikabopfaaGreatDoorServerE
namespace Go.Proofs.YtkhokdikabopfaaGreatDoor
open Go.RowKit Go.Shelf Go.Maps

/-- One of the sessions, as it is now. -/
def swap (L : List Sess) (z : Sess) : List Sess := L.map fun y => if y.id = z.id then z else y

theorem swap_ids (L : List Sess) (z : Sess) : (swap L z).map (·.id) = L.map (·.id) := by
  simp only [swap, List.map_map]
  refine List.map_congr_left fun y _ => ?_
  by_cases h : y.id = z.id <;> simp [h]
theorem mem_swap {L : List Sess} {z z' : Sess} (hz : z ∈ L) (hid : z'.id = z.id) : z' ∈ swap L z' := List.mem_map.2 ⟨z, hz, by rw [if_pos hid.symm]⟩

theorem VOk.swap {last : Int} {l : List (Int × Int)} {L : List Sess} (h : VOk last l L) (z : Sess) : VOk last l (swap L z) :=
  ⟨h.rise, by rw [swap_ids]; exact h.live, h.new, h.pos, by simpa [Proofs.YtkhokdikabopfaaGreatDoor.swap] using h.few⟩

theorem id_inj : ∀ {L : List Sess}, (L.map (·.id)).Nodup → ∀ {a b : Sess}, a ∈ L → b ∈ L → a.id = b.id → a = b
  | x :: t, hn, a, b, ha, hb, e => by
    simp only [List.map_cons, List.nodup_cons] at hn
    simp only [List.mem_cons] at ha hb
    rcases ha with rfl | ha <;> rcases hb with rfl | hb
    · rfl
    · exact absurd (List.mem_map.2 ⟨b, hb, e.symm⟩) hn.1
    · exact absurd (List.mem_map.2 ⟨a, ha, e⟩) hn.1
    · exact id_inj hn.2 ha hb e

theorem SrvAt.turn {P : SrvP} {c : Cf} {last : Int} {l : List (Int × Int)} {L : List Sess} {w w' : World} (h : SrvAt w P c last l L) (hO : VOk last l L) {z z' : Sess} (hz : z ∈ L) (hid : z'.id = z.id) (hk : z'.k = z.k) (hlo : z'.lo = z.lo) (hhi : z'.hi = z.hi)
    {lst : List Nat} (K : Keeps lst w w') (hl : ∀ b ∈ lst, z.lo ≤ b ∧ b < z.hi) (hs : SessAt w' P.p c.room c.slots z') : SrvAt w' P c last l (swap L z') := by
  obtain ⟨q1, q2, q3, q4, q5, q6, q7⟩ := h.sess z hz
  have hf : ∀ y ∈ L, y.id = z'.id → y = z := fun y hy e => id_inj hO.nodup hy hz (e.trans hid)
  have hb : ∀ b, b < z.lo → b ∉ lst := fun b h1 h2 => by have := hl b h2; omega
  refine ⟨K.blk h.blk (hb _ q5), ⟨K.blk h.tbl.blk (hb _ q2), h.tbl.map.keep K (hb _ q3)⟩, h.pool.keep K (fun b hb => by have := hl b hb; omega), h.out, ?_, h.ne, Nat.le_trans h.top K.size, ?_, ?_⟩
  · have e : (swap L z').map (fun z => (z.id, Value.pointer (some ⟨z.k, 0, none⟩))) = L.map fun z => (z.id, Value.pointer (some ⟨z.k, 0, none⟩)) := by
      simp only [swap, List.map_map]
      refine List.map_congr_left fun y hy => ?_
      by_cases e : y.id = z'.id
      · have := hf y hy e; subst this; simp [e, hk]
      · simp [e]
    rw [e]; exact h.cl.keep K (hb _ q4)
  · intro y hy
    obtain ⟨x, hx, rfl⟩ := List.mem_map.1 hy
    by_cases e : x.id = z'.id
    · rw [if_pos e]
      refine ⟨hs, ?_⟩
      rw [hlo, hhi]
      exact ⟨q2, q3, q4, q5, q6, Nat.le_trans q7 K.size⟩
    · rw [if_neg e]
      obtain ⟨r1, r2, r3, r4, r5, r6, r7⟩ := h.sess x hx
      have := sep_of h.sep hx hz (fun e2 => e (e2.trans hid.symm))
      exact ⟨r1.keep K (fun b hb => by have := hl b hb; omega), r2, r3, r4, r5, r6, Nat.le_trans r7 K.size⟩
  · unfold swap
    rw [List.pairwise_map]
    refine h.sep.imp_of_mem fun {a b} ha hb hab => ?_
    have f : ∀ y ∈ L, (if y.id = z'.id then z' else y).lo = y.lo ∧ (if y.id = z'.id then z' else y).hi = y.hi := by
      intro y hy
      by_cases e : y.id = z'.id
      · have := hf y hy e; subst this; rw [if_pos e]; exact ⟨hlo, hhi⟩
      · rw [if_neg e]; exact ⟨rfl, rfl⟩
    rw [(f a ha).2, (f b hb).1]; exact hab

set_option maxHeartbeats 400000 in
theorem vend1 {w : World} {p : Nat} {room : Int} {slots : Nat} {z : Sess} (h : SessAt w p room slots z) (h1 : 1 ≤ room) (hc : (z.cause == 21) = false) (he : z.ended = false) :
    Calls Tryz.prog 34 #[.pointer (some ⟨z.k, 0, none⟩)] w (Told2 fun _ e w' => e = 0 ∧ Keeps [z.q] w w' ∧ SessAt w' p room slots { z with ended := true }) := by
  have k0 : w.cell? ⟨z.k, 0, none⟩ = some (.pointer (some ⟨z.x, 0, none⟩)) := cellOf h.k 0 rfl
  have hE := Lib.hid (send h h1 hc he)
  clear h hc he
  go_enter Tryz.func34, Tryz.ntmps34
  go_wp2_with (go_at_call 35; refine (hE.out).mono ?_; rintro e w' ⟨rfl, hk, hS⟩)
  go_ret2
  exact ⟨_, _, rfl, rfl, hk, hS⟩

set_option maxHeartbeats 400000 in
theorem vend {P : SrvP} {c : Cf} {last : Int} {l : List (Int × Int)} {L : List Sess} {w : World} (h : SrvAt w P c last l L) (hc : c.ok) (hO : VOk last l L) {z : Sess} (hz : z ∈ L) (hcz : (z.cause == 21) = false) (he : z.ended = false) :
    Calls Tryz.prog 10 #[.pointer (some ⟨P.s, 0, none⟩), .int .i64 z.id] w fun e w' => e = .returned (.int .i64 0) ∧ Keeps [z.q] w w' ∧ SrvAt w' P c last l (swap L { z with ended := true }) := by
  have hA := vask_bool_yes h hc hO hz 34 #[] (enters_of Tryz.func34 (by kernel_rfl) rfl) (fun _ e w' => e = 0 ∧ Keeps [z.q] w w' ∧ SessAt w' P.p c.room c.slots { z with ended := true })
    (fun w1 hk => (vend1 ((h.sess z hz).1.keep hk (by simp)) (by have := hc.r.1; omega) hcz he).mono fun _ _ ⟨x, e, h1, h2, h3, h4⟩ => ⟨x, e, h1, h2, (hk.mono (by simp)).trans h3, h4⟩)
  have hA := Lib.hid hA
  have hn := (h.sess z hz).1.ne
  have HT : Hid (∀ w', Keeps [z.q] w w' → SessAt w' P.p c.room c.slots { z with ended := true } → SrvAt w' P c last l (swap L { z with ended := true })) := Lib.hid fun w' k s => h.turn hO hz rfl rfl rfl rfl k (by simp; omega) s
  clear h hc hO he hcz
  go_enter Tryz.func10, Tryz.ntmps10
  go_wp2_with (go_at_call 33; refine (hA.out).mono ?_; rintro e w' ⟨x, e2, rfl, rfl, hk, hS⟩)
  go_ret
  exact ⟨rfl, hk, HT.out _ hk hS⟩

set_option maxHeartbeats 400000 in
theorem vout1 {P : SrvP} {c : Cf} {last : Int} {l : List (Int × Int)} {L : List Sess} {w : World} (h : SrvAt w P c last l L) (hc : c.ok) (hO : VOk last l L) {z : Sess} (hz : z ∈ L) (cause : Int) (hcz : cause ≠ 0) (x : Value) (a0 a1 a2 : Nat)
    (d0 : w.cell? ⟨a0, 0, none⟩ = some (.pointer (some ⟨P.s, 0, none⟩))) (d1 : w.cell? ⟨a1, 0, none⟩ = some (.int .i64 z.id)) (d2 : w.cell? ⟨a2, 0, none⟩ = some (.int .i64 cause)) :
    Calls Tryz.prog 53 #[x, .pointer (some ⟨a0, 0, none⟩), .pointer (some ⟨a1, 0, none⟩), .pointer (some ⟨a2, 0, none⟩)] w (Told2 fun _ e w' => e = 0 ∧ Keeps [z.x, z.o, P.cb, P.tb] w w' ∧ SrvAt w' P c last (ended l z.id cause) (L.filter fun y => y.id != z.id)) := by
  have hE := Lib.hid (vends h hc hO hz cause hcz)
  clear h hc hO hcz
  go_enter Tryz.func53, Tryz.ntmps53
  go_wp2_with (go_at_call 40; refine (hE.out).mono ?_; rintro e w' ⟨rfl, hk, hS⟩)
  go_ret2
  exact ⟨_, _, rfl, rfl, hk, hS⟩

set_option maxHeartbeats 800000 in
theorem vout {P : SrvP} {c : Cf} {last : Int} {l : List (Int × Int)} {L : List Sess} {w : World} (h : SrvAt w P c last l L) (hc : c.ok) (hO : VOk last l L) {z : Sess} (hz : z ∈ L) (cause : Int) (hcz : cause ≠ 0) :
    Calls Tryz.prog 24 #[.pointer (some ⟨P.s, 0, none⟩), .int .i64 z.id, .int .i64 cause] w fun e w' => e = .returned (.int .i64 0) ∧ Keeps [z.x, z.o, P.cb, P.tb] w w' ∧ SrvAt w' P c last (ended l z.id cause) (L.filter fun y => y.id != z.id) := by
  obtain ⟨w1, hw1⟩ : ∃ w1, w1 = ((w.alloc (.cells #[.pointer (some ⟨P.s, 0, none⟩)] 22)).alloc (.cells #[.int .i64 z.id] 3)).alloc (.cells #[.int .i64 cause] 24) := ⟨_, rfl⟩
  have hk1 : Keeps [] w w1 := by rw [hw1]; exact (((Keeps.refl _ _).alloc _).alloc _).alloc _
  have hk0 : Keeps [] (((w.alloc (.cells #[.pointer (some ⟨P.s, 0, none⟩)] 22)).alloc (.cells #[.int .i64 z.id] 3)).alloc (.cells #[.int .i64 cause] 24)) w1 := by rw [hw1]; exact Keeps.refl _ _
  obtain ⟨b0, b1, b2, -⟩ := hk0.new3 (by simp) (by simp) (by simp)
  have e0 := cellOf b0 0 rfl
  have e1 := cellOf b1 0 rfl
  have e2 := cellOf b2 0 rfl
  have hA := vask_bool_yes (h.on hk1) hc hO hz 53 #[.pointer (some ⟨w.heap.size, 0, none⟩), .pointer (some ⟨w.heap.size + 1, 0, none⟩), .pointer (some ⟨w.heap.size + 2, 0, none⟩)] (enters_of Tryz.func53 (by kernel_rfl) rfl)
    (fun _ e w' => e = 0 ∧ Keeps [z.x, z.o, P.cb, P.tb] w1 w' ∧ SrvAt w' P c last (ended l z.id cause) (L.filter fun y => y.id != z.id))
    (fun w2 hk => (vout1 ((h.on hk1).on hk) hc hO hz cause hcz _ _ _ _ (hk.cell e0 (by simp)) (hk.cell e1 (by simp)) (hk.cell e2 (by simp))).mono fun _ _ ⟨x, e, h1, h2, h3, h4⟩ => ⟨x, e, h1, h2, (hk.mono (by simp)).trans h3, h4⟩)
  have hA := Lib.hid hA
  have HT := Lib.hid hk1
  have hw1 := Lib.hid hw1
  clear h hc hO hcz hk0 b0 b1 b2 hk1
  go_enter Tryz.func24, Tryz.ntmps24
  go_wp2_with fail
  rw [← hw1.out]
  go_wp2_with (go_at_call 33; refine (hA.out).mono ?_; rintro e w' ⟨x, e2, rfl, rfl, hk, hS⟩)
  go_ret
  exact ⟨rfl, (HT.out.mono (by simp)).trans hk, hS⟩

set_option maxHeartbeats 400000 in
theorem vClose {P : SrvP} {c : Cf} {last : Int} {l : List (Int × Int)} {L : List Sess} {w : World} (h : SrvAt w P c last l L) (hc : c.ok) (hO : VOk last l L) {z : Sess} (hz : z ∈ L) :
    Calls Tryz.prog 6 #[.pointer (some ⟨P.s, 0, none⟩), .int .i64 z.id] w fun e w' => e = .returned (.int .i64 0) ∧ Keeps [z.x, z.o, P.cb, P.tb] w w' ∧ SrvAt w' P c last (ended l z.id 21) (L.filter fun y => y.id != z.id) := by
  have hO2 := Lib.hid (vout h hc hO hz 21 (by decide))
  clear h hc hO
  go_enter Tryz.func6, Tryz.ntmps6
  go_wp2_with (go_at_call 24; refine (hO2.out).mono ?_; rintro e w1 ⟨rfl, hk, hS⟩)
  go_ret
  exact ⟨rfl, hk, hS⟩

set_option maxHeartbeats 400000 in
theorem vClose_no {P : SrvP} {c : Cf} {last : Int} {l : List (Int × Int)} {L : List Sess} {w : World} (h : SrvAt w P c last l L) (hc : c.ok) (id : Int) (hr : vref l id ≠ 0) :
    Calls Tryz.prog 6 #[.pointer (some ⟨P.s, 0, none⟩), .int .i64 id] w fun e w' => e = .returned (.int .i64 (vref l id)) ∧ Keeps [] w w' := by
  have hO : Hid (∀ w', Keeps [] w w' → ∀ f, _) := Lib.hid fun w' (k : Keeps [] w w') => fun f => vask_bool_no (h.on k) hc id f hr
  have hO2 : Calls Tryz.prog 24 #[.pointer (some ⟨P.s, 0, none⟩), .int .i64 id, .int .i64 21] w fun e w' => e = .returned (.int .i64 (vref l id)) ∧ Keeps [] w w' := by
    clear h hc hr
    go_enter Tryz.func24, Tryz.ntmps24
    go_wp2_with (go_at_call 33; refine (hO.out _ (by repeat (first | exact Keeps.refl _ _ | assumption | refine Keeps.drew ?_ | refine Keeps.drewN ?_ _ | refine Keeps.alloc ?_ _ | refine Keeps.setCell ?_ (by simp <;> omega) _ | refine Keeps.trans ?_ (by assumption))) _).mono ?_; rintro e w' ⟨rfl, hk⟩)
    go_ret
    exact ⟨rfl, (by repeat (first | exact Keeps.refl _ _ | assumption | refine Keeps.drew ?_ | refine Keeps.drewN ?_ _ | refine Keeps.alloc ?_ _ | refine Keeps.setCell ?_ (by simp <;> omega) _ | refine Keeps.trans ?_ (by assumption)))⟩
  have hO2 := Lib.hid hO2
  clear h hc hr
  go_enter Tryz.func6, Tryz.ntmps6
  go_wp2_with (go_at_call 24; refine (hO2.out).mono ?_; rintro e w1 ⟨rfl, hk⟩)
  go_ret
  exact ⟨rfl, hk⟩

set_option maxHeartbeats 400000 in
theorem vEvict {P : SrvP} {c : Cf} {last : Int} {l : List (Int × Int)} {L : List Sess} {w : World} (h : SrvAt w P c last l L) (hc : c.ok) (hO : VOk last l L) {z : Sess} (hz : z ∈ L) :
    Calls Tryz.prog 20 #[.pointer (some ⟨P.s, 0, none⟩), .int .i64 z.id] w fun e w' => e = .returned (.int .i64 0) ∧ Keeps [z.x, z.o, P.cb, P.tb] w w' ∧ SrvAt w' P c last (ended l z.id 22) (L.filter fun y => y.id != z.id) := by
  have hO2 := Lib.hid (vout h hc hO hz 22 (by decide))
  clear h hc hO
  go_enter Tryz.func20, Tryz.ntmps20
  go_wp2_with (go_at_call 24; refine (hO2.out).mono ?_; rintro e w1 ⟨rfl, hk, hS⟩)
  go_ret
  exact ⟨rfl, hk, hS⟩

set_option maxHeartbeats 400000 in
theorem vEvict_no {P : SrvP} {c : Cf} {last : Int} {l : List (Int × Int)} {L : List Sess} {w : World} (h : SrvAt w P c last l L) (hc : c.ok) (id : Int) (hr : vref l id ≠ 0) :
    Calls Tryz.prog 20 #[.pointer (some ⟨P.s, 0, none⟩), .int .i64 id] w fun e w' => e = .returned (.int .i64 (vref l id)) ∧ Keeps [] w w' := by
  have hO : Hid (∀ w', Keeps [] w w' → ∀ f, _) := Lib.hid fun w' (k : Keeps [] w w') => fun f => vask_bool_no (h.on k) hc id f hr
  have hO2 : Calls Tryz.prog 24 #[.pointer (some ⟨P.s, 0, none⟩), .int .i64 id, .int .i64 22] w fun e w' => e = .returned (.int .i64 (vref l id)) ∧ Keeps [] w w' := by
    clear h hc hr
    go_enter Tryz.func24, Tryz.ntmps24
    go_wp2_with (go_at_call 33; refine (hO.out _ (by repeat (first | exact Keeps.refl _ _ | assumption | refine Keeps.drew ?_ | refine Keeps.drewN ?_ _ | refine Keeps.alloc ?_ _ | refine Keeps.setCell ?_ (by simp <;> omega) _ | refine Keeps.trans ?_ (by assumption))) _).mono ?_; rintro e w' ⟨rfl, hk⟩)
    go_ret
    exact ⟨rfl, (by repeat (first | exact Keeps.refl _ _ | assumption | refine Keeps.drew ?_ | refine Keeps.drewN ?_ _ | refine Keeps.alloc ?_ _ | refine Keeps.setCell ?_ (by simp <;> omega) _ | refine Keeps.trans ?_ (by assumption)))⟩
  have hO2 := Lib.hid hO2
  clear h hc hr
  go_enter Tryz.func20, Tryz.ntmps20
  go_wp2_with (go_at_call 24; refine (hO2.out).mono ?_; rintro e w1 ⟨rfl, hk⟩)
  go_ret
  exact ⟨rfl, hk⟩


end Go.Proofs.YtkhokdikabopfaaGreatDoor
