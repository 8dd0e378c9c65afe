/-
  Server: plain words on its numbers; what is refused.
-/
import Derived.Test.YtkhokdikabopfaaGreatDoorServerA
namespace Go.Proofs.YtkhokdikabopfaaGreatDoor
open Go.RowKit Go.Shelf Go.Maps

/-- Numbers and live sessions belong together. -/
structure VOk (last : Int) (l : List (Int × Int)) (L : List Sess) : Prop where
  rise : Rising l
  live : L.map (·.id) = liveIds l
  new : ∀ p ∈ l, 1 ≤ p.1 ∧ p.1 ≤ last
  pos : 0 ≤ last
  few : L.length ≤ 64

theorem VOk.fresh : VOk 0 [] [] := ⟨⟨by simp, by simp, by simp⟩, rfl, by simp, by omega, by simp⟩

theorem VOk.nodup {last : Int} {l : List (Int × Int)} {L : List Sess} (h : VOk last l L) : (L.map (·.id)).Nodup := by
  rw [h.live]; unfold liveIds
  exact (h.rise.lt.imp (fun h => Int.ne_of_lt h)).sublist (List.Sublist.map _ List.filter_sublist)

theorem mem_liveIds {l : List (Int × Int)} {id : Int} : id ∈ liveIds l ↔ (id, 0) ∈ l := by
  unfold liveIds
  constructor
  · intro h
    obtain ⟨p, hp, rfl⟩ := List.mem_map.1 h
    obtain ⟨h1, h2⟩ := List.mem_filter.1 hp
    have : p.2 = 0 := by simpa using h2
    rw [← this]; exact h1
  · intro h
    exact List.mem_map.2 ⟨(id, 0), List.mem_filter.2 ⟨h, by simp⟩, rfl⟩

theorem VOk.mem {last : Int} {l : List (Int × Int)} {L : List Sess} (h : VOk last l L) {z : Sess} (hz : z ∈ L) : (z.id, 0) ∈ l := by
  rw [← mem_liveIds, ← h.live]; exact List.mem_map.2 ⟨z, hz, rfl⟩

theorem ended_fst (l : List (Int × Int)) (id c : Int) : (ended l id c).map (·.1) = l.map (·.1) := by
  simp only [ended, List.map_map]
  refine List.map_congr_left fun p _ => ?_
  by_cases h : p.1 = id <;> simp [h]

theorem liveIds_ended' {id c : Int} (hc : c ≠ 0) : ∀ {l : List (Int × Int)}, liveIds (ended l id c) = (liveIds l).filter (fun x => x != id) := by
  intro l
  induction l with
  | nil => rfl
  | cons p t ih =>
    obtain ⟨a, x⟩ := p
    simp only [liveIds, ended] at ih ⊢
    by_cases e : a = id
    · subst e
      by_cases ex : x = 0
      · subst ex; simp [hc, ih]
      · simp [hc, ex, ih]
    · by_cases ex : x = 0
      · subst ex; simp [e, ih]
      · simp [e, ex, ih]

theorem VOk.ended {last : Int} {l : List (Int × Int)} {L : List Sess} (h : VOk last l L) (id c : Int) (hc : c ≠ 0) : VOk last (ended l id c) (L.filter fun z => z.id != id) := by
  refine ⟨⟨by rw [ended_fst]; exact h.rise.lt, ?_, by simpa [Proofs.YtkhokdikabopfaaGreatDoor.ended] using h.rise.len⟩, ?_, ?_, h.pos, Nat.le_trans (List.length_filter_le _ _) h.few⟩
  · intro p hp
    have : p.1 ∈ (Proofs.YtkhokdikabopfaaGreatDoor.ended l id c).map (·.1) := List.mem_map.2 ⟨p, hp, rfl⟩
    rw [ended_fst] at this
    obtain ⟨q, hq, e⟩ := List.mem_map.1 this
    rw [← e]; exact h.rise.wf q hq
  · rw [liveIds_ended' hc, ← h.live, List.filter_map]; rfl
  · intro p hp
    have : p.1 ∈ (Proofs.YtkhokdikabopfaaGreatDoor.ended l id c).map (·.1) := List.mem_map.2 ⟨p, hp, rfl⟩
    rw [ended_fst] at this
    obtain ⟨q, hq, e⟩ := List.mem_map.1 this
    rw [← e]; exact h.new q hq

theorem VOk.more {last : Int} {l : List (Int × Int)} {L : List Sess} (h : VOk last l L) (hl : last < 1000) (hn : l.length < 1000) (hf : L.length < 64) (z : Sess) (hz : z.id = last + 1) : VOk (last + 1) (l ++ [(last + 1, 0)]) (L ++ [z]) := by
  have := h.pos
  refine ⟨⟨?_, ?_, by simp; omega⟩, ?_, ?_, by omega, by simp; omega⟩
  · rw [List.map_append, List.pairwise_append]
    refine ⟨h.rise.lt, by simp, fun a ha b hb => ?_⟩
    obtain ⟨p, hp, rfl⟩ := List.mem_map.1 ha
    simp at hb; subst hb
    have := (h.new p hp).2; omega
  · intro p hp
    simp at hp
    rcases hp with hp | rfl
    · exact h.rise.wf p hp
    · exact WalkArith.wf_i64 (by simp only; omega)
  · simp [liveIds, h.live, hz]
  · intro p hp
    simp at hp
    rcases hp with hp | rfl
    · have := h.new p hp; omega
    · simp; omega

/-- Why nothing is asked of a number; 0: it is live. -/
def vref (l : List (Int × Int)) (id : Int) : Int := if (causeOf l id).2 = 0 then (causeOf l id).1 else (causeOf l id).2

theorem SrvAt.on {w w' : World} {P : SrvP} {c : Cf} {last : Int} {l : List (Int × Int)} {L : List Sess} (h : SrvAt w P c last l L) (k : Keeps [] w w') : SrvAt w' P c last l L :=
  ⟨k.blk h.blk (by simp), ⟨k.blk h.tbl.blk (by simp), h.tbl.map.keep k (by simp)⟩, h.pool.keep k (by simp), h.out, h.cl.keep k (by simp), h.ne, Nat.le_trans h.top k.size,
    fun z hz => by obtain ⟨h1, h2, h3, h4, h5, h6, h7⟩ := h.sess z hz; exact ⟨h1.keep k (by simp), h2, h3, h4, h5, h6, Nat.le_trans h7 k.size⟩, h.sep⟩

theorem SrvAt.c {w : World} {P : SrvP} {c : Cf} {last : Int} {l : List (Int × Int)} {L : List Sess} (h : SrvAt w P c last l L) :
    w.cell? ⟨P.s, 1, none⟩ = some (.int .i64 c.frames) ∧ w.cell? ⟨P.s, 2, none⟩ = some (.int .i64 c.quota) ∧ w.cell? ⟨P.s, 3, none⟩ = some (.int .i64 c.room) ∧ w.cell? ⟨P.s, 4, none⟩ = some (.int .i64 c.slots) ∧
    w.cell? ⟨P.s, 5, none⟩ = some (.pointer (some ⟨P.t, 0, none⟩)) ∧ w.cell? ⟨P.s, 6, none⟩ = some (.pointer (some ⟨P.p, 0, none⟩)) ∧ w.cell? ⟨P.s, 7, none⟩ = some (.map (some P.cb)) :=
  ⟨cellOf h.blk 1 rfl, cellOf h.blk 2 rfl, cellOf h.blk 3 rfl, cellOf h.blk 4 rfl, cellOf h.blk 5 rfl, cellOf h.blk 6 rfl, cellOf h.blk 7 rfl⟩

set_option maxHeartbeats 800000 in
theorem vask_int_no {P : SrvP} {c : Cf} {last : Int} {l : List (Int × Int)} {L : List Sess} {w : World} (h : SrvAt w P c last l L) (hc : c.ok) (id : Int) (what : Value) (hr : vref l id ≠ 0) :
    Calls Tryz.prog 25 #[.pointer (some ⟨P.s, 0, none⟩), .int .i64 id, what] w fun e w' => e = .returned (.tuple #[.int .i64 0, .int .i64 (vref l id)]) ∧ Keeps [] w w' := by
  obtain ⟨c1, c2, c3, c4, c5, c6, c7⟩ := h.c
  have hC := cause_any h.tbl (by have := hc.s.1; omega) id
  unfold vref at hr ⊢
  generalize causeOf l id = q at hC hr ⊢
  obtain ⟨a, b⟩ := q
  simp only at hC hr ⊢
  have hC := Lib.hid hC
  clear h hc
  by_cases hb : b = 0
  · subst hb
    rw [if_pos rfl] at hr ⊢
    have hr0 : (a == 0) = false := by simpa using hr
    clear hr
    go_enter Tryz.func25, Tryz.ntmps25
    go_wp2_with (first
      | (go_at_call 31; refine (vnone c5).mono ?_; rintro e w' ⟨rfl, rfl⟩)
      | (go_at_call 32; refine (hC.out).mono ?_; rintro e w1 ⟨rfl, hk⟩))
    go_ret2
    exact ⟨rfl, hk⟩
  · rw [if_neg hb] at hr ⊢
    have hb0 : (b == 0) = false := by simpa using hb
    clear hr hb
    go_enter Tryz.func25, Tryz.ntmps25
    go_wp2_with (first
      | (go_at_call 31; refine (vnone c5).mono ?_; rintro e w' ⟨rfl, rfl⟩)
      | (go_at_call 32; refine (hC.out).mono ?_; rintro e w1 ⟨rfl, hk⟩))
    go_ret2
    exact ⟨rfl, hk⟩

set_option maxHeartbeats 800000 in
theorem vask_bool_no {P : SrvP} {c : Cf} {last : Int} {l : List (Int × Int)} {L : List Sess} {w : World} (h : SrvAt w P c last l L) (hc : c.ok) (id : Int) (what : Value) (hr : vref l id ≠ 0) :
    Calls Tryz.prog 33 #[.pointer (some ⟨P.s, 0, none⟩), .int .i64 id, what] w fun e w' => e = .returned (.tuple #[.bool false, .int .i64 (vref l id)]) ∧ Keeps [] w w' := by
  obtain ⟨c1, c2, c3, c4, c5, c6, c7⟩ := h.c
  have hC := cause_any h.tbl (by have := hc.s.1; omega) id
  unfold vref at hr ⊢
  generalize causeOf l id = q at hC hr ⊢
  obtain ⟨a, b⟩ := q
  simp only at hC hr ⊢
  have hC := Lib.hid hC
  clear h hc
  by_cases hb : b = 0
  · subst hb
    rw [if_pos rfl] at hr ⊢
    have hr0 : (a == 0) = false := by simpa using hr
    clear hr
    go_enter Tryz.func33, Tryz.ntmps33
    go_wp2_with (first
      | (go_at_call 31; refine (vnone c5).mono ?_; rintro e w' ⟨rfl, rfl⟩)
      | (go_at_call 32; refine (hC.out).mono ?_; rintro e w1 ⟨rfl, hk⟩))
    go_ret2
    exact ⟨rfl, hk⟩
  · rw [if_neg hb] at hr ⊢
    have hb0 : (b == 0) = false := by simpa using hb
    clear hr hb
    go_enter Tryz.func33, Tryz.ntmps33
    go_wp2_with (first
      | (go_at_call 31; refine (vnone c5).mono ?_; rintro e w' ⟨rfl, rfl⟩)
      | (go_at_call 32; refine (hC.out).mono ?_; rintro e w1 ⟨rfl, hk⟩))
    go_ret2
    exact ⟨rfl, hk⟩


end Go.Proofs.YtkhokdikabopfaaGreatDoor
