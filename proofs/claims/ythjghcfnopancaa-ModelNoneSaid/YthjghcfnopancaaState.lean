/-
  A model's state, in plain words: what each call answers, and leaves.
-/
import Derived.Test.YthjghcfnopancaaAskSt
namespace Go.Proofs.Ythjghcfnopancaa
open Go.RowKit

/-- A configuration that New takes. -/
structure Cf.ok (c : Cf) : Prop where
  s : 1 ≤ c.sessions ∧ c.sessions ≤ 64
  f : 1 ≤ c.frames ∧ c.frames ≤ 64
  q : 2 ≤ c.quota ∧ c.quota ≤ c.frames
  r : 1024 ≤ c.room ∧ c.room ≤ 1048576
  o : 1 ≤ c.slots ∧ c.slots ≤ 1000

/-- A state that calls can lead to. -/
structure Valid (S : MS) : Prop where
  ok : S.c.ok
  few : ((liveIds S.l).length : Int) ≤ S.c.sessions
  rise : Rising S.l
  last : S.last = S.l.length
  lim : S.l.length ≤ 1000
  bound : ∀ p ∈ S.l, 1 ≤ p.1 ∧ p.1 ≤ S.last
  live : S.live.map (·.1) = liveIds S.l

theorem Valid.s1 {S : MS} (h : Valid S) : 1 ≤ S.c.sessions := h.ok.s.1
theorem Valid.s2 {S : MS} (h : Valid S) : S.c.sessions ≤ 64 := h.ok.s.2

theorem Valid.nodup {S : MS} (h : Valid S) : (S.live.map (·.1)).Nodup := by
  rw [h.live]; unfold liveIds
  exact (h.rise.lt.imp (fun h => Int.ne_of_lt h)).sublist (List.Sublist.map _ List.filter_sublist)

theorem causeOf_of_mem {l : List (Int × Int)} (hn : (l.map (·.1)).Nodup) {id c : Int} (h : (id, c) ∈ l) : causeOf l id = (c, 0) := by
  unfold causeOf
  cases hq : l.find? (fun p => p.1 == id) with
  | none => have := List.find?_eq_none.1 hq _ h; simp at this
  | some q =>
    have hq1 := List.mem_of_find?_eq_some hq
    have hq2 : q.1 = id := by simpa using List.find?_some hq
    rw [nodup_fst hn hq1 h hq2]

/-- A number is refused, or it is live and known. -/
theorem Valid.cases {S : MS} (h : Valid S) (id : Int) : refusal S.l id ≠ 0 ∨ (refusal S.l id = 0 ∧ ∃ k, (id, k) ∈ S.live ∧ (id, 0) ∈ S.l ∧ causeOf S.l id = (0, 0)) := by
  by_cases hr : refusal S.l id = 0
  · right
    refine ⟨hr, ?_⟩
    unfold refusal at hr
    cases hq : S.l.find? (fun p => p.1 == id) with
    | none => simp [causeOf, hq] at hr
    | some q =>
      have hq1 := List.mem_of_find?_eq_some hq
      have hq2 : q.1 = id := by simpa using List.find?_some hq
      simp [causeOf, hq] at hr
      have hq3 : (id, 0) ∈ S.l := by
        have : q = (id, 0) := by rw [← hq2, ← hr]
        rw [← this]; exact hq1
      have hm : id ∈ S.live.map (·.1) := by
        rw [h.live]; exact List.mem_map.2 ⟨(id, 0), List.mem_filter.2 ⟨hq3, by simp⟩, rfl⟩
      obtain ⟨p, hp, rfl⟩ := List.mem_map.1 hm
      exact ⟨p.2, hp, hq3, causeOf_of_mem h.rise.nodup hq3⟩
  · exact .inl hr

def MS.get (S : MS) (id : Int) : Option Kn := (S.live.find? (fun p => p.1 == id)).map (·.2)
def MS.set (S : MS) (id : Int) (k : Kn) : MS := { S with live := S.live.map fun p => if p.1 = id then (id, k) else p }

theorem MS.get_of {S : MS} (hn : (S.live.map (·.1)).Nodup) {id : Int} {k : Kn} (h : (id, k) ∈ S.live) : S.get id = some k := by
  unfold MS.get
  cases hq : S.live.find? (fun p => p.1 == id) with
  | none => have := List.find?_eq_none.1 hq _ h; simp at this
  | some q =>
    have hq1 := List.mem_of_find?_eq_some hq
    have hq2 : q.1 = id := by simpa using List.find?_some hq
    rw [nodup_fst hn hq1 h hq2]; rfl

theorem map_if_id {α : Type} (id : Int) (k : α) : ∀ t : List (Int × α), id ∉ t.map (·.1) → t.map (fun p => if p.1 = id then (id, k) else p) = t := by
  intro t h
  refine (List.map_congr_left fun p hp => ?_).trans (List.map_id t)
  have : p.1 ≠ id := fun e => h (List.mem_map.2 ⟨p, hp, e⟩)
  simp [this]

theorem put_lmap {id : Int} {k : Kn} : ∀ {l : List (Int × Kn)}, (l.map (·.1)).Nodup → id ∈ l.map (·.1) → put (lmap l) id k.val = lmap (l.map fun p => if p.1 = id then (id, k) else p)
  | (a, x) :: t, hn, h => by
    simp only [List.map_cons, List.nodup_cons] at hn
    by_cases e : id = a
    · subst e
      have := map_if_id id k t hn.1
      simp only [lmap] at this ⊢
      simp [put, this]
    · have e' : ¬ a = id := fun h => e h.symm
      have h2 : id ∈ t.map (·.1) := by simp only [List.map_cons, List.mem_cons] at h; rcases h with h | h; exact absurd h e; exact h
      have := put_lmap (k := k) hn.2 h2
      simp only [lmap] at this ⊢
      simp [put, e, e', this]

theorem del_lmap {id : Int} : ∀ {l : List (Int × Kn)}, (l.map (·.1)).Nodup → del (lmap l) id = lmap (l.filter fun p => p.1 != id)
  | [], _ => rfl
  | (a, x) :: t, hn => by
    simp only [List.map_cons, List.nodup_cons] at hn
    have ih := del_lmap (id := id) hn.2
    by_cases e : id = a
    · subst e
      have h2 : t.filter (fun p => p.1 != id) = t := by
        rw [List.filter_eq_self]
        intro p hp
        have : p.1 ≠ id := fun e => hn.1 (List.mem_map.2 ⟨p, hp, e⟩)
        simpa using this
      simp [lmap, del, h2]
    · have e' : ¬ a = id := fun h => e h.symm
      simp only [lmap] at ih ⊢
      simp [del, e, e', ih]

theorem MS.set_keys (S : MS) (id : Int) (k : Kn) : (S.set id k).live.map (·.1) = S.live.map (·.1) := by
  simp only [MS.set, List.map_map]
  refine List.map_congr_left fun p _ => ?_
  by_cases h : p.1 = id <;> simp [h]

theorem Valid.set {S : MS} (h : Valid S) (id : Int) (k : Kn) : Valid (S.set id k) :=
  ⟨h.ok, h.few, h.rise, h.last, h.lim, h.bound, by rw [MS.set_keys]; exact h.live⟩

/-- A number is over. -/
def MS.over (S : MS) (id c : Int) : MS := { S with l := ended S.l id c, live := S.live.filter fun p => p.1 != id }

theorem ended_keys (l : List (Int × Int)) (id c : Int) : (ended l id c).map (·.1) = l.map (·.1) := by
  simp only [ended, List.map_map]
  refine List.map_congr_left fun p _ => ?_
  by_cases h : p.1 = id <;> simp [h]

theorem liveIds_ended {id c : Int} (hc : c ≠ 0) : ∀ {l : List (Int × Int)}, liveIds (ended l id c) = (liveIds l).filter (fun x => x != id) := by
  intro l
  induction l with
  | nil => rfl
  | cons p t ih =>
    obtain ⟨a, x⟩ := p
    simp only [liveIds, ended] at ih ⊢
    have hcz : (c == 0) = false := by simpa using hc
    by_cases e : a = id
    · by_cases hx : x = 0
      · simp [e, hcz, hx]; simpa using ih
      · have hx' : (x == 0) = false := by simpa using hx
        simp [e, hcz, hx']; simpa using ih
    · by_cases hx : x = 0
      · simp [e, hx]; simpa using ih
      · have hx' : (x == 0) = false := by simpa using hx
        simp [e, hx']; simpa using ih

theorem Valid.over {S : MS} (h : Valid S) (id c : Int) (hc : c ≠ 0) : Valid (S.over id c) := by
  have hk := ended_keys S.l id c
  have hlen : (ended S.l id c).length = S.l.length := by simp [ended]
  have hmem : ∀ p ∈ ended S.l id c, ∃ q ∈ S.l, q.1 = p.1 := by
    intro p hp
    have : p.1 ∈ (ended S.l id c).map (·.1) := List.mem_map.2 ⟨p, hp, rfl⟩
    rw [hk] at this
    obtain ⟨q, hq, e⟩ := List.mem_map.1 this
    exact ⟨q, hq, e⟩
  refine ⟨h.ok, by simp only [MS.over]; rw [liveIds_ended hc]; have h1 := List.length_filter_le (fun x => x != id) (liveIds S.l); have h2 := h.few; omega, ⟨by simp only [MS.over]; rw [hk]; exact h.rise.lt, fun p hp => ?_, by simp only [MS.over]; rw [hlen]; exact h.rise.len⟩, by simp only [MS.over]; rw [hlen]; exact h.last, by simp only [MS.over]; rw [hlen]; exact h.lim, fun p hp => ?_, ?_⟩
  · obtain ⟨q, hq, e⟩ := hmem p hp
    rw [← e]; exact h.rise.wf q hq
  · obtain ⟨q, hq, e⟩ := hmem p hp
    rw [← e]; exact h.bound q hq
  · simp only [MS.over]
    rw [liveIds_ended hc, ← h.live]
    induction S.live with
    | nil => rfl
    | cons p t ih => by_cases e : p.1 = id <;> simp [e]; simpa using ih; simpa using ih

/-- What hangs on bytes and bits. -/
def Kn.counts (k : Kn) (room : Int) : Kn :=
  { k with s := { k.s with left := wrap64 (wrap64 (8 * k.came) - k.s.gone), free := wrap64 (wrap64 (room - k.came) + wrap64 (k.s.gone.tdiv 8)) } }

/-- Feed: how many, the error, the state. -/
def MS.feed (S : MS) (id n : Int) : Int × Int × MS :=
  if refusal S.l id ≠ 0 then (0, refusal S.l id, S) else
  match S.get id with
  | none => (0, 18, S)
  | some k =>
    if n < 0 then (0, 3, S) else if k.ended then (0, 20, S) else
    (min n k.s.free, 0, S.set id (({ k with came := wrap64 (k.came + min n k.s.free) } : Kn).counts S.c.room))
/-- End. -/
def MS.stop (S : MS) (id : Int) : Int × MS :=
  if refusal S.l id ≠ 0 then (refusal S.l id, S) else
  match S.get id with
  | none => (18, S)
  | some k => if k.ended then (20, S) else (0, S.set id { k with ended := true })

/-- Is a status possible for it? -/
def Kn.may (k : Kn) (c : Cf) (s : St) : Bool :=
  decide ((({ k with s := s } : Kn).counts c.room).s = s) && decide (k.s.gone ≤ s.gone ∧ s.gone ≤ wrap64 (8 * k.came)) && decide (0 ≤ s.queued ∧ s.queued ≤ c.slots) && decide (0 ≤ s.frames ∧ s.frames ≤ c.quota) &&
    decide (k.s.pictures ≤ s.pictures) && (k.s.cause == 0 || s.cause == k.s.cause)
/-- See. -/
def MS.see (S : MS) (id : Int) (s : St) : Int × MS :=
  if refusal S.l id ≠ 0 then (refusal S.l id, S) else
  match S.get id with
  | none => (18, S)
  | some k => if k.may S.c s then (0, S.set id (({ k with s := s } : Kn).counts S.c.room)) else (2, S)
/-- Close, Evict. -/
def MS.out (S : MS) (id c : Int) : Int × MS :=
  if refusal S.l id ≠ 0 then (refusal S.l id, S) else (0, S.over id c)
/-- Drain. -/
def MS.drain (S : MS) (id : Int) : Int × MS :=
  if refusal S.l id ≠ 0 then (refusal S.l id, S) else
  match S.get id with
  | none => (18, S)
  | some k =>
    if k.s.queued = 0 ∧ k.s.cause = 0 then (16, S) else
    if 0 < k.s.queued then (0, S.set id { k with s := { k.s with queued := max (wrap64 (k.s.queued - 1)) 0 } }) else
    (k.s.cause, (S.set id { k with s := { k.s with queued := max (wrap64 (k.s.queued - 1)) 0 } }).over id k.s.cause)
/-- Open. -/
def MS.opens (S : MS) : Int × Int × MS :=
  if S.c.frames < ((S.live.length : Int) + 1) * S.c.quota then (0, 15, S) else
  if (liveIds S.l).length = S.c.sessions then (0, 15, S) else
  (S.last + 1, 0, { S with last := S.last + 1, l := S.l ++ [(S.last + 1, 0)], live := S.live ++ [(S.last + 1, ⟨0, false, ⟨0, 0, 0, S.c.room, 0, 0, 0⟩⟩)] })

theorem Valid.count {S : MS} (h : Valid S) : (S.live.length : Int) ≤ S.c.sessions := by
  have := congrArg List.length h.live
  simp only [List.length_map] at this
  have h2 := h.few
  omega

/-- The new session. -/
def MS.more (S : MS) : MS := { S with last := S.last + 1, l := S.l ++ [(S.last + 1, 0)], live := S.live ++ [(S.last + 1, ⟨0, false, ⟨0, 0, 0, S.c.room, 0, 0, 0⟩⟩)] }

theorem Valid.more {S : MS} (h : Valid S) (hf : ((liveIds S.l).length : Int) < S.c.sessions) (hl : S.l.length < 1000) : Valid S.more := by
  have hlast := h.last
  have hids : liveIds (S.l ++ [(S.last + 1, 0)]) = liveIds S.l ++ [S.last + 1] := by simp [liveIds]
  refine ⟨h.ok, ?_, ⟨?_, ?_, ?_⟩, ?_, ?_, ?_, ?_⟩
  · simp only [MS.more]; rw [hids]; simp; omega
  · simp only [MS.more, List.map_append, List.pairwise_append]
    refine ⟨h.rise.lt, by simp, fun a ha b hb => ?_⟩
    obtain ⟨p, hp, rfl⟩ := List.mem_map.1 ha
    simp at hb
    have := (h.bound p hp).2
    omega
  · intro p hp
    simp only [MS.more, List.mem_append, List.mem_singleton] at hp
    rcases hp with hp | rfl
    · exact h.rise.wf p hp
    · exact WalkArith.wf_i64 (by simp only; omega)
  · simp [MS.more]; omega
  · simp [MS.more]; omega
  · simp [MS.more]; omega
  · intro p hp
    simp only [MS.more, List.mem_append, List.mem_singleton] at hp ⊢
    rcases hp with hp | rfl
    · have := h.bound p hp; omega
    · simp; omega
  · simp only [MS.more]; rw [hids]; simp [h.live]

end Go.Proofs.Ythjghcfnopancaa
