/-
  The reference's lists and the model's state: the same things, told in two ways.
-/
import Derived.Test.YthjghcfnopancaaGreatGj
import Derived.Test.YthjghcfnopancaaGreatGk
import Derived.Test.YthjghcfnopancaaGreatGl
import Derived.Test.YthjghcfnopancaaGreatGg
namespace Go.Proofs.YthjghcfnopancaaGreat
open Go.RowKit

/-- Numbers and causes, from j on. -/
def numsFrom : Int → List Int → List (Int × Int)
  | _, [] => []
  | j, c :: t => (j, c) :: numsFrom (j + 1) t
/-- Live numbers and what is known, from j on. -/
def livesFrom : Int → List Int → List Kn → List (Int × Kn)
  | j, c :: t, k :: u => if c = 0 then (j, k) :: livesFrom (j + 1) t u else livesFrom (j + 1) t u
  | _, _, _ => []

structure Rel (S : MS) (cs : List Int) (ks : List Kn) : Prop where
  l : S.l = numsFrom 1 cs
  live : S.live = livesFrom 1 cs ks
  len : ks.length = cs.length
  last : S.last = cs.length

theorem numsFrom_length : ∀ (j : Int) (cs : List Int), (numsFrom j cs).length = cs.length
  | _, [] => rfl
  | j, _ :: t => by simp [numsFrom, numsFrom_length (j + 1) t]

theorem numsFrom_cause : ∀ (j : Int) (cs : List Int) (id : Int), causeOf (numsFrom j cs) id = if id < j ∨ j + cs.length ≤ id then (0, 18) else (cs.getD (id - j).toNat 0, 0)
  | j, [], id => by
    have : id < j ∨ j ≤ id := by omega
    simp [numsFrom, causeOf, this]
  | j, c :: t, id => by
    have ih := numsFrom_cause (j + 1) t id
    by_cases e : j = id
    · subst e
      simp [numsFrom, causeOf]
      omega
    · have h1 : causeOf (numsFrom j (c :: t)) id = causeOf (numsFrom (j + 1) t) id := by simp [numsFrom, causeOf, e]
      rw [h1, ih]
      by_cases h2 : id < j ∨ j + ((c :: t).length : Int) ≤ id
      · rw [if_pos h2, if_pos (by simp at h2; omega)]
      · rw [if_neg h2, if_neg (by simp at h2; omega)]
        have : (id - j).toNat = (id - (j + 1)).toNat + 1 := by omega
        rw [this]
        simp

theorem Rel.cause {S : MS} {cs : List Int} {ks : List Kn} (h : Rel S cs ks) (id : Int) : causeOf S.l id = rcause cs id := by
  rw [h.l, numsFrom_cause]
  unfold rcause
  by_cases h1 : id < 1 ∨ (cs.length : Int) < id
  · rw [if_pos h1, if_pos (by omega)]
  · rw [if_neg h1, if_neg (by omega)]

theorem Rel.refuse {S : MS} {cs : List Int} {ks : List Kn} (h : Rel S cs ks) (id : Int) : refusal S.l id = rrefuse cs id := by
  unfold refusal rrefuse
  rw [h.cause]

theorem livesFrom_set : ∀ (j : Int) (cs : List Int) (ks : List Kn) (i : Nat) (K : Kn), livesFrom j cs (ks.set i K) = (livesFrom j cs ks).map fun p => if p.1 = j + i then (j + i, K) else p
  | _, [], _, _, _ => by simp [livesFrom]
  | _, _ :: _, [], _, _ => by simp [livesFrom]
  | j, c :: t, k :: u, 0, K => by
    have hn : ∀ (a : Int) (cs : List Int) (ks : List Kn), j < a → (livesFrom a cs ks).map (fun p => if p.1 = j + (0 : Nat) then (j + ((0 : Nat) : Int), K) else p) = livesFrom a cs ks := by
      intro a cs
      induction cs generalizing a with
      | nil => intro ks _; simp [livesFrom]
      | cons c t ih =>
        intro ks h
        cases ks with
        | nil => simp [livesFrom]
        | cons k u =>
          have := ih (a + 1) u (by omega)
          by_cases e : c = 0
          · simp [livesFrom, e] at this ⊢
            exact ⟨fun h => by omega, this⟩
          · simp [livesFrom, e] at this ⊢
            exact this
    have := hn (j + 1) t u (by omega)
    by_cases e : c = 0
    · simp [livesFrom, e] at this ⊢
      exact this.symm
    · simp [livesFrom, e] at this ⊢
      exact this.symm
  | j, c :: t, k :: u, i + 1, K => by
    have ih := livesFrom_set (j + 1) t u i K
    have e2 : j + 1 + (i : Int) = j + ((i + 1 : Nat) : Int) := by push_cast; omega
    rw [e2] at ih
    by_cases e : c = 0
    · simp only [List.set_cons_succ, livesFrom, e, if_true, List.map_cons, ih]
      rw [if_neg (by push_cast; omega)]
    · simp only [List.set_cons_succ, livesFrom, e, if_false, ih]

theorem Rel.set {S : MS} {cs : List Int} {ks : List Kn} (h : Rel S cs ks) (i : Nat) (K : Kn) : Rel (S.set ((i : Int) + 1) K) cs (ks.set i K) :=
  ⟨h.l, by simp only [MS.set]; rw [livesFrom_set, h.live, Int.add_comm 1 (i : Int)], by simpa using h.len, h.last⟩

theorem livesFrom_mem : ∀ (j : Int) (cs : List Int) (ks : List Kn) (i : Nat) (k : Kn), i < cs.length → cs.getD i 0 = 0 → ks[i]? = some k → (j + (i : Int), k) ∈ livesFrom j cs ks
  | _, [], _, i, _, h, _, _ => by simp at h
  | _, _ :: _, [], i, _, _, _, h => by simp at h
  | j, c :: t, k' :: u, 0, k, _, h0, hk => by
    simp at h0 hk
    subst hk
    simp [livesFrom, h0]
  | j, c :: t, k' :: u, i + 1, k, h, h0, hk => by
    have ih := livesFrom_mem (j + 1) t u i k (by simpa using h) (by simpa using h0) (by simpa using hk)
    have e2 : j + 1 + (i : Int) = j + ((i + 1 : Nat) : Int) := by push_cast; omega
    rw [e2] at ih
    by_cases e : c = 0
    · simp only [livesFrom, e, if_true]; exact List.mem_cons_of_mem _ ih
    · simp only [livesFrom, e, if_false]; exact ih

theorem Rel.get {S : MS} {cs : List Int} {ks : List Kn} (h : Rel S cs ks) (hV : Valid S) {i : Nat} {k : Kn} (hi : i < cs.length) (h0 : cs.getD i 0 = 0) (hk : ks[i]? = some k) : S.get ((i : Int) + 1) = some k := by
  refine MS.get_of hV.nodup ?_
  rw [h.live, Int.add_comm]
  exact livesFrom_mem 1 cs ks i k hi h0 hk

theorem numsFrom_append : ∀ (j : Int) (cs : List Int) (c : Int), numsFrom j (cs ++ [c]) = numsFrom j cs ++ [(j + cs.length, c)]
  | j, [], c => by simp [numsFrom]
  | j, a :: t, c => by
    have := numsFrom_append (j + 1) t c
    have e2 : j + 1 + (t.length : Int) = j + ((t.length + 1 : Nat) : Int) := by push_cast; omega
    rw [e2] at this
    simp only [List.cons_append, numsFrom, this, List.length_cons]

theorem livesFrom_append : ∀ (j : Int) (cs : List Int) (ks : List Kn) (k : Kn), ks.length = cs.length → livesFrom j (cs ++ [0]) (ks ++ [k]) = livesFrom j cs ks ++ [(j + cs.length, k)]
  | j, [], [], k, _ => by simp [livesFrom]
  | _, [], _ :: _, _, h => by simp at h
  | _, _ :: _, [], _, h => by simp at h
  | j, c :: t, a :: u, k, h => by
    have := livesFrom_append (j + 1) t u k (by simpa using h)
    have e2 : j + 1 + (t.length : Int) = j + ((t.length + 1 : Nat) : Int) := by push_cast; omega
    rw [e2] at this
    by_cases e : c = 0
    · simp only [List.cons_append, livesFrom, e, if_true, this, List.length_cons]
    · simp only [List.cons_append, livesFrom, e, if_false, this, List.length_cons]

theorem Rel.more {S : MS} {cs : List Int} {ks : List Kn} (h : Rel S cs ks) : Rel S.more (cs ++ [0]) (ks ++ [⟨0, false, ⟨0, 0, 0, S.c.room, 0, 0, 0⟩⟩]) := by
  refine ⟨?_, ?_, by simpa using h.len, ?_⟩
  · simp only [MS.more]; rw [numsFrom_append, h.l, h.last, Int.add_comm]
  · simp only [MS.more]; rw [livesFrom_append _ _ _ _ h.len, h.live, h.last, Int.add_comm]
  · simp only [MS.more]; rw [h.last]; simp

theorem numsFrom_ge : ∀ (a : Int) (cs : List Int), ∀ p ∈ numsFrom a cs, a ≤ p.1
  | _, [], p, h => by simp [numsFrom] at h
  | a, c :: t, p, h => by
    simp only [numsFrom, List.mem_cons] at h
    rcases h with rfl | h
    · exact Int.le_refl _
    · have := numsFrom_ge (a + 1) t p h; omega
theorem livesFrom_ge : ∀ (a : Int) (cs : List Int) (ks : List Kn), ∀ p ∈ livesFrom a cs ks, a ≤ p.1
  | _, [], _, p, h => by simp [livesFrom] at h
  | _, _ :: _, [], p, h => by simp [livesFrom] at h
  | a, c :: t, k :: u, p, h => by
    have ih := livesFrom_ge (a + 1) t u p
    simp only [livesFrom] at h
    split at h
    · rcases List.mem_cons.1 h with rfl | h
      · exact Int.le_refl _
      · have := ih h; omega
    · have := ih h; omega

theorem numsFrom_ended : ∀ (j : Int) (cs : List Int) (i : Nat) (c : Int), numsFrom j (cs.set i c) = ended (numsFrom j cs) (j + i) c
  | _, [], _, _ => by simp [numsFrom, ended]
  | j, a :: t, 0, c => by
    have h : (numsFrom (j + 1) t).map (fun p => if p.1 = j + ((0 : Nat) : Int) then (j + ((0 : Nat) : Int), c) else p) = numsFrom (j + 1) t := by
      refine (List.map_congr_left fun p hp => ?_).trans (List.map_id _)
      have := numsFrom_ge _ _ p hp
      rw [if_neg (by omega)]; rfl
    simp only [ended, List.set_cons_zero, numsFrom, List.map_cons, h]
    simp
  | j, a :: t, i + 1, c => by
    have ih := numsFrom_ended (j + 1) t i c
    have e2 : j + 1 + (i : Int) = j + ((i + 1 : Nat) : Int) := by push_cast; omega
    rw [e2] at ih
    simp only [ended, List.set_cons_succ, numsFrom, List.map_cons] at ih ⊢
    rw [ih, if_neg (by push_cast; omega)]

theorem livesFrom_over : ∀ (j : Int) (cs : List Int) (ks : List Kn) (i : Nat) (c : Int), c ≠ 0 → livesFrom j (cs.set i c) ks = (livesFrom j cs ks).filter fun p => p.1 != j + i
  | _, [], _, _, _, _ => by simp [livesFrom]
  | _, _ :: _, [], i, _, _ => by cases i <;> simp [livesFrom]
  | j, a :: t, k :: u, 0, c, hc => by
    have h : (livesFrom (j + 1) t u).filter (fun p => p.1 != j + ((0 : Nat) : Int)) = livesFrom (j + 1) t u := by
      rw [List.filter_eq_self]
      intro p hp
      have := livesFrom_ge _ _ _ p hp
      simp; omega
    by_cases e : a = 0
    · simp only [List.set_cons_zero, livesFrom, e, if_true, hc, if_false, List.filter_cons, h]
      simp
    · simp only [List.set_cons_zero, livesFrom, e, hc, if_false, h]
  | j, a :: t, k :: u, i + 1, c, hc => by
    have ih := livesFrom_over (j + 1) t u i c hc
    have e2 : j + 1 + (i : Int) = j + ((i + 1 : Nat) : Int) := by push_cast; omega
    rw [e2] at ih
    by_cases e : a = 0
    · simp only [List.set_cons_succ, livesFrom, e, if_true, List.filter_cons, ih]
      rw [if_pos (by simp; omega)]
    · simp only [List.set_cons_succ, livesFrom, e, if_false, ih]

theorem Rel.over {S : MS} {cs : List Int} {ks : List Kn} (h : Rel S cs ks) (i : Nat) (c : Int) (hc : c ≠ 0) : Rel (S.over ((i : Int) + 1) c) (cs.set i c) ks := by
  refine ⟨?_, ?_, by simpa using h.len, by simpa [MS.over] using h.last⟩
  · simp only [MS.over]; rw [numsFrom_ended, h.l, Int.add_comm 1 (i : Int)]
  · simp only [MS.over]; rw [livesFrom_over _ _ _ _ _ hc, h.live, Int.add_comm 1 (i : Int)]

theorem rlive_congr {cs ds : List Int} {k : Nat} (h : ∀ i, i < k → cs.getD i 0 = ds.getD i 0) : rlive cs k = rlive ds k := by
  unfold rlive
  congr 1
  refine List.filter_congr fun i hi => ?_
  rw [h i (List.mem_range.1 hi)]

theorem liveIds_nums : ∀ (n : Nat) (cs : List Int), cs.length = n → liveIds (numsFrom 1 cs) = rlive cs cs.length
  | 0, cs, h => by
    have : cs = [] := List.length_eq_zero_iff.1 h
    subst this
    simp [numsFrom, liveIds, rlive]
  | n + 1, cs, h => by
    obtain ⟨ds, c, rfl⟩ : ∃ ds c, cs = ds ++ [c] := ⟨cs.dropLast, cs.getLast (by intro e; subst e; simp at h), (List.dropLast_concat_getLast _).symm⟩
    have hl : ds.length = n := by simpa using h
    have ih := liveIds_nums n ds hl
    have e1 : rlive (ds ++ [c]) ds.length = rlive ds ds.length := rlive_congr fun i hi => by
      simp only [List.getD_eq_getElem?_getD]
      rw [List.getElem?_append_left hi]
    have e2 : (ds ++ [c]).getD ds.length 0 = c := by simp
    rw [numsFrom_append, List.length_append, List.length_singleton, rlive_succ, e1, e2, ← ih]
    simp only [liveIds, List.filter_append, List.map_append]
    congr 1
    by_cases hc : c = 0
    · subst hc; simp; omega
    · simp [hc]

theorem Rel.ids {S : MS} {cs : List Int} {ks : List Kn} (h : Rel S cs ks) : liveIds S.l = rlive cs cs.length := by
  rw [h.l]; exact liveIds_nums _ cs rfl

end Go.Proofs.YthjghcfnopancaaGreat
/-
  The reference's model, told by the state of the program's: one lemma per method.
-/
namespace Go.Proofs.YthjghcfnopancaaGreat
open Go.RowKit Go.Shelf Go.Maps

/-- Where something lies: from a block on, but for some blocks. -/
structure Pl where
  lo : Nat
  X : List Nat
def Pl.ok (p : Pl) (b : Nat) : Prop := p.lo ≤ b ∧ b ∉ p.X
/-- .. all of which there are. -/
structure Low (p : Pl) (base size : Nat) : Prop where
  le : base ≤ size
  x : ∀ b ∈ p.X, b < size
theorem Low.up {p : Pl} {base size size' : Nat} (h : Low p base size) (hs : size ≤ size') : Low p base size' := ⟨Nat.le_trans h.le hs, fun b hb => Nat.lt_of_lt_of_le (h.x b hb) hs⟩

/-- Only blocks of that place may change. -/
def Above (n0 : Pl) (w w' : World) : Prop := ∃ l, (∀ b ∈ l, n0.ok b) ∧ Keeps l w w'
theorem Above.of {n0 : Pl} {w w' : World} (h : Keeps [] w w') : Above n0 w w' := ⟨[], by simp, h⟩

/-- The reference's model lies in blocks of that place, and holds the state S. -/
def MineR (n0 : Pl) (w : World) (m t : Nat) (S : MS) : Prop :=
  ∃ base tv lv cs ks, RMAt w base m t tv lv S.c cs ks ∧ Rel S cs ks ∧ n0.ok m ∧ n0.ok t ∧ (n0.lo ≤ base ∧ (∀ g, tv.ownBlock = some g → g ∉ n0.X) ∧ (∀ g, lv.ownBlock = some g → g ∉ n0.X)) ∧ Low n0 base w.heap.size

theorem MineR.on {n0 : Pl} {w w' : World} {m t : Nat} {S : MS} (h : MineR n0 w m t S) (k : Keeps [] w w') : MineR n0 w' m t S := by
  obtain ⟨base, tv, lv, cs, ks, h1, h2, h3, h4, h5, h6⟩ := h
  exact ⟨base, tv, lv, cs, ks, h1.on k, h2, h3, h4, h5, h6.up k.size⟩

theorem MineR.feed {n0 : Pl} {w : World} {m t : Nat} {S : MS} (h : MineR n0 w m t S) (hV : Valid S) (id n : Int) :
    Calls Tryz.prog 28 #[.pointer (some ⟨m, 0, none⟩), .int .i64 id, .int .i64 n] w fun e w' => e = .returned (.tuple #[.int .i64 (S.feed id n).1, .int .i64 (S.feed id n).2.1]) ∧ MineR n0 w' m t (S.feed id n).2.2 ∧ Above n0 w w' := by
  obtain ⟨base, tv, lv, cs, ks, h1, h2, h3, h4, h5, h6⟩ := _root_.id h
  by_cases hr : rrefuse cs id = 0
  · obtain ⟨i, rfl, hi, h0⟩ := rrefuse_zero hr
    have hik : i < ks.length := by rw [h2.len]; exact hi
    obtain ⟨k, hk⟩ : ∃ k, ks[i]? = some k := ⟨_, List.getElem?_eq_getElem hik⟩
    have hg := h2.get hV hi h0 hk
    have hS : S.feed ((i : Int) + 1) n = if n < 0 then (0, 3, S) else if k.ended then (0, 20, S) else (min n k.s.free, 0, S.set ((i : Int) + 1) (({ k with came := wrap64 (k.came + min n k.s.free) } : Kn).counts S.c.room)) := by
      unfold MS.feed
      rw [h2.refuse, if_neg (by simpa using hr), hg]
    rw [hS]
    refine (rm_feed h1 hk hr n (by have := h1.tbl.lim; omega)).mono ?_
    intro e w' hq
    by_cases hn : n < 0
    · rw [if_pos hn] at hq ⊢
      exact ⟨hq.1, h.on hq.2, .of hq.2⟩
    · rw [if_neg hn] at hq ⊢
      by_cases he : k.ended = true
      · rw [if_pos he] at hq ⊢
        exact ⟨hq.1, h.on hq.2, .of hq.2⟩
      · rw [if_neg he] at hq ⊢
        exact ⟨hq.1, ⟨base, tv, lv, cs, _, hq.2.2, h2.set _ _, h3, h4, h5, h6.up hq.2.1.size⟩, ⟨_, fun b hb => ⟨Nat.le_trans h5.1 (h1.row.lt b (by simpa using hb)).1, h5.2.2 b (by simpa using hb)⟩, hq.2.1⟩⟩
  · have hS : S.feed id n = (0, rrefuse cs id, S) := by
      unfold MS.feed
      rw [h2.refuse, if_pos (by simpa using hr)]
    rw [hS]
    exact (rm_feed_no h1 id n hr).mono fun e w' hq => ⟨hq.1, h.on hq.2, .of hq.2⟩

theorem MineR.stop {n0 : Pl} {w : World} {m t : Nat} {S : MS} (h : MineR n0 w m t S) (hV : Valid S) (id : Int) :
    Calls Tryz.prog 30 #[.pointer (some ⟨m, 0, none⟩), .int .i64 id] w fun e w' => e = .returned (.int .i64 (S.stop id).1) ∧ MineR n0 w' m t (S.stop id).2 ∧ Above n0 w w' := by
  obtain ⟨base, tv, lv, cs, ks, h1, h2, h3, h4, h5, h6⟩ := _root_.id h
  by_cases hr : rrefuse cs id = 0
  · obtain ⟨i, rfl, hi, h0⟩ := rrefuse_zero hr
    have hik : i < ks.length := by rw [h2.len]; exact hi
    obtain ⟨k, hk⟩ : ∃ k, ks[i]? = some k := ⟨_, List.getElem?_eq_getElem hik⟩
    have hg := h2.get hV hi h0 hk
    have hS : S.stop ((i : Int) + 1) = if k.ended then (20, S) else (0, S.set ((i : Int) + 1) { k with ended := true }) := by
      unfold MS.stop
      rw [h2.refuse, if_neg (by simpa using hr), hg]
    rw [hS]
    refine (rm_stop h1 hk hr (by have := h1.tbl.lim; omega)).mono ?_
    intro e w' hq
    by_cases he : k.ended = true
    · rw [if_pos he] at hq ⊢
      exact ⟨hq.1, h.on hq.2, .of hq.2⟩
    · rw [if_neg he] at hq ⊢
      exact ⟨hq.1, ⟨base, tv, lv, cs, _, hq.2.2, h2.set _ _, h3, h4, h5, h6.up hq.2.1.size⟩, ⟨_, fun b hb => ⟨Nat.le_trans h5.1 (h1.row.lt b (by simpa using hb)).1, h5.2.2 b (by simpa using hb)⟩, hq.2.1⟩⟩
  · have hS : S.stop id = (rrefuse cs id, S) := by
      unfold MS.stop
      rw [h2.refuse, if_pos (by simpa using hr)]
    rw [hS]
    exact (rm_stop_no h1 id hr).mono fun e w' hq => ⟨hq.1, h.on hq.2, .of hq.2⟩

theorem MineR.Close {n0 : Pl} {w : World} {m t : Nat} {S : MS} (h : MineR n0 w m t S) (id : Int) :
    Calls Tryz.prog 34 #[.pointer (some ⟨m, 0, none⟩), .int .i64 id] w fun e w' => e = .returned (.int .i64 (S.out id 21).1) ∧ MineR n0 w' m t (S.out id 21).2 ∧ Above n0 w w' := by
  obtain ⟨base, tv, lv, cs, ks, h1, h2, h3, h4, h5, h6⟩ := _root_.id h
  by_cases hr : rrefuse cs id = 0
  · obtain ⟨i, rfl, hi, h0⟩ := rrefuse_zero hr
    have hS : S.out ((i : Int) + 1) 21 = (0, S.over ((i : Int) + 1) 21) := by
      unfold MS.out
      rw [h2.refuse, if_neg (by simpa using hr)]
    rw [hS]
    refine (rm_Close h1 hi h0 hr).mono ?_
    intro e w' hq
    exact ⟨hq.1, ⟨base, tv, lv, _, ks, hq.2.2, h2.over i 21 (by decide), h3, h4, h5, h6.up hq.2.1.size⟩, ⟨_, fun b hb => ⟨Nat.le_trans h5.1 (h1.tbl.row.lt b (by simpa using hb)).1, h5.2.1 b (by simpa using hb)⟩, hq.2.1⟩⟩
  · have hS : S.out id 21 = (rrefuse cs id, S) := by
      unfold MS.out
      rw [h2.refuse, if_pos (by simpa using hr)]
    rw [hS]
    exact (rm_Close_no h1 id hr).mono fun e w' hq => ⟨hq.1, h.on hq.2, .of hq.2⟩

theorem MineR.Evict {n0 : Pl} {w : World} {m t : Nat} {S : MS} (h : MineR n0 w m t S) (id : Int) :
    Calls Tryz.prog 36 #[.pointer (some ⟨m, 0, none⟩), .int .i64 id] w fun e w' => e = .returned (.int .i64 (S.out id 22).1) ∧ MineR n0 w' m t (S.out id 22).2 ∧ Above n0 w w' := by
  obtain ⟨base, tv, lv, cs, ks, h1, h2, h3, h4, h5, h6⟩ := _root_.id h
  by_cases hr : rrefuse cs id = 0
  · obtain ⟨i, rfl, hi, h0⟩ := rrefuse_zero hr
    have hS : S.out ((i : Int) + 1) 22 = (0, S.over ((i : Int) + 1) 22) := by
      unfold MS.out
      rw [h2.refuse, if_neg (by simpa using hr)]
    rw [hS]
    refine (rm_Evict h1 hi h0 hr).mono ?_
    intro e w' hq
    exact ⟨hq.1, ⟨base, tv, lv, _, ks, hq.2.2, h2.over i 22 (by decide), h3, h4, h5, h6.up hq.2.1.size⟩, ⟨_, fun b hb => ⟨Nat.le_trans h5.1 (h1.tbl.row.lt b (by simpa using hb)).1, h5.2.1 b (by simpa using hb)⟩, hq.2.1⟩⟩
  · have hS : S.out id 22 = (rrefuse cs id, S) := by
      unfold MS.out
      rw [h2.refuse, if_pos (by simpa using hr)]
    rw [hS]
    exact (rm_Evict_no h1 id hr).mono fun e w' hq => ⟨hq.1, h.on hq.2, .of hq.2⟩

theorem MineR.new {n0 : Nat} (c : Cf) (h : c.ok) (w : World) (hn : n0 ≤ w.heap.size) :
    Calls Tryz.prog 5 #[c.val] w fun e w' => ∃ m t, e = .returned (.tuple #[.pointer (some ⟨m, 0, none⟩), .int .i64 0]) ∧ Keeps [] w w' ∧ MineR ⟨n0, []⟩ w' m t (MS.fresh c) := by
  refine (rm_new c w h).mono ?_
  rintro e w' ⟨m, t, he, hk, hR, hm, ht⟩
  exact ⟨m, t, he, hk, _, _, _, [], [], hR, ⟨by simp [MS.fresh, numsFrom], by simp [MS.fresh, livesFrom], rfl, by simp [MS.fresh]⟩, ⟨by simp only; omega, by simp⟩, ⟨by simp only; omega, by simp⟩, ⟨by have := hk.size; simp only; omega, by simp, by simp⟩, ⟨Nat.le_refl _, by simp⟩⟩

theorem MineR.see {n0 : Pl} {w : World} {m t : Nat} {S : MS} (h : MineR n0 w m t S) (hV : Valid S) (id : Int) (s : St) :
    Calls Tryz.prog 31 #[.pointer (some ⟨m, 0, none⟩), .int .i64 id, s.val] w fun e w' => e = .returned (.int .i64 (S.see id s).1) ∧ MineR n0 w' m t (S.see id s).2 ∧ Above n0 w w' := by
  obtain ⟨base, tv, lv, cs, ks, h1, h2, h3, h4, h5, h6⟩ := _root_.id h
  by_cases hr : rrefuse cs id = 0
  · obtain ⟨i, rfl, hi, h0⟩ := rrefuse_zero hr
    have hik : i < ks.length := by rw [h2.len]; exact hi
    have hi1 : i < 1000 := by have := h1.tbl.lim; omega
    obtain ⟨k, hk⟩ : ∃ k, ks[i]? = some k := ⟨_, List.getElem?_eq_getElem hik⟩
    have hg := h2.get hV hi h0 hk
    have hS : S.see ((i : Int) + 1) s = if k.may S.c s then (0, S.set ((i : Int) + 1) (({ k with s := s } : Kn).counts S.c.room)) else (2, S) := by
      unfold MS.see
      rw [h2.refuse, if_neg (by simpa using hr), hg]
    rw [hS]
    have no : ∀ (hm : k.may S.c s = false) (e : Ending) (w' : World), (e = .returned (.int .i64 2) ∧ Keeps [] w w') → (e = .returned (.int .i64 (if k.may S.c s then ((0 : Int), S.set ((i : Int) + 1) (({ k with s := s } : Kn).counts S.c.room)) else ((2 : Int), S)).1) ∧ MineR n0 w' m t (if k.may S.c s then ((0 : Int), S.set ((i : Int) + 1) (({ k with s := s } : Kn).counts S.c.room)) else ((2 : Int), S)).2 ∧ Above n0 w w') := by
      intro hm e w' hq
      rw [hm]
      exact ⟨hq.1, h.on hq.2, .of hq.2⟩
    have yes : ∀ (hm : k.may S.c s = true) (e : Ending) (w' : World), (e = .returned (.int .i64 0) ∧ Keeps lv.ownBlock.toList w w' ∧ RMAt w' base m t tv lv S.c cs (ks.set i (({ k with s := s } : Kn).counts S.c.room))) → (e = .returned (.int .i64 (if k.may S.c s then ((0 : Int), S.set ((i : Int) + 1) (({ k with s := s } : Kn).counts S.c.room)) else ((2 : Int), S)).1) ∧ MineR n0 w' m t (if k.may S.c s then ((0 : Int), S.set ((i : Int) + 1) (({ k with s := s } : Kn).counts S.c.room)) else ((2 : Int), S)).2 ∧ Above n0 w w') := by
      intro hm e w' hq
      rw [hm]
      exact ⟨hq.1, ⟨base, tv, lv, cs, _, hq.2.2, h2.set _ _, h3, h4, h5, h6.up hq.2.1.size⟩, ⟨_, fun b hb => ⟨Nat.le_trans h5.1 (h1.row.lt b (by simpa using hb)).1, h5.2.2 b (by simpa using hb)⟩, hq.2.1⟩⟩
    cases dB : decide (k.s.gone ≤ s.gone ∧ s.gone ≤ wrap64 (8 * k.came))
    · exact (rm_see_b h1 hk s hr hi1 dB).mono (no (by simp only [Kn.may, dB]; simp))
    · cases dC : decide (0 ≤ s.queued ∧ s.queued ≤ S.c.slots)
      · exact (rm_see_c h1 hk s hr hi1 dB dC).mono (no (by simp only [Kn.may, dC]; simp))
      · cases dD : decide (0 ≤ s.frames ∧ s.frames ≤ S.c.quota)
        · exact (rm_see_d h1 hk s hr hi1 dB dC dD).mono (no (by simp only [Kn.may, dD]; simp))
        · cases dE : decide (s.pictures < k.s.pictures)
          · have dE' : decide (k.s.pictures ≤ s.pictures) = true := by simp at dE ⊢; omega
            cases dF : (k.s.cause != 0)
            · have dF' : (k.s.cause == 0) = true := by simpa using dF
              cases dA : decide ((({ k with s := s } : Kn).counts S.c.room).s = s)
              · exact (rm_see_na h1 hk s hr hi1 dB dC dD dE dF dA).mono (no (by simp only [Kn.may, dA]; simp))
              · exact (rm_see_ya h1 hk s hr hi1 dB dC dD dE dF dA).mono (yes (by simp only [Kn.may, dA, dB, dC, dD, dE', dF']; rfl))
            · cases dG : (s.cause != k.s.cause)
              · have dG' : (s.cause == k.s.cause) = true := by simpa using dG
                cases dA : decide ((({ k with s := s } : Kn).counts S.c.room).s = s)
                · exact (rm_see_nb h1 hk s hr hi1 dB dC dD dE dF dG dA).mono (no (by simp only [Kn.may, dA]; simp))
                · exact (rm_see_yb h1 hk s hr hi1 dB dC dD dE dF dG dA).mono (yes (by simp only [Kn.may, dA, dB, dC, dD, dE', dG']; simp))
              · exact (rm_see_f h1 hk s hr hi1 dB dC dD dE dF dG).mono (no (by simp at dF dG; simp [Kn.may, dF, dG]))
          · exact (rm_see_e h1 hk s hr hi1 dB dC dD dE).mono (no (by simp at dE; simp [Kn.may]; intros; omega))
  · have hS : S.see id s = (rrefuse cs id, S) := by
      unfold MS.see
      rw [h2.refuse, if_pos (by simpa using hr)]
    rw [hS]
    exact (rm_see_refused h1 id s hr).mono fun e w' hq => ⟨hq.1, h.on hq.2, .of hq.2⟩

end Go.Proofs.YthjghcfnopancaaGreat

/-
  Status of the program's model.
-/
namespace Go.Proofs.YthjghcfnopancaaGreat
open Go.RowKit Go.Shelf Go.Maps

set_option maxRecDepth 100000 in
set_option maxHeartbeats 1000000 in
theorem status_dead {m t tb lb : Nat} {S : MS} {w : World} (h : ModelAt w m t tb lb S) (h1 : 1 ≤ S.c.sessions) (id : Int) (hr : (causeOf S.l id).2 ≠ 0 ∨ (causeOf S.l id).1 ≠ 0) :
    Calls Tryz.prog 8 #[.pointer (some ⟨m, 0, none⟩), .int .i64 id] w fun e w' => e = .returned (.tuple #[(if (causeOf S.l id).2 ≠ 0 then St.zero else { St.zero with cause := (causeOf S.l id).1 }).val, .int .i64 (causeOf S.l id).2]) ∧ Keeps [] w w' := by
  have HM : Hid (∀ w', Keeps [] w w' → ModelAt w' m t tb lb S) := Lib.hid fun w' hk => h.keep hk (by simp) (by simp) (by simp) (by simp)
  have c5 : w.cell? ⟨m, 5, none⟩ = some (.pointer (some ⟨t, 0, none⟩)) := cellOf h.blk 5 rfl
  have hlt := ltOf h.blk
  have hC : Hid (∀ w', Keeps [] w w' → _) := Lib.hid fun w' (hk : Keeps [] w w') => cause_any (HM.out w' hk).tbl h1 id
  generalize causeOf S.l id = q at hC hr ⊢
  obtain ⟨a, b⟩ := q
  simp only at hC hr ⊢
  clear h
  by_cases hb : b = 0
  · subst hb
    have ha : a ≠ 0 := by rcases hr with h | h; exact absurd rfl h; exact h
    have ha' : (a == 0) = false := by simpa using ha
    rw [if_neg (by simp)]
    go_enter Tryz.func8, Tryz.ntmps8
    go_wp2_with (first
      | (go_at_call 39; refine (mnone_at (HM.out _ (by repeat (first | exact Keeps.refl _ _ | assumption | refine Keeps.drew ?_ | refine Keeps.drewN ?_ _ | refine Keeps.alloc ?_ _ | refine Keeps.setCell ?_ (by simp <;> omega) _ | refine Keeps.trans ?_ (by assumption))))).mono ?_; rintro e w' ⟨rfl, rfl⟩)
      | (go_at_call 40; refine (hC.out _ (by repeat (first | exact Keeps.refl _ _ | assumption | refine Keeps.drew ?_ | refine Keeps.drewN ?_ _ | refine Keeps.alloc ?_ _ | refine Keeps.setCell ?_ (by simp <;> omega) _ | refine Keeps.trans ?_ (by assumption)))).mono ?_; rintro e w1 ⟨rfl, hk⟩; obtain ⟨b0, hk⟩ := hk.new1 (by simp); obtain ⟨r0, r1, r2, r3, r4, r5, r6⟩ := cells7 b0; (have fr := frees b0); (have hlr := ltOf b0); have b0 := Lib.hid b0))
    exact bodyPost_ret (res_ct rfl agg_status rfl rfl rfl (stored7 b0.out)) rfl ⟨rfl, hk.store7 (fun h => by omega)⟩
  · have hb' : (b == 0) = false := by simpa using hb
    rw [if_pos hb]
    go_enter Tryz.func8, Tryz.ntmps8
    go_wp2_with (first
      | (go_at_call 39; refine (mnone_at (HM.out _ (by repeat (first | exact Keeps.refl _ _ | assumption | refine Keeps.drew ?_ | refine Keeps.drewN ?_ _ | refine Keeps.alloc ?_ _ | refine Keeps.setCell ?_ (by simp <;> omega) _ | refine Keeps.trans ?_ (by assumption))))).mono ?_; rintro e w' ⟨rfl, rfl⟩)
      | (go_at_call 40; refine (hC.out _ (by repeat (first | exact Keeps.refl _ _ | assumption | refine Keeps.drew ?_ | refine Keeps.drewN ?_ _ | refine Keeps.alloc ?_ _ | refine Keeps.setCell ?_ (by simp <;> omega) _ | refine Keeps.trans ?_ (by assumption)))).mono ?_; rintro e w1 ⟨rfl, hk⟩; obtain ⟨b0, hk⟩ := hk.new1 (by simp); obtain ⟨r0, r1, r2, r3, r4, r5, r6⟩ := cells7 b0; (have fr := frees b0); (have hlr := ltOf b0); have b0 := Lib.hid b0))
    exact bodyPost_ret (res_ct rfl agg_status rfl rfl rfl (stored7 b0.out)) rfl ⟨rfl, hk.store7 (fun h => by omega)⟩

set_option maxRecDepth 100000 in
set_option maxHeartbeats 1000000 in
theorem status_live {m t tb lb : Nat} {S : MS} {w : World} (h : ModelAt w m t tb lb S) (h1 : 1 ≤ S.c.sessions) (id : Int) (k : Kn) (hn : (S.live.map (·.1)).Nodup) (hk : (id, k) ∈ S.live) (hc : causeOf S.l id = (0, 0)) :
    Calls Tryz.prog 8 #[.pointer (some ⟨m, 0, none⟩), .int .i64 id] w fun e w' => e = .returned (.tuple #[k.s.val, .int .i64 0]) ∧ Keeps [] w w' := by
  have HM : Hid (∀ w', Keeps [] w w' → ModelAt w' m t tb lb S) := Lib.hid fun w' hk => h.keep hk (by simp) (by simp) (by simp) (by simp)
  have c5 : w.cell? ⟨m, 5, none⟩ = some (.pointer (some ⟨t, 0, none⟩)) := cellOf h.blk 5 rfl
  have hlt := ltOf h.blk
  have hC : Hid (∀ w', Keeps [] w w' → _) := Lib.hid fun w' (hk : Keeps [] w w') => cause_any (HM.out w' hk).tbl h1 id
  rw [hc] at hC
  have Hl := Lib.hid (look_lmap hn hk)
  obtain ⟨came, ended, ⟨s0, s1, s2, s3, s4, s5, s6⟩⟩ := k
  have hfl : ∀ w, (Instr.field 72 (Kn.val ⟨came, ended, ⟨s0, s1, s2, s3, s4, s5, s6⟩⟩) 2).run Tryz.prog w = .ok (.agg #[.int .i64 s0, .int .i64 s1, .int .i64 s2, .int .i64 s3, .int .i64 s4, .int .i64 s5, .int .i64 s6]) w := fun w => by kernel_rfl
  clear h hc hk hn
  go_enter Tryz.func8, Tryz.ntmps8
  go_wp2_with (first
    | (go_at_call 39; refine (mnone_at (HM.out _ (by repeat (first | exact Keeps.refl _ _ | assumption | refine Keeps.drew ?_ | refine Keeps.drewN ?_ _ | refine Keeps.alloc ?_ _ | refine Keeps.setCell ?_ (by simp <;> omega) _ | refine Keeps.trans ?_ (by assumption))))).mono ?_; rintro e w' ⟨rfl, rfl⟩)
    | (go_at_call 40; refine (hC.out _ (by repeat (first | exact Keeps.refl _ _ | assumption | refine Keeps.drew ?_ | refine Keeps.drewN ?_ _ | refine Keeps.alloc ?_ _ | refine Keeps.setCell ?_ (by simp <;> omega) _ | refine Keeps.trans ?_ (by assumption)))).mono ?_; rintro e w1 ⟨rfl, hk⟩; obtain ⟨b0, hk⟩ := hk.new1 (by simp); obtain ⟨r0, r1, r2, r3, r4, r5, r6⟩ := cells7 b0; (have fr := frees b0); (have hlr := ltOf b0); have b0 := Lib.hid b0; (have k6 : w1.cell? ⟨m, 6, none⟩ = some (.map (some lb)) := cellOf (HM.out _ hk).blk 6 rfl); (have hlk := (run_lookup_yes (P := Tryz.prog) Tryz.underlying54 Tryz.underlying3 (HM.out _ hk).live Hl.out).1)))
  exact bodyPost_ret (res_ct rfl agg_status rfl rfl rfl (stored7 b0.out)) rfl ⟨rfl, hk.store7 (fun h => by omega)⟩

end Go.Proofs.YthjghcfnopancaaGreat

/-
  Status of both, told by the state.
-/
namespace Go.Proofs.YthjghcfnopancaaGreat
open Go.RowKit Go.Shelf Go.Maps

def MS.status (S : MS) (id : Int) : St × Int :=
  if (causeOf S.l id).2 ≠ 0 then (St.zero, (causeOf S.l id).2) else
  if (causeOf S.l id).1 ≠ 0 then ({ St.zero with cause := (causeOf S.l id).1 }, 0) else
  match S.get id with
  | some k => (k.s, 0)
  | none => (St.zero, 18)

theorem status_any {m t tb lb : Nat} {S : MS} {w : World} (h : ModelAt w m t tb lb S) (hV : Valid S) (id : Int) :
    Calls Tryz.prog 8 #[.pointer (some ⟨m, 0, none⟩), .int .i64 id] w fun e w' => e = .returned (.tuple #[(S.status id).1.val, .int .i64 (S.status id).2]) ∧ Keeps [] w w' := by
  by_cases hd : (causeOf S.l id).2 ≠ 0 ∨ (causeOf S.l id).1 ≠ 0
  · refine (status_dead h hV.s1 id hd).mono ?_
    rintro e w' ⟨he, hk⟩
    refine ⟨?_, hk⟩
    rw [he]
    unfold MS.status
    by_cases h2 : (causeOf S.l id).2 ≠ 0
    · simp only [if_pos h2]
    · have h1 : (causeOf S.l id).1 ≠ 0 := by rcases hd with h | h; exact absurd h h2; exact h
      have h3 : (causeOf S.l id).2 = 0 := by simpa using h2
      rw [if_neg h2, if_neg h2, if_pos h1, h3]
  · have h2 : (causeOf S.l id).2 = 0 := by
      by_cases e : (causeOf S.l id).2 = 0
      · exact e
      · exact absurd (.inl e) hd
    have h1 : (causeOf S.l id).1 = 0 := by
      by_cases e : (causeOf S.l id).1 = 0
      · exact e
      · exact absurd (.inr e) hd
    rcases hV.cases id with hr | ⟨-, k, hk, -, hc⟩
    · exact absurd (by unfold refusal; rw [if_pos h2, h1]) hr
    · refine (status_live h hV.s1 id k hV.nodup hk hc).mono ?_
      rintro e w' ⟨he, hk'⟩
      refine ⟨?_, hk'⟩
      rw [he]
      unfold MS.status
      rw [if_neg (by simpa using h2), if_neg (by simpa using h1), MS.get_of hV.nodup hk]

theorem MineR.status {n0 : Pl} {w : World} {m t : Nat} {S : MS} (h : MineR n0 w m t S) (hV : Valid S) (id : Int) :
    Calls Tryz.prog 9 #[.pointer (some ⟨m, 0, none⟩), .int .i64 id] w fun e w' => e = .returned (.tuple #[(S.status id).1.val, .int .i64 (S.status id).2]) ∧ Keeps [] w w' := by
  obtain ⟨base, tv, lv, cs, ks, h1, h2, h3, h4, h5, h6⟩ := _root_.id h
  by_cases hd : (rcause cs id).2 ≠ 0 ∨ (rcause cs id).1 ≠ 0
  · refine (rm_status_dead h1 id hd).mono ?_
    rintro e w' ⟨he, hk⟩
    refine ⟨?_, hk⟩
    rw [he]
    unfold MS.status rstat
    rw [h2.cause]
    by_cases e2 : (rcause cs id).2 ≠ 0
    · simp only [if_pos e2]
    · have e1 : (rcause cs id).1 ≠ 0 := by rcases hd with h | h; exact absurd h e2; exact h
      simp only [if_neg e2, if_pos e1]
  · have e2 : (rcause cs id).2 = 0 := by
      by_cases e : (rcause cs id).2 = 0
      · exact e
      · exact absurd (.inl e) hd
    have e1 : (rcause cs id).1 = 0 := by
      by_cases e : (rcause cs id).1 = 0
      · exact e
      · exact absurd (.inr e) hd
    have hr : rrefuse cs id = 0 := by unfold rrefuse; rw [if_pos e2, e1]
    obtain ⟨i, rfl, hi, h0⟩ := rrefuse_zero hr
    have hik : i < ks.length := by rw [h2.len]; exact hi
    obtain ⟨k, hk⟩ : ∃ k, ks[i]? = some k := ⟨_, List.getElem?_eq_getElem hik⟩
    refine (rm_status h1 hk (Prod.ext e1 e2) (by have := h1.tbl.lim; omega)).mono ?_
    rintro e w' ⟨he, hk'⟩
    refine ⟨?_, hk'⟩
    rw [he]
    unfold MS.status
    rw [h2.cause, if_neg (by simpa using e2), if_neg (by simpa using e1), h2.get hV hi h0 hk]

end Go.Proofs.YthjghcfnopancaaGreat

/-
  Drain of the reference's model, told by the state.
-/
namespace Go.Proofs.YthjghcfnopancaaGreat
open Go.RowKit Go.Shelf Go.Maps

theorem MineR.drain {n0 : Pl} {w : World} {m t : Nat} {S : MS} (h : MineR n0 w m t S) (hV : Valid S) (id : Int) (hq : ∀ k, S.get id = some k → 0 ≤ k.s.queued ∧ k.s.queued ≤ 1000) :
    Calls Tryz.prog 32 #[.pointer (some ⟨m, 0, none⟩), .int .i64 id] w fun e w' => e = .returned (.int .i64 (S.drain id).1) ∧ MineR n0 w' m t (S.drain id).2 ∧ Above n0 w w' := by
  obtain ⟨base, tv, lv, cs, ks, h1, h2, h3, h4, h5, h6⟩ := _root_.id h
  by_cases hr : rrefuse cs id = 0
  · obtain ⟨i, rfl, hi, h0⟩ := rrefuse_zero hr
    have hik : i < ks.length := by rw [h2.len]; exact hi
    have hi1 : i < 1000 := by have := h1.tbl.lim; omega
    obtain ⟨k, hk⟩ : ∃ k, ks[i]? = some k := ⟨_, List.getElem?_eq_getElem hik⟩
    have hg := h2.get hV hi h0 hk
    have hqk := hq k hg
    by_cases hp : 0 < k.s.queued
    · have hw : max (wrap64 (k.s.queued - 1)) 0 = wrap64 (k.s.queued - 1) := by
        have : wrap64 (k.s.queued - 1) = k.s.queued - 1 := by unfold wrap64; omega
        rw [this]; omega
      have hS : S.drain ((i : Int) + 1) = (0, S.set ((i : Int) + 1) { k with s := { k.s with queued := wrap64 (k.s.queued - 1) } }) := by
        unfold MS.drain
        rw [h2.refuse, if_neg (by simpa using hr), hg]
        simp only
        rw [if_neg (by omega), if_pos hp, hw]
      rw [hS]
      exact (rm_drain_one h1 hk hr hi1 hp).mono fun e w' q => ⟨q.1, ⟨base, tv, lv, cs, _, q.2.2, h2.set _ _, h3, h4, h5, h6.up q.2.1.size⟩, ⟨_, fun b hb => ⟨Nat.le_trans h5.1 (h1.row.lt b (by simpa using hb)).1, h5.2.2 b (by simpa using hb)⟩, q.2.1⟩⟩
    · have hq0 : k.s.queued = 0 := by omega
      by_cases hc : k.s.cause = 0
      · have hS : S.drain ((i : Int) + 1) = (16, S) := by
          unfold MS.drain
          rw [h2.refuse, if_neg (by simpa using hr), hg]
          simp only
          rw [if_pos ⟨hq0, hc⟩]
        rw [hS]
        exact (rm_drain_empty h1 hk hr hi1 hp hc).mono fun e w' q => ⟨q.1, h.on q.2, .of q.2⟩
      · have hS : S.drain ((i : Int) + 1) = (k.s.cause, S.over ((i : Int) + 1) k.s.cause) := by
          unfold MS.drain
          rw [h2.refuse, if_neg (by simpa using hr), hg]
          simp only
          rw [if_neg (by intro e; exact hc e.2), if_neg hp, over_set]
        rw [hS]
        exact (rm_drain_over h1 hk hr h0 hi1 hp hc).mono fun e w' q => ⟨q.1, ⟨base, tv, lv, _, ks, q.2.2, h2.over i _ hc, h3, h4, h5, h6.up q.2.1.size⟩, ⟨_, fun b hb => ⟨Nat.le_trans h5.1 (h1.tbl.row.lt b (by simpa using hb)).1, h5.2.1 b (by simpa using hb)⟩, q.2.1⟩⟩
  · have hS : S.drain id = (rrefuse cs id, S) := by
      unfold MS.drain
      rw [h2.refuse, if_pos (by simpa using hr)]
    rw [hS]
    exact (rm_drain_no h1 id hr).mono fun e w' q => ⟨q.1, h.on q.2, .of q.2⟩

end Go.Proofs.YthjghcfnopancaaGreat
