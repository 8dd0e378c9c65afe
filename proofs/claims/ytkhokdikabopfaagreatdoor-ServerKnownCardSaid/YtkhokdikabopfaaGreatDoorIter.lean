/-
  Words for a range over a function: what a round keeps (KeepsR), and the keys of a map sorted. 
-/
import Derived.Test.YtkhokdikabopfaaGreatDoorHeap
import Derived.Shelf.SlIterI.Nil
import Derived.Shelf.SortM.Plain
import Derived.Shelf.SortM.SortNone
import Derived.RangeFuncNested
import Derived.RangeFuncBound
import Derived.RangeFuncCalls
import Derived.RangeFuncLeaves
import Derived.Maps.AppendAt
import Derived.Shelf.Abstract
import Derived.Shelf.RegionOpen
import Derived.OwnWalkIn
import Derived.TacticsInMore
import Derived.LoopNIn
import Derived.LoopIn
namespace Go.Proofs.YtkhokdikabopfaaGreatDoor
open Go.RowKit Go.Shelf Go.Maps

/-- What a round keeps: every block of cells, and all that lay below base, but the blocks of the list. -/
structure KeepsR (base : Nat) (lst : List Nat) (W W' : World) : Prop where
  os : W'.os = W.os
  tape : W'.tape = W.tape
  output : W'.output = W.output
  size : W.heap.size ≤ W'.heap.size
  block : ∀ k o, W.heap[k]? = some o → k ∉ lst → (k < base ∨ o.isCells = true) → W'.heap[k]? = some o

namespace KeepsR
theorem trans {base : Nat} {lst : List Nat} {a b c : World} (h : KeepsR base lst a b) (k : KeepsR base lst b c) : KeepsR base lst a c :=
  ⟨k.os.trans h.os, k.tape.trans h.tape, k.output.trans h.output, Nat.le_trans h.size k.size, fun i o hi hl hb => k.block i o (h.block i o hi hl hb) hl hb⟩
theorem of_keeps {base : Nat} {lst : List Nat} {a b : World} (h : Keeps lst a b) : KeepsR base lst a b :=
  ⟨h.os, h.tape, h.output, h.size, fun _ _ hi hl _ => h.blk hi hl⟩
theorem putObj {base : Nat} {lst : List Nat} (W : World) (l : Nat) (o o' : Obj) (hB : base ≤ l) (hl : W.heap[l]? = some o) (ho : o.isCells = false) : KeepsR base lst W (W.putObj l o') :=
  ⟨rfl, rfl, rfl, by simp [World.putObj], fun k x hk _ hb => by
    have : k ≠ l := by
      rintro rfl
      rw [hl] at hk; cases hk
      rcases hb with hb | hb
      · omega
      · rw [ho] at hb; cases hb
    rw [World.putObj_heap_other this]; exact hk⟩
theorem imap {base : Nat} {lst : List Nat} {a b : World} (h : KeepsR base lst a b) {m : Nat} {l : List (Int × Value)} (hm : IMap a m l) (hl : m ∉ lst) (hb : m < base) : IMap b m l := by
  obtain ⟨es, clock, he, r⟩ := hm.ex
  exact ⟨es, clock, h.block m _ he hl (.inl hb), r⟩
theorem cells {base : Nat} {lst : List Nat} {a b : World} (h : KeepsR base lst a b) {m : Nat} {cs : Array Value} {T : TypeId} {z : Nat × Nat} (hm : a.heap[m]? = some (.cells cs T z)) (hl : m ∉ lst) : b.heap[m]? = some (.cells cs T z) :=
  h.block m _ hm hl (.inr rfl)
end KeepsR

theorem grownBy_of_below {W W' : World} (h : Below W.heap.size W W') : W.grownBy W' none := ⟨h.os, h.tape, h.output, h.size, fun k hk _ => h.block k hk⟩

/-- A map from ints as the library's words have it, whatever its values are. -/
theorem own_of_imap {H : Type} {P : Program} {K : TypeId} (hK : P.underlying K = some (.int .i64)) {w : World} {b : Nat} {l : List (Int × Value)} (h : IMap w b l)
    (hnd : (l.map (·.1)).Nodup) (hwf : ∀ p ∈ l, (Lit.int .i64 p.1).wf = true) (hlen : l.length ≤ maxLen) :
    ∃ D0 : DataW H, w.ownsMap P K (fun _ => some (.nil, [])) b l.length D0 ∧ (Go.intKeys D0).Perm (l.map (·.1)) ∧ Maps.size D0 = l.length := by
  obtain ⟨es, clock, hb, hp, hw, hc⟩ := h.ex
  have hsz : es.size = l.length := by have := congrArg List.length hp; simpa [pairsOf, ents] using this
  have hkeys : es.toList.map (·.key) = l.map (fun p => Value.int .i64 p.1) := by
    have := congrArg (List.map Prod.fst) hp
    simp only [pairsOf, ents, List.map_map] at this
    exact this
  have hrd : ∀ x ∈ es.toList, ∃ a : Int, x.key = .int .i64 a ∧ (Lit.int .i64 a).wf = true := by
    intro x hx
    have : x.key ∈ es.toList.map (·.key) := List.mem_map.2 ⟨x, hx, rfl⟩
    rw [hkeys] at this
    obtain ⟨p, hp1, hp2⟩ := List.mem_map.1 this
    exact ⟨p.1, hp2.symm, hwf p hp1⟩
  have hrd2 : ∀ x ∈ es.toList, ∀ a : Int, x.key = .int .i64 a → (Lit.int .i64 a).wf = true → Go.WideElems.rd (H := H) P K (fun _ => some (.nil, [])) x = some (.int .i64 a, .nil) := by
    intro x hx a h1 h2
    simp [Go.WideElems.rd, h1, Maps.keyOf_int_mk hK h2]
  refine ⟨_, ⟨es, clock, hb, ⟨by omega, ⟨hc, ?_, ?_⟩, ?_⟩, by omega, rfl⟩, ?_, ?_⟩
  · exact (List.pairwise_map.2 hw).imp (fun h => Nat.ne_of_lt h)
  · rw [hkeys]
    have : (l.map (fun p => Value.int .i64 p.1)) = (l.map (·.1)).map (fun a => Value.int .i64 a) := by simp
    rw [this]
    exact List.pairwise_map.2 (hnd.imp (fun h e => h (by simpa using e)))
  · intro x hx
    obtain ⟨a, h1, h2⟩ := hrd x hx
    exact ⟨_, hrd2 x hx a h1 h2⟩
  · refine ((Go.WideShapes.sorted_perm _).map _).trans ?_
    have : (es.toList.map (Go.WideElems.rg (H := H) P K (fun _ => some (.nil, [])))).map (fun p => Go.intOf p.1) = l.map (·.1) := by
      have h2 : l.map (·.1) = (es.toList.map (·.key)).map (fun v => match v with | .int _ a => a | _ => 0) := by rw [hkeys]; simp
      rw [h2]
      simp only [List.map_map]
      refine List.map_congr_left fun x hx => ?_
      obtain ⟨a, h1, h2⟩ := hrd x hx
      simp [Go.WideElems.rg, hrd2 x hx a h1 h2, Go.intOf, h1]
    rw [this]
  · simp [Maps.size, (Go.WideShapes.sorted_perm _).length_eq, hsz]

/-- A row that is not empty: where it lies. -/
theorem ownsRow_at {w : World} {base : Nat} {e : TypeId} {v : Value} {n : Nat} {xs : List Value} (h : w.ownsRow base e 1 v n xs) (hn : 0 < n) :
    ∃ g cap cur, v = .slice (some ⟨g, 0, none⟩) n cap ∧ base ≤ g ∧ w.heap[g]? = some (.cells cur e (0, 0)) ∧ n ≤ cap ∧ cap ≤ maxLen ∧ ∀ (i : Nat) (x : Value), xs[i]? = some x → cur[i]? = some x := by
  obtain ⟨hl, ⟨-, h0⟩ | ⟨g, cap, cur, hv, hb, hg, h1, h2, h3, h4⟩⟩ := h
  · omega
  · refine ⟨g, cap, cur, hv, hb, hg, h1, h2, fun i x hx => ?_⟩
    rw [← h4] at hx
    rw [List.getElem?_take] at hx
    split at hx
    · simpa using hx
    · cases hx

/-- append onto a row of one's own: the row grows in its block, or goes to a new one. -/
theorem run_append2 {P : Program} (w : World) (base : Nat) (t ty e : TypeId) (i : TypeInfo) (z : Value) (size bytes : Nat) (ht : P.underlying t = some (.slice e)) (hi : P.info? e = some i) (hz : i.zero = some z)
    (hsize : i.size = size) (hby : i.bytes = bytes) (hzs : z.cells.size = size) (hsz : 0 < size)
    (v : Value) (n : Nat) (xs : List Value) (hown : w.ownsRow base e size v n xs)
    (a : Addr) (m c : Nat) (news : List Value) (hl : news.length = m * size) (hnews : ∀ j u, news[j]? = some u → w.cell? (a.add j) = some u) (h1 : ∀ u ∈ news, u.oneCell' = true)
    (h63 : n + m ≤ maxLen) (hbytes : (n + m) * bytes ≤ 140737488355328) (hbase : base ≤ w.heap.size) :
    ∃ v' w', (Builtin.append_ #[t, t] ty #[v, .slice (some a) m c]).run P w = .ok v' w' ∧ w'.ownsRow base e size v' (n + m) (xs ++ news) ∧ w.grownBy w' v.ownBlock ∧
      (v' = .slice none 0 0 ↔ v = .slice none 0 0 ∧ m = 0) ∧ ∀ g, v'.ownBlock = some g → v.ownBlock = some g ∨ w.heap.size ≤ g := by
  obtain ⟨v', w', hr, h2, h3, h4⟩ := run_append_own (P := P) w base t ty e i z size bytes ht hi hz hsize hby hzs hsz v n xs hown a m c news hl hnews h1 h63 hbytes hbase
  refine ⟨v', w', hr, h2, h3, h4, fun g hg => ?_⟩
  obtain ⟨hxl, ⟨rfl, rfl⟩ | ⟨g0, cap, cur, rfl, hbg, hgb, hnc, hcm, hcs, htake⟩⟩ := id hown
  · obtain ⟨v2, w2, hr2, k2, -, -⟩ := run_append_own (P := P) w w.heap.size t ty e i z size bytes ht hi hz hsize hby hzs hsz _ 0 xs ⟨hxl, .inl ⟨rfl, rfl⟩⟩ a m c news hl hnews h1 h63 hbytes (Nat.le_refl _)
    rw [hr] at hr2
    obtain ⟨rfl, rfl⟩ : v' = v2 ∧ w' = w2 := by injection hr2 with e1 e2; exact ⟨e1, e2⟩
    exact .inr (k2.lt g hg).1
  · by_cases hroom : n + m ≤ cap
    · subst hsize
      have hr2 := run_append_room (P := P) w t ty e i ht hi g0 n cap cur hgb a m c news hl hnews h1 hroom (by rw [hl, hcs, ← Nat.add_mul]; exact Nat.mul_le_mul_right _ hroom)
      rw [hr] at hr2
      obtain ⟨rfl, -⟩ : v' = _ ∧ w' = _ := by injection hr2 with e1 e2; exact ⟨e1, e2⟩
      exact .inl hg
    · subst hsize; subst hby
      have holds : ∀ j u, xs[j]? = some u → w.cell? ((⟨g0, 0, none⟩ : Addr).add j) = some u := hown.cells (g := g0) rfl
      have hr2 := run_append_grow (P := P) w t ty e i z ht hi hz ⟨g0, 0, none⟩ n cap xs hown.1 holds a m c news hl hnews (by omega) (by simp only [maxLen] at h63; omega) (growslice_fits (by omega) hbytes)
      rw [hr] at hr2
      obtain ⟨rfl, -⟩ : v' = _ ∧ w' = _ := by injection hr2 with e1 e2; exact ⟨e1, e2⟩
      simp only [Value.ownBlock, Option.some.injEq] at hg
      exact .inr (Nat.le_of_eq hg)

theorem wpListIn_append2 {F : Fence} {n : Nat} {P : Program} (w : World) {ops : Array Oper} {rest : List Oper} {o : Oper} {a : Act} {Q : Exit → Act → World → Prop}
    (hg : o.guard = none) (s x : Operand) (t : TypeId) (hop : o.op = Op.call { callee := Callee.builtin Builtin.append, args := #[s, x], argTypes := #[t, t] })
    (base : Nat) (e : TypeId) (i : TypeInfo) (z : Value) (size bytes : Nat) (h1 : P.underlying t = some (.slice e)) (h2 : P.info? e = some i) (h3 : i.zero = some z) (h4 : i.size = size) (h5 : i.bytes = bytes) (h6 : z.cells.size = size) (h7 : 0 < size)
    (v : Value) (k : Nat) (xs : List Value) (hs : a.eval s = v) (hown : w.ownsRow base e size v k xs) (ad : Addr) (m c : Nat) (news : List Value) (hx : a.eval x = .slice (some ad) m c) (hn : news.length = m * size)
    (hc : ∀ j u, news[j]? = some u → w.cell? (ad.add j) = some u) (h1c : ∀ u ∈ news, u.oneCell' = true) (b1 : k + m ≤ maxLen) (b2 : (k + m) * bytes ≤ 140737488355328) (b3 : base ≤ w.heap.size)
    (hK : ∀ v' w', w'.ownsRow base e size v' (k + m) (xs ++ news) → w.grownBy w' v.ownBlock → (v' = .slice none 0 0 ↔ v = .slice none 0 0 ∧ m = 0) → (∀ g, v'.ownBlock = some g → v.ownBlock = some g ∨ w.heap.size ≤ g) → wpListIn F n P ops Q rest (a.put o.dst v') w') :
    wpListIn F n P ops Q (o :: rest) a w := by
  refine wpListIn_plain hg fun K hK' => ?_
  obtain ⟨v', w', hrun, r1, r2, r3, r4⟩ := run_append2 (P := P) w base t o.type e i z size bytes h1 h2 h3 h4 h5 h6 h7 v k xs hown ad m c news hn hc h1c b1 b2 b3
  unfold Oper.wpIn
  refine ⟨?_, ?_⟩
  · simp [Oper.about, hop, resolve, Target.leads, Sem.run_pure]
  · rw [Oper.semAt_plain F _ _ (by rw [hop]; intro c hc'; cases hc')]
    simp [execOp, hop, resolve, invoke, builtin, hs, hx, hrun, Result.andThen]
    exact hK' _ _ (hK v' w' r1 r2 r3 r4)

theorem wpList_append2 {P : Program} (w : World) {ops : Array Oper} {rest : List Oper} {o : Oper} {a : Act} {Q : Exit → Act → World → Prop}
    (hg : o.guard = none) (s x : Operand) (t : TypeId) (hop : o.op = Op.call { callee := Callee.builtin Builtin.append, args := #[s, x], argTypes := #[t, t] })
    (base : Nat) (e : TypeId) (i : TypeInfo) (z : Value) (size bytes : Nat) (h1 : P.underlying t = some (.slice e)) (h2 : P.info? e = some i) (h3 : i.zero = some z) (h4 : i.size = size) (h5 : i.bytes = bytes) (h6 : z.cells.size = size) (h7 : 0 < size)
    (v : Value) (k : Nat) (xs : List Value) (hs : a.eval s = v) (hown : w.ownsRow base e size v k xs) (ad : Addr) (m c : Nat) (news : List Value) (hx : a.eval x = .slice (some ad) m c) (hn : news.length = m * size)
    (hc : ∀ j u, news[j]? = some u → w.cell? (ad.add j) = some u) (h1c : ∀ u ∈ news, u.oneCell' = true) (b1 : k + m ≤ maxLen) (b2 : (k + m) * bytes ≤ 140737488355328) (b3 : base ≤ w.heap.size)
    (hK : ∀ v' w', w'.ownsRow base e size v' (k + m) (xs ++ news) → w.grownBy w' v.ownBlock → (v' = .slice none 0 0 ↔ v = .slice none 0 0 ∧ m = 0) → (∀ g, v'.ownBlock = some g → v.ownBlock = some g ∨ w.heap.size ≤ g) → wpList P ops Q rest (a.put o.dst v') w') :
    wpList P ops Q (o :: rest) a w := by
  refine wpList_plain hg fun K hK' => ?_
  obtain ⟨v', w', hrun, r1, r2, r3, r4⟩ := run_append2 (P := P) w base t o.type e i z size bytes h1 h2 h3 h4 h5 h6 h7 v k xs hown ad m c news hn hc h1c b1 b2 b3
  unfold Oper.wp execOp
  simp only [hop, resolve, invoke, builtin, Sem.run_bind, Sem.run_pure, Result.andThen_ok, List.map_toArray, List.map_cons, List.map_nil, hs, hx, hrun]
  exact hK' _ _ (hK v' w' r1 r2 r3 r4)

theorem ownsRow_of {w w' : World} {base : Nat} {e : TypeId} {size : Nat} {v : Value} {n : Nat} {xs : List Value} (h : w.ownsRow base e size v n xs) (hk : ∀ g, v.ownBlock = some g → w'.heap[g]? = w.heap[g]?) : w'.ownsRow base e size v n xs := by
  obtain ⟨h1, ⟨rfl, rfl⟩ | ⟨g, cap, cur, rfl, hb, hg, r⟩⟩ := h
  · exact ⟨h1, .inl ⟨rfl, rfl⟩⟩
  · exact ⟨h1, .inr ⟨g, cap, cur, rfl, hb, (hk g rfl).trans hg, r⟩⟩

/-- The blocks of a variable that holds a row of one's own. -/
def held (B : Nat) (v : Value) : List Nat := B :: v.ownBlock.toList
theorem mem_held {B k : Nat} {v : Value} : k ∈ held B v ↔ k = B ∨ v.ownBlock = some k := by
  simp [held, Option.mem_toList]

end Go.Proofs.YtkhokdikabopfaaGreatDoor
