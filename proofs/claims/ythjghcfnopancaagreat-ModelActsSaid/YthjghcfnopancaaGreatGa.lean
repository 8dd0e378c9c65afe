/-
  Words on memory that this seat's walks share: which blocks a call may change (Keeps), and maps whose keys are ints (IMap). No program in sight.
-/
import Derived.WalkKit
import Derived.WalkSpells
import Derived.WalkLawsBesides
import Derived.Carry
import Derived.MapKept
import Derived.Lib.Hide
import Derived.Test.YthjghcfnopancaaGreatRows
import Derived.Deep.QuietTactic
import Derived.BigQuiet
import Derived.Shelf.SlIterI.Nil
import Derived.Shelf.SortM.Plain
import Derived.Shelf.SortM.SortNone
import Derived.RangeFuncNested
import Derived.RangeFuncBound
import Derived.RangeFuncCalls
import Derived.RangeFuncLeaves
import Derived.Maps.AppendAt
import Derived.Shelf.Abstract
import Derived.Shelf.RegionOpen
import Derived.OwnWalkIn
import Derived.TacticsInMore
import Derived.LoopNIn
import Derived.LoopIn
namespace Go.Proofs.YthjghcfnopancaaGreat
open Go.RowKit

/-! ### Blocks and cells -/
theorem cellOf {w : World} {b : Nat} {cs : Array Value} {T : TypeId} {z : Nat × Nat} (h : w.heap[b]? = some (.cells cs T z)) (i : Nat) {v : Value} (hv : cs[i]? = some v) :
    w.cell? ⟨b, i, none⟩ = some v := by
  simp [World.cell?, h, hv]
theorem freeOf {w : World} {b : Nat} {cs : Array Value} {T : TypeId} (h : w.heap[b]? = some (.cells cs T (0, 0))) (i : Nat) :
    w.frozen? ⟨b, i, none⟩ = false := by
  simp [World.frozen?, h]
theorem cells2 {w : World} {b : Nat} {T : TypeId} {z : Nat × Nat} {a0 a1 : Value} (h : w.heap[b]? = some (.cells #[a0, a1] T z)) :
    w.cell? ⟨b, 0, none⟩ = some a0 ∧ w.cell? ⟨b, 1, none⟩ = some a1 :=
  ⟨cellOf h 0 rfl, cellOf h 1 rfl⟩

theorem cells3 {w : World} {b : Nat} {T : TypeId} {z : Nat × Nat} {a0 a1 a2 : Value} (h : w.heap[b]? = some (.cells #[a0, a1, a2] T z)) :
    w.cell? ⟨b, 0, none⟩ = some a0 ∧ w.cell? ⟨b, 1, none⟩ = some a1 ∧ w.cell? ⟨b, 2, none⟩ = some a2 :=
  ⟨cellOf h 0 rfl, cellOf h 1 rfl, cellOf h 2 rfl⟩

theorem cells5 {w : World} {b : Nat} {T : TypeId} {z : Nat × Nat} {a0 a1 a2 a3 a4 : Value} (h : w.heap[b]? = some (.cells #[a0, a1, a2, a3, a4] T z)) :
    w.cell? ⟨b, 0, none⟩ = some a0 ∧ w.cell? ⟨b, 1, none⟩ = some a1 ∧ w.cell? ⟨b, 2, none⟩ = some a2 ∧ w.cell? ⟨b, 3, none⟩ = some a3 ∧ w.cell? ⟨b, 4, none⟩ = some a4 :=
  ⟨cellOf h 0 rfl, cellOf h 1 rfl, cellOf h 2 rfl, cellOf h 3 rfl, cellOf h 4 rfl⟩

theorem cells7 {w : World} {b : Nat} {T : TypeId} {z : Nat × Nat} {a0 a1 a2 a3 a4 a5 a6 : Value} (h : w.heap[b]? = some (.cells #[a0, a1, a2, a3, a4, a5, a6] T z)) :
    w.cell? ⟨b, 0, none⟩ = some a0 ∧ w.cell? ⟨b, 1, none⟩ = some a1 ∧ w.cell? ⟨b, 2, none⟩ = some a2 ∧ w.cell? ⟨b, 3, none⟩ = some a3 ∧ w.cell? ⟨b, 4, none⟩ = some a4 ∧ w.cell? ⟨b, 5, none⟩ = some a5 ∧ w.cell? ⟨b, 6, none⟩ = some a6 :=
  ⟨cellOf h 0 rfl, cellOf h 1 rfl, cellOf h 2 rfl, cellOf h 3 rfl, cellOf h 4 rfl, cellOf h 5 rfl, cellOf h 6 rfl⟩

theorem cells9 {w : World} {b : Nat} {T : TypeId} {z : Nat × Nat} {a0 a1 a2 a3 a4 a5 a6 a7 a8 : Value} (h : w.heap[b]? = some (.cells #[a0, a1, a2, a3, a4, a5, a6, a7, a8] T z)) :
    w.cell? ⟨b, 0, none⟩ = some a0 ∧ w.cell? ⟨b, 1, none⟩ = some a1 ∧ w.cell? ⟨b, 2, none⟩ = some a2 ∧ w.cell? ⟨b, 3, none⟩ = some a3 ∧ w.cell? ⟨b, 4, none⟩ = some a4 ∧ w.cell? ⟨b, 5, none⟩ = some a5 ∧ w.cell? ⟨b, 6, none⟩ = some a6 ∧ w.cell? ⟨b, 7, none⟩ = some a7 ∧ w.cell? ⟨b, 8, none⟩ = some a8 :=
  ⟨cellOf h 0 rfl, cellOf h 1 rfl, cellOf h 2 rfl, cellOf h 3 rfl, cellOf h 4 rfl, cellOf h 5 rfl, cellOf h 6 rfl, cellOf h 7 rfl, cellOf h 8 rfl⟩

theorem frees {w : World} {b : Nat} {cs : Array Value} {T : TypeId} (h : w.heap[b]? = some (.cells cs T (0, 0))) : ∀ i, w.frozen? ⟨b, i, none⟩ = false := fun i => freeOf h i
theorem ltOf {w : World} {b : Nat} {o : Obj} (h : w.heap[b]? = some o) : b < w.heap.size := (Array.getElem?_eq_some_iff.1 h).1

theorem heap_new (w : World) (o : Obj) : (w.alloc o).heap[w.heap.size]? = some o := by
  show (w.heap.push o)[w.heap.size]? = _
  simp

theorem heap_new_at {w : World} {b : Nat} (o : Obj) (h : b = w.heap.size) : (w.alloc o).heap[b]? = some o := by subst h; exact heap_new w o

theorem nodup_fst {α : Type} : ∀ {l : List (Int × α)} {p q : Int × α}, (l.map (·.1)).Nodup → p ∈ l → q ∈ l → p.1 = q.1 → p = q
  | a :: t, p, q, hn, hp, hq, e => by
    simp only [List.map_cons, List.nodup_cons] at hn
    simp only [List.mem_cons] at hp hq
    rcases hp with rfl | hp <;> rcases hq with rfl | hq
    · rfl
    · exact absurd (List.mem_map.2 ⟨q, hq, e.symm⟩) hn.1
    · exact absurd (List.mem_map.2 ⟨p, hp, e⟩) hn.1
    · exact nodup_fst hn.2 hp hq e

/-- Nothing that was there is turned but the blocks of the list; no block goes. -/
structure Keeps (l : List Nat) (w w' : World) : Prop where
  os : w'.os = w.os
  tape : w'.tape = w.tape
  output : w'.output = w.output
  size : w.heap.size ≤ w'.heap.size
  block : ∀ k, k < w.heap.size → k ∉ l → w'.heap[k]? = w.heap[k]?

namespace Keeps
theorem refl (l : List Nat) (w : World) : Keeps l w w := ⟨rfl, rfl, rfl, Nat.le_refl _, fun _ _ _ => rfl⟩
theorem trans {l : List Nat} {a b c : World} (h : Keeps l a b) (k : Keeps l b c) : Keeps l a c :=
  ⟨k.os.trans h.os, k.tape.trans h.tape, k.output.trans h.output, Nat.le_trans h.size k.size, fun i hi hl => (k.block i (Nat.lt_of_lt_of_le hi h.size) hl).trans (h.block i hi hl)⟩
/-- Behind a step, another one that may turn what is new besides. -/
theorem trans' {l l' : List Nat} {a b c : World} (h : Keeps l a b) (k : Keeps l' b c) (hl : ∀ i ∈ l', i < a.heap.size → i ∈ l) : Keeps l a c :=
  ⟨k.os.trans h.os, k.tape.trans h.tape, k.output.trans h.output, Nat.le_trans h.size k.size, fun i hi hn => (k.block i (Nat.lt_of_lt_of_le hi h.size) (fun hm => hn (hl i hm hi))).trans (h.block i hi hn)⟩
theorem mono {l l' : List Nat} {w w' : World} (h : Keeps l w w') (hl : ∀ i ∈ l, i ∈ l') : Keeps l' w w' :=
  ⟨h.os, h.tape, h.output, h.size, fun k hk hn => h.block k hk (fun hm => hn (hl k hm))⟩
theorem of_below {l : List Nat} {w w' : World} (h : Below w.heap.size w w') : Keeps l w w' := ⟨h.os, h.tape, h.output, h.size, fun k hk _ => h.block k hk⟩
theorem below {l : List Nat} {w w' : World} {B : Nat} (h : Keeps l w w') (hB : B ≤ w.heap.size) (hl : ∀ i ∈ l, B ≤ i) : Below B w w' :=
  ⟨h.os, h.tape, h.output, h.size, fun k hk => h.block k (Nat.lt_of_lt_of_le hk hB) (fun hm => by have := hl k hm; omega)⟩
theorem below' {w w' : World} (h : Keeps [] w w') : Below w.heap.size w w' := h.below (Nat.le_refl _) (by simp)
theorem drew {l : List Nat} {a w : World} (h : Keeps l a w) : Keeps l a w.drew := ⟨h.os, h.tape, h.output, h.size, h.block⟩
theorem drewN {l : List Nat} {a w : World} (h : Keeps l a w) (n : Nat) : Keeps l a (w.drewN n) := ⟨h.os, h.tape, h.output, h.size, h.block⟩
theorem alloc {l : List Nat} {a w : World} (h : Keeps l a w) (o : Obj) : Keeps l a (w.alloc o) :=
  h.trans ⟨rfl, rfl, rfl, by simp, fun k hk _ => Below.heap_alloc _ _ _ hk⟩
theorem setCell {l : List Nat} {a w : World} (h : Keeps l a w) {p : Addr} (hp : p.block < a.heap.size → p.block ∈ l) (u : Value) : Keeps l a (w.setCell p u) :=
  ⟨h.os, h.tape, h.output, by simp [World.setCell]; exact h.size, fun k hk hn => (Below.heap_setCell _ _ _ _ (fun e => hn (by subst e; exact hp hk))).trans (h.block k hk hn)⟩
theorem blk {l : List Nat} {w w' : World} {b : Nat} {o : Obj} (h : Keeps l w w') (hb : w.heap[b]? = some o) (hn : b ∉ l) : w'.heap[b]? = some o := by
  rw [h.block b (ltOf hb) hn]; exact hb
theorem cell {l : List Nat} {w w' : World} {a : Addr} {v : Value} (h : Keeps l w w') (hc : w.cell? a = some v) (hn : a.block ∉ l) : w'.cell? a = some v :=
  (World.cell?_of_block (h.block a.block (World.block_lt_of_cell? _ _ hc) hn)).trans hc
end Keeps

theorem Keeps.new1 {l : List Nat} {w w1 : World} {o0 : Obj} (h : Keeps l (w.alloc o0) w1) (h0 : w.heap.size ∉ l) :
    w1.heap[w.heap.size]? = some o0 ∧ Keeps l w w1 :=
  ⟨h.blk (heap_new_at _ (by simp)) h0, ((Keeps.refl _ _).alloc _).trans h⟩

theorem Keeps.new2 {l : List Nat} {w w1 : World} {o0 o1 : Obj} (h : Keeps l ((w.alloc o0).alloc o1) w1) (h0 : w.heap.size ∉ l) (h1 : w.heap.size + 1 ∉ l) :
    w1.heap[w.heap.size]? = some o0 ∧ w1.heap[w.heap.size + 1]? = some o1 ∧ Keeps l w w1 :=
  ⟨h.blk ((Below.heap_alloc _ _ _ (by simp <;> omega)).trans (heap_new_at _ (by simp))) h0, h.blk (heap_new_at _ (by simp)) h1, (((Keeps.refl _ _).alloc _).alloc _).trans h⟩

theorem Keeps.new3 {l : List Nat} {w w1 : World} {o0 o1 o2 : Obj} (h : Keeps l (((w.alloc o0).alloc o1).alloc o2) w1) (h0 : w.heap.size ∉ l) (h1 : w.heap.size + 1 ∉ l) (h2 : w.heap.size + 2 ∉ l) :
    w1.heap[w.heap.size]? = some o0 ∧ w1.heap[w.heap.size + 1]? = some o1 ∧ w1.heap[w.heap.size + 2]? = some o2 ∧ Keeps l w w1 :=
  ⟨h.blk ((Below.heap_alloc _ _ _ (by simp <;> omega)).trans ((Below.heap_alloc _ _ _ (by simp <;> omega)).trans (heap_new_at _ (by simp)))) h0, h.blk ((Below.heap_alloc _ _ _ (by simp <;> omega)).trans (heap_new_at _ (by simp))) h1, h.blk (heap_new_at _ (by simp)) h2, ((((Keeps.refl _ _).alloc _).alloc _).alloc _).trans h⟩

theorem Keeps.new4 {l : List Nat} {w w1 : World} {o0 o1 o2 o3 : Obj} (h : Keeps l ((((w.alloc o0).alloc o1).alloc o2).alloc o3) w1) (h0 : w.heap.size ∉ l) (h1 : w.heap.size + 1 ∉ l) (h2 : w.heap.size + 2 ∉ l) (h3 : w.heap.size + 3 ∉ l) :
    w1.heap[w.heap.size]? = some o0 ∧ w1.heap[w.heap.size + 1]? = some o1 ∧ w1.heap[w.heap.size + 2]? = some o2 ∧ w1.heap[w.heap.size + 3]? = some o3 ∧ Keeps l w w1 :=
  ⟨h.blk ((Below.heap_alloc _ _ _ (by simp <;> omega)).trans ((Below.heap_alloc _ _ _ (by simp <;> omega)).trans ((Below.heap_alloc _ _ _ (by simp <;> omega)).trans (heap_new_at _ (by simp))))) h0, h.blk ((Below.heap_alloc _ _ _ (by simp <;> omega)).trans ((Below.heap_alloc _ _ _ (by simp <;> omega)).trans (heap_new_at _ (by simp)))) h1, h.blk ((Below.heap_alloc _ _ _ (by simp <;> omega)).trans (heap_new_at _ (by simp))) h2, h.blk (heap_new_at _ (by simp)) h3, (((((Keeps.refl _ _).alloc _).alloc _).alloc _).alloc _).trans h⟩

theorem Keeps.new5 {l : List Nat} {w w1 : World} {o0 o1 o2 o3 o4 : Obj} (h : Keeps l (((((w.alloc o0).alloc o1).alloc o2).alloc o3).alloc o4) w1) (h0 : w.heap.size ∉ l) (h1 : w.heap.size + 1 ∉ l) (h2 : w.heap.size + 2 ∉ l) (h3 : w.heap.size + 3 ∉ l) (h4 : w.heap.size + 4 ∉ l) :
    w1.heap[w.heap.size]? = some o0 ∧ w1.heap[w.heap.size + 1]? = some o1 ∧ w1.heap[w.heap.size + 2]? = some o2 ∧ w1.heap[w.heap.size + 3]? = some o3 ∧ w1.heap[w.heap.size + 4]? = some o4 ∧ Keeps l w w1 :=
  ⟨h.blk ((Below.heap_alloc _ _ _ (by simp <;> omega)).trans ((Below.heap_alloc _ _ _ (by simp <;> omega)).trans ((Below.heap_alloc _ _ _ (by simp <;> omega)).trans ((Below.heap_alloc _ _ _ (by simp <;> omega)).trans (heap_new_at _ (by simp)))))) h0, h.blk ((Below.heap_alloc _ _ _ (by simp <;> omega)).trans ((Below.heap_alloc _ _ _ (by simp <;> omega)).trans ((Below.heap_alloc _ _ _ (by simp <;> omega)).trans (heap_new_at _ (by simp))))) h1, h.blk ((Below.heap_alloc _ _ _ (by simp <;> omega)).trans ((Below.heap_alloc _ _ _ (by simp <;> omega)).trans (heap_new_at _ (by simp)))) h2, h.blk ((Below.heap_alloc _ _ _ (by simp <;> omega)).trans (heap_new_at _ (by simp))) h3, h.blk (heap_new_at _ (by simp)) h4, ((((((Keeps.refl _ _).alloc _).alloc _).alloc _).alloc _).alloc _).trans h⟩

/-! ### Maps whose keys are ints -/
/-- What a key leads to. -/
def look : List (Int × Value) → Int → Option Value
  | [], _ => none
  | (a, v) :: t, k => if k = a then some v else look t k
/-- Behind a store. -/
def put : List (Int × Value) → Int → Value → List (Int × Value)
  | [], k, v => [(k, v)]
  | (a, u) :: t, k, v => if k = a then (k, v) :: t else (a, u) :: put t k v
/-- Behind a delete. -/
def del : List (Int × Value) → Int → List (Int × Value)
  | [], _ => []
  | (a, u) :: t, k => if k = a then t else (a, u) :: del t k

def pairsOf (es : List MapEntry) : List (Value × Value) := es.map fun e => (e.key, e.val)
def ents (l : List (Int × Value)) : List (Value × Value) := l.map fun p => (.int .i64 p.1, p.2)

/-- Block b is a map from ints, with these entries in the order of their birth. -/
structure IMap (w : World) (b : Nat) (l : List (Int × Value)) : Prop where
  ex : ∃ es clock, w.heap[b]? = some (.map es clock) ∧ pairsOf es.toList = ents l ∧ es.toList.Pairwise (fun x y => x.born < y.born) ∧ ∀ e ∈ es.toList, e.born < clock

theorem IMap.keep {l : List Nat} {w w' : World} {b : Nat} {m : List (Int × Value)} (h : IMap w b m) (k : Keeps l w w') (hn : b ∉ l) : IMap w' b m := by
  obtain ⟨es, clock, hb, r⟩ := h.ex
  exact ⟨es, clock, k.blk hb hn, r⟩
theorem IMap.lt {w : World} {b : Nat} {m : List (Int × Value)} (h : IMap w b m) : b < w.heap.size := by
  obtain ⟨es, clock, hb, r⟩ := h.ex
  exact ltOf hb
theorem IMap.drew {w : World} {b : Nat} {m : List (Int × Value)} (h : IMap w b m) : IMap w.drew b m := ⟨h.ex⟩
theorem IMap.alloc {w : World} {b : Nat} {m : List (Int × Value)} (h : IMap w b m) (o : Obj) : IMap (w.alloc o) b m :=
  h.keep ((Keeps.refl [] w).alloc o) (by simp)
theorem IMap.made (w : World) : IMap (w.alloc (.map #[] 0)) w.heap.size [] := by
  refine ⟨#[], 0, heap_new w _, ?_, ?_, ?_⟩ <;> simp [pairsOf, ents]

theorem run_checkKey_int {P : Program} {w : World} {K : TypeId} {q : IntKind} (hK : P.underlying K = some (.int q)) (e : Bool) (n : Nat) (k : Int) :
    (Instr.checkKey e (n + 1) K (.int .i64 k)).run P w = .ok () w := by
  unfold Instr.checkKey
  simp [run_underlying hK]

def fnd : List (Int × Value) → Int → Nat → Option (Nat × Value)
  | [], _, _ => none
  | (a, v) :: t, k, i => if k = a then some (i, v) else fnd t k (i + 1)

theorem findNow_int (k : Int) : ∀ (es : List MapEntry) (l : List (Int × Value)) (i : Nat), pairsOf es = ents l →
    Instr.findNow (.int .i64) (.int .i64 k) es i = some (fnd l k i) := by
  intro es
  induction es with
  | nil => intro l i h; cases l with
    | nil => rfl
    | cons p t => simp [pairsOf, ents] at h
  | cons e es ih => intro l i h; cases l with
    | nil => simp [pairsOf, ents] at h
    | cons p t =>
      obtain ⟨a, v⟩ := p
      simp only [pairsOf, ents, List.map_cons, List.cons.injEq, Prod.mk.injEq] at h
      obtain ⟨⟨hk, hv⟩, ht⟩ := h
      simp only [Instr.findNow, hk, Instr.sameNow, if_true, fnd]
      by_cases e1 : k = a
      · subst e1; simp [hv]
      · have : (k == a) = false := by simpa using e1
        simp only [this, if_neg e1]
        exact ih t (i + 1) ht

theorem run_findKey_int {P : Program} {w : World} {K : TypeId} (hK : P.underlying K = some (.int .i64)) (k : Int) (es : List MapEntry) (l : List (Int × Value)) (h : pairsOf es = ents l) :
    (Instr.findKey K (.int .i64 k) es).run P w = .ok (fnd l k 0) w := by
  unfold Instr.findKey
  simp [run_underlying hK, findNow_int k es l 0 h]

theorem fnd_look (k : Int) : ∀ (l : List (Int × Value)) (i : Nat), (fnd l k i).map (·.2) = look l k := by
  intro l
  induction l with
  | nil => intro i; rfl
  | cons p t ih => intro i; obtain ⟨a, v⟩ := p; by_cases h : k = a <;> simp [fnd, look, h, ih]

/-- m[k] where k is a key: its value. -/
theorem run_lookup_yes {P : Program} {w : World} {T K E : TypeId} {b : Nat} {l : List (Int × Value)} (hT : P.underlying T = some (.map K E)) (hK : P.underlying K = some (.int .i64))
    (h : IMap w b l) {k : Int} {v : Value} (hl : look l k = some v) :
    (Instr.lookup T (.map (some b)) (.int .i64 k) false).run P w = .ok v w ∧ (Instr.lookup T (.map (some b)) (.int .i64 k) true).run P w = .ok (.tuple #[v, .bool true]) w := by
  obtain ⟨es, clock, hb, hp, -, -⟩ := h.ex
  have hf := fnd_look k l 0
  rw [hl] at hf
  obtain ⟨⟨i, v'⟩, hx, hy⟩ := Option.map_eq_some_iff.1 hf
  simp only at hy; subst hy
  constructor <;>
  · unfold Instr.lookup
    simp [run_underlying hT, Go.MapKept.run_getObj_map hb, run_checkKey_int hK, run_findKey_int hK k es.toList l hp, hx]

/-- m[k] where k is no key: the zero value. -/
theorem run_lookup_no {P : Program} {w : World} {T K E : TypeId} {b : Nat} {l : List (Int × Value)} (hT : P.underlying T = some (.map K E)) (hK : P.underlying K = some (.int .i64))
    {z : Value} (hz : (zeroValue E).run P w = .ok z w) (h : IMap w b l) {k : Int} (hl : look l k = none) :
    (Instr.lookup T (.map (some b)) (.int .i64 k) false).run P w = .ok z w ∧ (Instr.lookup T (.map (some b)) (.int .i64 k) true).run P w = .ok (.tuple #[z, .bool false]) w := by
  obtain ⟨es, clock, hb, hp, -, -⟩ := h.ex
  have hf := fnd_look k l 0
  rw [hl] at hf
  have hx : fnd l k 0 = none := by simpa using hf
  constructor <;>
  · unfold Instr.lookup
    simp [run_underlying hT, Go.MapKept.run_getObj_map hb, run_checkKey_int hK, run_findKey_int hK k es.toList l hp, hx, hz]

theorem IMap.len {w : World} {b : Nat} {l : List (Int × Value)} (h : IMap w b l) : ∃ es clock, w.heap[b]? = some (.map es clock) ∧ es.size = l.length := by
  obtain ⟨es, clock, hb, hp, -, -⟩ := h.ex
  refine ⟨es, clock, hb, ?_⟩
  have := congrArg List.length hp
  simpa [pairsOf, ents] using this

/-- len(m). -/
theorem run_len_map {P : Program} {w : World} {T K E ty : TypeId} {b : Nat} {l : List (Int × Value)} (hT : P.underlying T = some (.map K E)) (h : IMap w b l) :
    (Builtin.len_ #[T] ty #[.map (some b)]).run P w = .ok (.int .i64 l.length) w := by
  obtain ⟨es, clock, hb, hn⟩ := h.len
  unfold Builtin.len_
  simp [run_underlying hT, Go.MapKept.run_getObj_map hb, hn, goInt]

theorem fnd_some (k : Int) : ∀ (l : List (Int × Value)) (i j : Nat) (v : Value), fnd l k i = some (j, v) → i ≤ j ∧ j - i < l.length ∧ l[j - i]? = some (k, v) ∧ ∀ (u : Value), put l k u = l.set (j - i) (k, u) ∧ del l k = l.eraseIdx (j - i) := by
  intro l
  induction l with
  | nil => intro i j v h; simp [fnd] at h
  | cons p t ih =>
    intro i j v h
    obtain ⟨a, x⟩ := p
    by_cases e : k = a
    · subst e
      simp [fnd] at h
      obtain ⟨rfl, rfl⟩ := h
      simp [put, del]
    · simp [fnd, e] at h
      obtain ⟨h1, h2, h3, h4⟩ := ih (i + 1) j v h
      have hj : j - i = (j - (i + 1)) + 1 := by omega
      refine ⟨by omega, by simp; omega, by rw [hj]; simpa using h3, fun u => ?_⟩
      rw [hj]
      simp [put, del, e, (h4 u).1, (h4 u).2]

theorem fnd_none (k : Int) : ∀ (l : List (Int × Value)) (i : Nat), fnd l k i = none → ∀ (u : Value), put l k u = l ++ [(k, u)] ∧ del l k = l := by
  intro l
  induction l with
  | nil => intro i h u; simp [put, del]
  | cons p t ih =>
    intro i h u
    obtain ⟨a, x⟩ := p
    by_cases e : k = a
    · simp [fnd, e] at h
    · simp [fnd, e] at h
      simp [put, del, e, ih (i + 1) h u]

theorem set_map_born (es : Array MapEntry) (i : Nat) (f : MapEntry → MapEntry) (hf : ∀ e, (f e).born = e.born) : (es.modify i f).toList.map (·.born) = es.toList.map (·.born) := by
  apply List.ext_getElem?
  intro j
  simp only [List.getElem?_map, Array.getElem?_toList, Array.getElem?_modify]
  split
  · cases es[j]? <;> simp [hf]
  · rfl

theorem pairwise_of_born {es es' : List MapEntry} (h : es'.map (·.born) = es.map (·.born)) (hp : es.Pairwise (fun x y => x.born < y.born)) : es'.Pairwise (fun x y => x.born < y.born) := by
  have h1 : (es.map (fun e : MapEntry => e.born)).Pairwise (fun a b => a < b) := List.pairwise_map.2 hp
  have h2 : (es'.map (fun e : MapEntry => e.born)).Pairwise (fun a b => a < b) := by rw [h]; exact h1
  exact List.pairwise_map.1 h2

theorem put_same {w : World} {b : Nat} {o : Obj} (o' : Obj) (h : w.heap[b]? = some o) : ({ w with heap := w.heap.setIfInBounds b o' } : World).heap[b]? = some o' := by
  simp [ltOf h]

theorem keeps_put {w : World} {b : Nat} (o : Obj) : Keeps [b] w { w with heap := w.heap.setIfInBounds b o } :=
  ⟨rfl, rfl, rfl, by simp, fun k _ hn => by
    have : b ≠ k := by intro e; subst e; simp at hn
    simp [Array.getElem?_setIfInBounds_ne this]⟩

/-- m[k] = v. -/
theorem run_update {P : Program} {w : World} {T K E : TypeId} {b : Nat} {l : List (Int × Value)} (hT : P.underlying T = some (.map K E)) (hK : P.underlying K = some (.int .i64))
    (h : IMap w b l) (k : Int) (v : Value) :
    ∃ w1, (Instr.mapUpdate T (.map (some b)) (.int .i64 k) v).run P w = .ok () w1 ∧ IMap w1 b (put l k v) ∧ Keeps [b] w w1 := by
  obtain ⟨es, clock, hb, hp, hw, hc⟩ := h.ex
  cases hx : fnd l k 0 with
  | some x =>
    obtain ⟨j, u⟩ := x
    obtain ⟨-, hj, hl, hput⟩ := fnd_some k l 0 j u hx
    simp only [Nat.sub_zero] at hj hl hput
    have hlen : es.size = l.length := by have := congrArg List.length hp; simpa [pairsOf, ents] using this
    have hje : j < es.size := by omega
    have hkey : (es[j]'hje).key = .int .i64 k := by
      have := congrArg (fun q : List (Value × Value) => (q[j]?).map (·.1)) hp
      simp [pairsOf, ents, hl, hje] at this
      exact this
    refine ⟨_, ?_, ?_, keeps_put (.map (es.modify j fun e => { e with key := .int .i64 k, val := v }) clock)⟩
    · unfold Instr.mapUpdate
      simp [run_underlying hT, Go.MapKept.run_getObj_map hb, run_checkKey_int hK, run_findKey_int hK k es.toList l hp, hx, hje, hkey, Instr.keyThatStays, Instr.sameBits, Go.MapKept.run_setObj_map _ hb]
    · refine ⟨_, _, put_same _ hb, ?_, ?_, ?_⟩
      · rw [(hput v).1]
        apply List.ext_getElem?
        intro i
        have hpi := congrArg (fun q : List (Value × Value) => q[i]?) hp
        simp only [pairsOf, ents, List.getElem?_map, Array.getElem?_toList, Array.getElem?_modify, List.getElem?_set] at hpi ⊢
        by_cases e : j = i
        · subst e
          rw [if_pos rfl, if_pos rfl, if_pos hj]
          simp [hje]
        · rw [if_neg e, if_neg e]; exact hpi
      · exact pairwise_of_born (set_map_born es j (fun e => { e with key := .int .i64 k, val := v }) (fun _ => rfl)) hw
      · intro e he
        have hb' := set_map_born es j (fun e => { e with key := .int .i64 k, val := v }) (fun _ => rfl)
        have : e.born ∈ es.toList.map (·.born) := by rw [← hb']; exact List.mem_map.2 ⟨e, he, rfl⟩
        obtain ⟨e', he', hbe⟩ := List.mem_map.1 this
        have := hc e' he'
        omega
  | none =>
    have hput := (fnd_none k l 0 hx v).1
    refine ⟨_, ?_, ?_, keeps_put (.map (es.push { key := .int .i64 k, val := v, born := clock }) (clock + 1))⟩
    · unfold Instr.mapUpdate
      simp [run_underlying hT, Go.MapKept.run_getObj_map hb, run_checkKey_int hK, run_findKey_int hK k es.toList l hp, hx, Go.MapKept.run_setObj_map _ hb]
    · refine ⟨_, _, put_same _ hb, ?_, ?_, ?_⟩
      · rw [hput]
        simp only [pairsOf, ents] at hp ⊢
        simp [hp]
      · simp only [Array.toList_push, List.pairwise_append]
        exact ⟨hw, by simp, fun x hx y hy => by simp at hy; subst hy; exact hc x hx⟩
      · intro e he
        simp at he
        rcases he with he | rfl
        · have := hc e (by simpa using he); omega
        · simp

theorem eraseIdx_map' {α β : Type} (f : α → β) : ∀ (l : List α) (j : Nat), (l.eraseIdx j).map f = (l.map f).eraseIdx j
  | [], _ => rfl
  | _ :: _, 0 => rfl
  | a :: t, j + 1 => by simp [eraseIdx_map' f t j]

/-- delete(m, k). -/
theorem run_delete {P : Program} {w : World} {T K E ty : TypeId} {b : Nat} {l : List (Int × Value)} (hT : P.underlying T = some (.map K E)) (hK : P.underlying K = some (.int .i64))
    (h : IMap w b l) (k : Int) {ts : Array TypeId} (hts : ts[0]? = some T) :
    ∃ w1, (Builtin.delete_ ts ty #[.map (some b), .int .i64 k]).run P w = .ok (.tuple #[]) w1 ∧ IMap w1 b (del l k) ∧ Keeps [b] w w1 := by
  obtain ⟨es, clock, hb, hp, hw, hc⟩ := h.ex
  cases hx : fnd l k 0 with
  | some x =>
    obtain ⟨j, u⟩ := x
    obtain ⟨-, hj, hl, hput⟩ := fnd_some k l 0 j u hx
    simp only [Nat.sub_zero] at hj hl hput
    have hlen : es.size = l.length := by have := congrArg List.length hp; simpa [pairsOf, ents] using this
    have hje : j < es.size := by omega
    have het : (es.eraseIdxIfInBounds j).toList = es.toList.eraseIdx j := by
      simp [Array.eraseIdxIfInBounds, hje]
    refine ⟨_, ?_, ?_, keeps_put (.map (es.eraseIdxIfInBounds j) clock)⟩
    · unfold Builtin.delete_
      simp [hts, run_underlying hT, Go.MapKept.run_getObj_map hb, run_checkKey_int hK, run_findKey_int hK k es.toList l hp, hx, Go.MapKept.run_setObj_map _ hb]
    · refine ⟨_, _, put_same _ hb, ?_, ?_, ?_⟩
      · rw [(hput u).2, het]
        simp only [pairsOf, ents] at hp ⊢
        rw [eraseIdx_map', hp, ← eraseIdx_map']
      · rw [het]; exact hw.sublist (List.eraseIdx_sublist _ _)
      · intro e he
        rw [het] at he
        exact hc e ((List.eraseIdx_sublist _ _).subset he)
  | none =>
    refine ⟨_, ?_, ?_, keeps_put (.map es clock)⟩
    · unfold Builtin.delete_
      simp [hts, run_underlying hT, Go.MapKept.run_getObj_map hb, run_checkKey_int hK, run_findKey_int hK k es.toList l hp, hx, Go.MapKept.run_setObj_map _ hb]
    · rw [(fnd_none k l 0 hx (.bool true)).2]
      exact ⟨_, _, put_same _ hb, hp, hw, hc⟩

/-! ### Structs in blocks -/
/-- A type of n cells that is a struct. -/
structure Agg (P : Program) (T : TypeId) (n : Nat) : Prop where
  agg : ∀ w, (isAgg T).run P w = .ok true w
  size : ∀ w, (sizeOf T).run P w = .ok n w

theorem run_load_at {P : Program} {w : World} {b i : Nat} {v : Value} (h : w.cell? ⟨b, i, none⟩ = some v) : (load ⟨b, i, none⟩).run P w = .ok v w := by
  simp [load, Sem.run, h]

theorem run_loadCellsFrom_blk {P : Program} {w : World} {b : Nat} {cs : Array Value} {T : TypeId} {z : Nat × Nat} (h : w.heap[b]? = some (.cells cs T z)) :
    ∀ (n i : Nat) (acc : Array Value), i + n = cs.size → (loadCellsFrom ⟨b, 0, none⟩ i n acc).run P w = .ok (acc ++ (cs.toList.drop i).toArray) w := by
  intro n
  induction n with
  | zero =>
    intro i acc hi
    have : cs.toList.drop i = [] := by simp; omega
    simp [loadCellsFrom, this]
  | succ n ih =>
    intro i acc hi
    have hlt : i < cs.size := by omega
    have hc : w.cell? ((⟨b, 0, none⟩ : Addr).add i) = some cs[i] := by
      by_cases h0 : i = 0
      · subst h0
        simp [Addr.add, World.cell?, h, hlt]
      · simp [Addr.add, h0, World.cell?, h, hlt]
    have hd : cs.toList.drop i = cs[i] :: cs.toList.drop (i + 1) := by
      rw [List.drop_eq_getElem_cons (by simpa using hlt)]; simp
    unfold loadCellsFrom
    simp only [Sem.run_bind]
    have hl : (load ((⟨b, 0, none⟩ : Addr).add i)).run P w = .ok cs[i] w := by simp [load, Sem.run, hc]
    rw [hl]
    simp only [Result.andThen_ok]
    rw [ih (i + 1) (acc.push cs[i]) (by omega), hd]
    congr 1
    rw [← Array.toList_inj]
    simp

theorem loadVar_blk {P : Program} {w : World} {b n : Nat} {cs : Array Value} {T T0 : TypeId} {z : Nat × Nat} (hA : Agg P T n) (hn : cs.size = n) (h : w.heap[b]? = some (.cells cs T0 z)) :
    (loadVar T ⟨b, 0, none⟩).run P w = .ok (.agg cs) w := by
  unfold loadVar
  simp only [Sem.run_bind, hA.agg, Result.andThen_ok, if_true, hA.size, loadCells]
  rw [run_loadCellsFrom_blk h n 0 #[] (by omega)]
  simp

/-- The results of a function whose first one is a struct. -/
theorem res_c {fn : Func} {p : Tmp} {ty : TypeId} (h : fn.results = #[.cell p ty]) {tmps : Array Value} {P : Program} {w : World} {b n : Nat} {cs : Array Value} {T0 : TypeId} {z : Nat × Nat}
    (hA : Agg P ty n) (hp : tmps.getD p undef = .pointer (some ⟨b, 0, none⟩)) (hn : cs.size = n) (hb : w.heap[b]? = some (.cells cs T0 z)) :
    (results fn tmps).run P w = .ok (.agg cs) w := by
  have hl := loadVar_blk (P := P) hA hn hb
  have hp' : tmps[p]?.getD undef = .pointer (some ⟨b, 0, none⟩) := by simpa using hp
  simp only [results, h]
  simp [hp', asAddr, hl]
theorem res_ct {fn : Func} {p u : Tmp} {ty : TypeId} (h : fn.results = #[.cell p ty, .tmp u]) {tmps : Array Value} {P : Program} {w : World} {b n : Nat} {cs : Array Value} {T0 : TypeId} {z : Nat × Nat} {x : Value}
    (hA : Agg P ty n) (hp : tmps.getD p undef = .pointer (some ⟨b, 0, none⟩)) (hu : tmps.getD u undef = x) (hn : cs.size = n) (hb : w.heap[b]? = some (.cells cs T0 z)) :
    (results fn tmps).run P w = .ok (.tuple #[.agg cs, x]) w := by
  have hl := loadVar_blk (P := P) hA hn hb
  have hp' : tmps[p]?.getD undef = .pointer (some ⟨b, 0, none⟩) := by simpa using hp
  subst hu
  simp only [results, h]
  simp [hp', asAddr, hl]
theorem res_ctt {fn : Func} {p u v : Tmp} {ty : TypeId} (h : fn.results = #[.cell p ty, .tmp u, .tmp v]) {tmps : Array Value} {P : Program} {w : World} {b n : Nat} {cs : Array Value} {T0 : TypeId} {z : Nat × Nat} {x y : Value}
    (hA : Agg P ty n) (hp : tmps.getD p undef = .pointer (some ⟨b, 0, none⟩)) (hu : tmps.getD u undef = x) (hv : tmps.getD v undef = y) (hn : cs.size = n) (hb : w.heap[b]? = some (.cells cs T0 z)) :
    (results fn tmps).run P w = .ok (.tuple #[.agg cs, x, y]) w := by
  have hl := loadVar_blk (P := P) hA hn hb
  have hp' : tmps[p]?.getD undef = .pointer (some ⟨b, 0, none⟩) := by simpa using hp
  subst hu; subst hv
  simp only [results, h]
  simp [hp', asAddr, hl]

theorem res_cct {fn : Func} {p q u : Tmp} {ty ty2 : TypeId} (h : fn.results = #[.cell p ty, .cell q ty2, .tmp u]) {tmps : Array Value} {P : Program} {w : World} {b b2 n n2 : Nat} {cs cs2 : Array Value} {T0 T2 : TypeId} {z z2 : Nat × Nat} {x : Value}
    (hA : Agg P ty n) (hA2 : Agg P ty2 n2) (hp : tmps.getD p undef = .pointer (some ⟨b, 0, none⟩)) (hq : tmps.getD q undef = .pointer (some ⟨b2, 0, none⟩)) (hu : tmps.getD u undef = x) (hn : cs.size = n) (hn2 : cs2.size = n2)
    (hb : w.heap[b]? = some (.cells cs T0 z)) (hb2 : w.heap[b2]? = some (.cells cs2 T2 z2)) :
    (results fn tmps).run P w = .ok (.tuple #[.agg cs, .agg cs2, x]) w := by
  have hl := loadVar_blk (P := P) hA hn hb
  have hl2 := loadVar_blk (P := P) hA2 hn2 hb2
  have hp' : tmps[p]?.getD undef = .pointer (some ⟨b, 0, none⟩) := by simpa using hp
  have hq' : tmps[q]?.getD undef = .pointer (some ⟨b2, 0, none⟩) := by simpa using hq
  subst hu
  simp only [results, h]
  simp [hp', hq', asAddr, hl, hl2]

theorem blk_setCell {w : World} {b : Nat} {cs : Array Value} {T : TypeId} {z : Nat × Nat} (h : w.heap[b]? = some (.cells cs T z)) (i : Nat) (v : Value) :
    (w.setCell ⟨b, i, none⟩ v).heap[b]? = some (.cells (cs.setIfInBounds i v) T z) := by
  simp [World.setCell, Array.getElem?_modify, h]
theorem stored7 {w : World} {b : Nat} {T : TypeId} {z : Nat × Nat} {a0 a1 a2 a3 a4 a5 a6 v0 v1 v2 v3 v4 v5 v6 : Value} (h : w.heap[b]? = some (.cells #[a0, a1, a2, a3, a4, a5, a6] T z)) :
    (((((((w.setCell ⟨b, 0, none⟩ v0).setCell ⟨b, 1, none⟩ v1).setCell ⟨b, 2, none⟩ v2).setCell ⟨b, 3, none⟩ v3).setCell ⟨b, 4, none⟩ v4).setCell ⟨b, 5, none⟩ v5).setCell ⟨b, 6, none⟩ v6).heap[b]? = some (.cells #[v0, v1, v2, v3, v4, v5, v6] T z) := by
  have := (blk_setCell (blk_setCell (blk_setCell (blk_setCell (blk_setCell (blk_setCell (blk_setCell h 0 v0) 1 v1) 2 v2) 3 v3) 4 v4) 5 v5) 6 v6)
  simpa using this
theorem Keeps.store7 {l : List Nat} {w0 w : World} {b : Nat} {v0 v1 v2 v3 v4 v5 v6 : Value} (h : Keeps l w0 w) (hb : b < w0.heap.size → b ∈ l) : Keeps l w0 (((((((w.setCell ⟨b, 0, none⟩ v0).setCell ⟨b, 1, none⟩ v1).setCell ⟨b, 2, none⟩ v2).setCell ⟨b, 3, none⟩ v3).setCell ⟨b, 4, none⟩ v4).setCell ⟨b, 5, none⟩ v5).setCell ⟨b, 6, none⟩ v6) :=
  ((((((h.setCell hb _).setCell hb _).setCell hb _).setCell hb _).setCell hb _).setCell hb _).setCell hb _
theorem stored9 {w : World} {b : Nat} {T : TypeId} {z : Nat × Nat} {a0 a1 a2 a3 a4 a5 a6 a7 a8 v0 v1 v2 v3 v4 v5 v6 v7 v8 : Value} (h : w.heap[b]? = some (.cells #[a0, a1, a2, a3, a4, a5, a6, a7, a8] T z)) :
    (((((((((w.setCell ⟨b, 0, none⟩ v0).setCell ⟨b, 1, none⟩ v1).setCell ⟨b, 2, none⟩ v2).setCell ⟨b, 3, none⟩ v3).setCell ⟨b, 4, none⟩ v4).setCell ⟨b, 5, none⟩ v5).setCell ⟨b, 6, none⟩ v6).setCell ⟨b, 7, none⟩ v7).setCell ⟨b, 8, none⟩ v8).heap[b]? = some (.cells #[v0, v1, v2, v3, v4, v5, v6, v7, v8] T z) := by
  have := (blk_setCell (blk_setCell (blk_setCell (blk_setCell (blk_setCell (blk_setCell (blk_setCell (blk_setCell (blk_setCell h 0 v0) 1 v1) 2 v2) 3 v3) 4 v4) 5 v5) 6 v6) 7 v7) 8 v8)
  simpa using this
theorem Keeps.store9 {l : List Nat} {w0 w : World} {b : Nat} {v0 v1 v2 v3 v4 v5 v6 v7 v8 : Value} (h : Keeps l w0 w) (hb : b < w0.heap.size → b ∈ l) : Keeps l w0 (((((((((w.setCell ⟨b, 0, none⟩ v0).setCell ⟨b, 1, none⟩ v1).setCell ⟨b, 2, none⟩ v2).setCell ⟨b, 3, none⟩ v3).setCell ⟨b, 4, none⟩ v4).setCell ⟨b, 5, none⟩ v5).setCell ⟨b, 6, none⟩ v6).setCell ⟨b, 7, none⟩ v7).setCell ⟨b, 8, none⟩ v8) :=
  ((((((((h.setCell hb _).setCell hb _).setCell hb _).setCell hb _).setCell hb _).setCell hb _).setCell hb _).setCell hb _).setCell hb _

end Go.Proofs.YthjghcfnopancaaGreat

/-
  What the functions of package table do: contracts.
-/
namespace Go.Proofs.YthjghcfnopancaaGreat
open Go.RowKit

/-- What a table's map holds. -/
def tmap (l : List (Int × Int)) : List (Int × Value) := l.map fun p => (p.1, .agg #[.int .i64 p.2])
/-- A table: how many may be live, the last number, each number's cause. -/
structure TblAt (w : World) (t mb : Nat) (most last : Int) (l : List (Int × Int)) : Prop where
  blk : w.heap[t]? = some (.cells #[.int .i64 most, .int .i64 last, .map (some mb)] 80 (0, 0))
  map : IMap w mb (tmap l)

theorem zero_entry (w : World) : (zeroValue 97).run Tryz.prog w = .ok (.agg #[.int .i64 0]) w := by kernel_rfl

set_option maxHeartbeats 400000 in
theorem tnone_made (t : Nat) (most : Int) (w : World) (hc : w.cell? ⟨t, 0, none⟩ = some (.int .i64 most)) (h0 : (most == 0) = false) :
    Calls Tryz.prog 60 #[.pointer (some ⟨t, 0, none⟩)] w fun e w' => e = .returned (.bool false) ∧ w = w' := by
  go_enter Tryz.func60, Tryz.ntmps60
  go_wp2
  go_ret
  simp


theorem look_tmap (id : Int) : ∀ l : List (Int × Int), look (tmap l) id = (l.find? (fun p => p.1 == id)).map (fun p => .agg #[.int .i64 p.2]) := by
  intro l
  induction l with
  | nil => rfl
  | cons p t ih =>
    obtain ⟨a, c⟩ := p
    by_cases e : id = a
    · subst e; simp [tmap, look]
    · have e' : ¬ a = id := fun h => e h.symm
      have e2 : (a == id) = false := by simpa using e'
      simp only [tmap] at ih
      simp [tmap, look, e, e2, ih]

/-- What Cause answers. -/
def causeOf (l : List (Int × Int)) (id : Int) : Int × Int := match l.find? (fun p => p.1 == id) with | some p => (p.2, 0) | none => (0, 18)

set_option maxHeartbeats 400000 in
theorem cause_any {t mb : Nat} {most last : Int} {l : List (Int × Int)} {w : World} (h : TblAt w t mb most last l) (h1 : 1 ≤ most) (id : Int) :
    Calls Tryz.prog 40 #[.pointer (some ⟨t, 0, none⟩), .int .i64 id] w fun e w' => e = .returned (.tuple #[.int .i64 (causeOf l id).1, .int .i64 (causeOf l id).2]) ∧ Keeps [] w w' := by
  have c0 : w.cell? ⟨t, 0, none⟩ = some (.int .i64 most) := cellOf h.blk 0 rfl
  have c2 : w.cell? ⟨t, 2, none⟩ = some (.map (some mb)) := cellOf h.blk 2 rfl
  have hm := h.map
  have h0 : (most == 0) = false := by simp; omega
  have ht := look_tmap id l
  cases hl : l.find? (fun p => p.1 == id) with
  | none =>
    rw [hl] at ht
    have hr := (run_lookup_no (P := Tryz.prog) Tryz.underlying78 Tryz.underlying3 (zero_entry w) hm ht).2
    have hc : causeOf l id = (0, 18) := by simp [causeOf, hl]
    rw [hc]
    clear ht hl hc h
    go_enter Tryz.func40, Tryz.ntmps40
    go_wp2_with (go_at_call 60; refine (tnone_made _ most _ c0 h0).mono ?_; rintro e w' ⟨rfl, rfl⟩)
    go_ret2
    exact ⟨rfl, (by repeat (first | exact Keeps.refl _ _ | assumption | refine Keeps.drew ?_ | refine Keeps.drewN ?_ _ | refine Keeps.alloc ?_ _ | refine Keeps.setCell ?_ (by simp <;> omega) _ | refine Keeps.trans ?_ (by assumption)))⟩
  | some v =>
    rw [hl] at ht
    have hr := (run_lookup_yes (P := Tryz.prog) Tryz.underlying78 Tryz.underlying3 hm ht).2
    have hc : causeOf l id = (v.2, 0) := by simp [causeOf, hl]
    rw [hc]
    clear ht hl hc h
    go_enter Tryz.func40, Tryz.ntmps40
    go_wp2_with (go_at_call 60; refine (tnone_made _ most _ c0 h0).mono ?_; rintro e w' ⟨rfl, rfl⟩)
    go_ret2
    exact ⟨rfl, (by repeat (first | exact Keeps.refl _ _ | assumption | refine Keeps.drew ?_ | refine Keeps.drewN ?_ _ | refine Keeps.alloc ?_ _ | refine Keeps.setCell ?_ (by simp <;> omega) _ | refine Keeps.trans ?_ (by assumption)))⟩

set_option maxHeartbeats 400000 in
theorem tnew_no (most : Int) (w : World) (h : most < 1 ∨ 64 < most) :
    Calls Tryz.prog 17 #[.int .i64 most] w fun e w' => e = .returned (.tuple #[.pointer none, .int .i64 3]) ∧ w = w' := by
  by_cases h1 : most < 1
  all_goals
    go_enter Tryz.func17, Tryz.ntmps17
    go_wp2
    go_ret2
    exact ⟨rfl, rfl⟩

set_option maxHeartbeats 400000 in
theorem tnew_yes (most : Int) (w : World) (h1 : 1 ≤ most) (h2 : most ≤ 64) :
    Calls Tryz.prog 17 #[.int .i64 most] w fun e w' => ∃ t mb, e = .returned (.tuple #[.pointer (some ⟨t, 0, none⟩), .int .i64 0]) ∧ Keeps [] w w' ∧ w.heap.size ≤ t ∧ w.heap.size ≤ mb ∧ TblAt w' t mb most 0 [] := by
  have hmm := @run_makeMap Tryz.prog
  go_enter Tryz.func17, Tryz.ntmps17
  go_wp2
  go_ret2
  refine ⟨_, _, rfl, (by repeat (first | exact Keeps.refl _ _ | assumption | refine Keeps.drew ?_ | refine Keeps.drewN ?_ _ | refine Keeps.alloc ?_ _ | refine Keeps.setCell ?_ (by simp <;> omega) _ | refine Keeps.trans ?_ (by assumption))), ?_, ?_, ⟨heap_new_at _ (by simp), (IMap.made w).alloc _⟩⟩ <;> simp

/-- What End makes of a number's cause. -/
def ended (l : List (Int × Int)) (id c : Int) : List (Int × Int) := l.map fun p => if p.1 = id then (id, c) else p

theorem put_ended (id c : Int) : ∀ (l : List (Int × Int)), (l.map (·.1)).Nodup → (∃ p ∈ l, p.1 = id) → put (tmap l) id (.agg #[.int .i64 c]) = tmap (ended l id c) := by
  intro l
  induction l with
  | nil => intro _ h; simp at h
  | cons p t ih =>
    intro hn h
    obtain ⟨a, x⟩ := p
    simp only [List.map_cons, List.nodup_cons] at hn
    by_cases e : id = a
    · subst e
      have : t.map (fun p : Int × Int => if p.1 = id then (id, c) else p) = t := by
        refine (List.map_congr_left fun p hp => ?_).trans (List.map_id t)
        have : p.1 ≠ id := fun e => hn.1 (List.mem_map.2 ⟨p, hp, e⟩)
        simp [this]
      simp [tmap, put, ended, this]
    · have e' : ¬ a = id := fun h => e h.symm
      have := ih hn.2 (by obtain ⟨p, hp, hq⟩ := h; simp at hp; rcases hp with rfl | hp; exact absurd hq e'; exact ⟨p, hp, hq⟩)
      simp only [tmap, ended] at this
      simp [tmap, put, ended, e, e', this]

set_option maxHeartbeats 800000 in
theorem tend_live {t mb : Nat} {most last : Int} {l : List (Int × Int)} {w : World} (h : TblAt w t mb most last l) (h1 : 1 ≤ most) (hn : (l.map (·.1)).Nodup) (id c : Int) (hc : c ≠ 0) (hl : (id, 0) ∈ l) :
    Calls Tryz.prog 62 #[.pointer (some ⟨t, 0, none⟩), .int .i64 id, .int .i64 c] w fun e w' => e = .returned (.int .i64 0) ∧ Keeps [mb] w w' ∧ TblAt w' t mb most last (ended l id c) := by
  have c0 : w.cell? ⟨t, 0, none⟩ = some (.int .i64 most) := cellOf h.blk 0 rfl
  have h0 : (most == 0) = false := by simp; omega
  have hcz : (c == 0) = false := by simpa using hc
  have hf : causeOf l id = (0, 0) := by
    cases hq : l.find? (fun p => p.1 == id) with
    | none => have := List.find?_eq_none.1 hq _ hl; simp at this
    | some q =>
      have hq1 := List.mem_of_find?_eq_some hq
      have hq2 : q.1 = id := by simpa using List.find?_some hq
      have : q = (id, 0) := by
        exact nodup_fst hn hq1 hl (by simpa using hq2)
      simp [causeOf, hq, this]
  have hne : mb ≠ t := by
    obtain ⟨es, clock, hb, -⟩ := h.map.ex
    intro e; subst e; rw [h.blk] at hb; cases hb
  have hC := cause_any h h1 id
  rw [hf] at hC
  have hH := Lib.hid h
  go_enter Tryz.func62, Tryz.ntmps62
  go_wp2_with (first
    | (go_at_call 60; refine (tnone_made _ most _ c0 h0).mono ?_; rintro e w' ⟨rfl, rfl⟩)
    | (go_at_call 40; refine hC.mono ?_; clear hC; rintro e w1 ⟨rfl, hk⟩
       have h' : TblAt w1 t mb most last l := ⟨hk.blk hH.out.blk (by simp), hH.out.map.keep hk (by simp)⟩
       have c2 : w1.cell? ⟨t, 2, none⟩ = some (.map (some mb)) := cellOf h'.blk 2 rfl
       obtain ⟨w2, hr, hM, hk2⟩ := run_update (P := Tryz.prog) Tryz.underlying78 Tryz.underlying3 h'.map id (.agg #[.int .i64 c])))
  go_ret
  have hp := put_ended id c l hn ⟨_, hl, rfl⟩
  rw [hp] at hM
  exact ⟨rfl, (hk.mono (by simp)).trans hk2, ⟨hk2.blk h'.blk (by simp; exact fun e => hne e.symm), hM⟩⟩

end Go.Proofs.YthjghcfnopancaaGreat

/-
  Words for a range over a function: what a round keeps (KeepsR), and the keys of a map sorted. 
-/
namespace Go.Proofs.YthjghcfnopancaaGreat
open Go.RowKit Go.Shelf Go.Maps

/-- What a round keeps: every block of cells, and all that lay below base, but the blocks of the list. -/
structure KeepsR (base : Nat) (lst : List Nat) (W W' : World) : Prop where
  os : W'.os = W.os
  tape : W'.tape = W.tape
  output : W'.output = W.output
  size : W.heap.size ≤ W'.heap.size
  block : ∀ k o, W.heap[k]? = some o → k ∉ lst → (k < base ∨ o.isCells = true) → W'.heap[k]? = some o

namespace KeepsR
theorem trans {base : Nat} {lst : List Nat} {a b c : World} (h : KeepsR base lst a b) (k : KeepsR base lst b c) : KeepsR base lst a c :=
  ⟨k.os.trans h.os, k.tape.trans h.tape, k.output.trans h.output, Nat.le_trans h.size k.size, fun i o hi hl hb => k.block i o (h.block i o hi hl hb) hl hb⟩
theorem of_keeps {base : Nat} {lst : List Nat} {a b : World} (h : Keeps lst a b) : KeepsR base lst a b :=
  ⟨h.os, h.tape, h.output, h.size, fun _ _ hi hl _ => h.blk hi hl⟩
theorem putObj {base : Nat} {lst : List Nat} (W : World) (l : Nat) (o o' : Obj) (hB : base ≤ l) (hl : W.heap[l]? = some o) (ho : o.isCells = false) : KeepsR base lst W (W.putObj l o') :=
  ⟨rfl, rfl, rfl, by simp [World.putObj], fun k x hk _ hb => by
    have : k ≠ l := by
      rintro rfl
      rw [hl] at hk; cases hk
      rcases hb with hb | hb
      · omega
      · rw [ho] at hb; cases hb
    rw [World.putObj_heap_other this]; exact hk⟩
theorem imap {base : Nat} {lst : List Nat} {a b : World} (h : KeepsR base lst a b) {m : Nat} {l : List (Int × Value)} (hm : IMap a m l) (hl : m ∉ lst) (hb : m < base) : IMap b m l := by
  obtain ⟨es, clock, he, r⟩ := hm.ex
  exact ⟨es, clock, h.block m _ he hl (.inl hb), r⟩
theorem cells {base : Nat} {lst : List Nat} {a b : World} (h : KeepsR base lst a b) {m : Nat} {cs : Array Value} {T : TypeId} {z : Nat × Nat} (hm : a.heap[m]? = some (.cells cs T z)) (hl : m ∉ lst) : b.heap[m]? = some (.cells cs T z) :=
  h.block m _ hm hl (.inr rfl)
end KeepsR

theorem grownBy_of_below {W W' : World} (h : Below W.heap.size W W') : W.grownBy W' none := ⟨h.os, h.tape, h.output, h.size, fun k hk _ => h.block k hk⟩

/-- A map from ints as the library's words have it, whatever its values are. -/
theorem own_of_imap {H : Type} {P : Program} {K : TypeId} (hK : P.underlying K = some (.int .i64)) {w : World} {b : Nat} {l : List (Int × Value)} (h : IMap w b l)
    (hnd : (l.map (·.1)).Nodup) (hwf : ∀ p ∈ l, (Lit.int .i64 p.1).wf = true) (hlen : l.length ≤ maxLen) :
    ∃ D0 : DataW H, w.ownsMap P K (fun _ => some (.nil, [])) b l.length D0 ∧ (Go.intKeys D0).Perm (l.map (·.1)) ∧ Maps.size D0 = l.length := by
  obtain ⟨es, clock, hb, hp, hw, hc⟩ := h.ex
  have hsz : es.size = l.length := by have := congrArg List.length hp; simpa [pairsOf, ents] using this
  have hkeys : es.toList.map (·.key) = l.map (fun p => Value.int .i64 p.1) := by
    have := congrArg (List.map Prod.fst) hp
    simp only [pairsOf, ents, List.map_map] at this
    exact this
  have hrd : ∀ x ∈ es.toList, ∃ a : Int, x.key = .int .i64 a ∧ (Lit.int .i64 a).wf = true := by
    intro x hx
    have : x.key ∈ es.toList.map (·.key) := List.mem_map.2 ⟨x, hx, rfl⟩
    rw [hkeys] at this
    obtain ⟨p, hp1, hp2⟩ := List.mem_map.1 this
    exact ⟨p.1, hp2.symm, hwf p hp1⟩
  have hrd2 : ∀ x ∈ es.toList, ∀ a : Int, x.key = .int .i64 a → (Lit.int .i64 a).wf = true → Go.WideElems.rd (H := H) P K (fun _ => some (.nil, [])) x = some (.int .i64 a, .nil) := by
    intro x hx a h1 h2
    simp [Go.WideElems.rd, h1, Maps.keyOf_int_mk hK h2]
  refine ⟨_, ⟨es, clock, hb, ⟨by omega, ⟨hc, ?_, ?_⟩, ?_⟩, by omega, rfl⟩, ?_, ?_⟩
  · exact (List.pairwise_map.2 hw).imp (fun h => Nat.ne_of_lt h)
  · rw [hkeys]
    have : (l.map (fun p => Value.int .i64 p.1)) = (l.map (·.1)).map (fun a => Value.int .i64 a) := by simp
    rw [this]
    exact List.pairwise_map.2 (hnd.imp (fun h e => h (by simpa using e)))
  · intro x hx
    obtain ⟨a, h1, h2⟩ := hrd x hx
    exact ⟨_, hrd2 x hx a h1 h2⟩
  · refine ((Go.WideShapes.sorted_perm _).map _).trans ?_
    have : (es.toList.map (Go.WideElems.rg (H := H) P K (fun _ => some (.nil, [])))).map (fun p => Go.intOf p.1) = l.map (·.1) := by
      have h2 : l.map (·.1) = (es.toList.map (·.key)).map (fun v => match v with | .int _ a => a | _ => 0) := by rw [hkeys]; simp
      rw [h2]
      simp only [List.map_map]
      refine List.map_congr_left fun x hx => ?_
      obtain ⟨a, h1, h2⟩ := hrd x hx
      simp [Go.WideElems.rg, hrd2 x hx a h1 h2, Go.intOf, h1]
    rw [this]
  · simp [Maps.size, (Go.WideShapes.sorted_perm _).length_eq, hsz]

/-- A row that is not empty: where it lies. -/
theorem ownsRow_at {w : World} {base : Nat} {e : TypeId} {v : Value} {n : Nat} {xs : List Value} (h : w.ownsRow base e 1 v n xs) (hn : 0 < n) :
    ∃ g cap cur, v = .slice (some ⟨g, 0, none⟩) n cap ∧ base ≤ g ∧ w.heap[g]? = some (.cells cur e (0, 0)) ∧ n ≤ cap ∧ cap ≤ maxLen ∧ ∀ (i : Nat) (x : Value), xs[i]? = some x → cur[i]? = some x := by
  obtain ⟨hl, ⟨-, h0⟩ | ⟨g, cap, cur, hv, hb, hg, h1, h2, h3, h4⟩⟩ := h
  · omega
  · refine ⟨g, cap, cur, hv, hb, hg, h1, h2, fun i x hx => ?_⟩
    rw [← h4] at hx
    rw [List.getElem?_take] at hx
    split at hx
    · simpa using hx
    · cases hx

/-- append onto a row of one's own: the row grows in its block, or goes to a new one. -/
theorem run_append2 {P : Program} (w : World) (base : Nat) (t ty e : TypeId) (i : TypeInfo) (z : Value) (size bytes : Nat) (ht : P.underlying t = some (.slice e)) (hi : P.info? e = some i) (hz : i.zero = some z)
    (hsize : i.size = size) (hby : i.bytes = bytes) (hzs : z.cells.size = size) (hsz : 0 < size)
    (v : Value) (n : Nat) (xs : List Value) (hown : w.ownsRow base e size v n xs)
    (a : Addr) (m c : Nat) (news : List Value) (hl : news.length = m * size) (hnews : ∀ j u, news[j]? = some u → w.cell? (a.add j) = some u) (h1 : ∀ u ∈ news, u.oneCell' = true)
    (h63 : n + m ≤ maxLen) (hbytes : (n + m) * bytes ≤ 140737488355328) (hbase : base ≤ w.heap.size) :
    ∃ v' w', (Builtin.append_ #[t, t] ty #[v, .slice (some a) m c]).run P w = .ok v' w' ∧ w'.ownsRow base e size v' (n + m) (xs ++ news) ∧ w.grownBy w' v.ownBlock ∧
      (v' = .slice none 0 0 ↔ v = .slice none 0 0 ∧ m = 0) ∧ ∀ g, v'.ownBlock = some g → v.ownBlock = some g ∨ w.heap.size ≤ g := by
  obtain ⟨v', w', hr, h2, h3, h4⟩ := run_append_own (P := P) w base t ty e i z size bytes ht hi hz hsize hby hzs hsz v n xs hown a m c news hl hnews h1 h63 hbytes hbase
  refine ⟨v', w', hr, h2, h3, h4, fun g hg => ?_⟩
  obtain ⟨hxl, ⟨rfl, rfl⟩ | ⟨g0, cap, cur, rfl, hbg, hgb, hnc, hcm, hcs, htake⟩⟩ := id hown
  · obtain ⟨v2, w2, hr2, k2, -, -⟩ := run_append_own (P := P) w w.heap.size t ty e i z size bytes ht hi hz hsize hby hzs hsz _ 0 xs ⟨hxl, .inl ⟨rfl, rfl⟩⟩ a m c news hl hnews h1 h63 hbytes (Nat.le_refl _)
    rw [hr] at hr2
    obtain ⟨rfl, rfl⟩ : v' = v2 ∧ w' = w2 := by injection hr2 with e1 e2; exact ⟨e1, e2⟩
    exact .inr (k2.lt g hg).1
  · by_cases hroom : n + m ≤ cap
    · subst hsize
      have hr2 := run_append_room (P := P) w t ty e i ht hi g0 n cap cur hgb a m c news hl hnews h1 hroom (by rw [hl, hcs, ← Nat.add_mul]; exact Nat.mul_le_mul_right _ hroom)
      rw [hr] at hr2
      obtain ⟨rfl, -⟩ : v' = _ ∧ w' = _ := by injection hr2 with e1 e2; exact ⟨e1, e2⟩
      exact .inl hg
    · subst hsize; subst hby
      have holds : ∀ j u, xs[j]? = some u → w.cell? ((⟨g0, 0, none⟩ : Addr).add j) = some u := hown.cells (g := g0) rfl
      have hr2 := run_append_grow (P := P) w t ty e i z ht hi hz ⟨g0, 0, none⟩ n cap xs hown.1 holds a m c news hl hnews (by omega) (by simp only [maxLen] at h63; omega) (growslice_fits (by omega) hbytes)
      rw [hr] at hr2
      obtain ⟨rfl, -⟩ : v' = _ ∧ w' = _ := by injection hr2 with e1 e2; exact ⟨e1, e2⟩
      simp only [Value.ownBlock, Option.some.injEq] at hg
      exact .inr (Nat.le_of_eq hg)

theorem wpListIn_append2 {F : Fence} {n : Nat} {P : Program} (w : World) {ops : Array Oper} {rest : List Oper} {o : Oper} {a : Act} {Q : Exit → Act → World → Prop}
    (hg : o.guard = none) (s x : Operand) (t : TypeId) (hop : o.op = Op.call { callee := Callee.builtin Builtin.append, args := #[s, x], argTypes := #[t, t] })
    (base : Nat) (e : TypeId) (i : TypeInfo) (z : Value) (size bytes : Nat) (h1 : P.underlying t = some (.slice e)) (h2 : P.info? e = some i) (h3 : i.zero = some z) (h4 : i.size = size) (h5 : i.bytes = bytes) (h6 : z.cells.size = size) (h7 : 0 < size)
    (v : Value) (k : Nat) (xs : List Value) (hs : a.eval s = v) (hown : w.ownsRow base e size v k xs) (ad : Addr) (m c : Nat) (news : List Value) (hx : a.eval x = .slice (some ad) m c) (hn : news.length = m * size)
    (hc : ∀ j u, news[j]? = some u → w.cell? (ad.add j) = some u) (h1c : ∀ u ∈ news, u.oneCell' = true) (b1 : k + m ≤ maxLen) (b2 : (k + m) * bytes ≤ 140737488355328) (b3 : base ≤ w.heap.size)
    (hK : ∀ v' w', w'.ownsRow base e size v' (k + m) (xs ++ news) → w.grownBy w' v.ownBlock → (v' = .slice none 0 0 ↔ v = .slice none 0 0 ∧ m = 0) → (∀ g, v'.ownBlock = some g → v.ownBlock = some g ∨ w.heap.size ≤ g) → wpListIn F n P ops Q rest (a.put o.dst v') w') :
    wpListIn F n P ops Q (o :: rest) a w := by
  refine wpListIn_plain hg fun K hK' => ?_
  obtain ⟨v', w', hrun, r1, r2, r3, r4⟩ := run_append2 (P := P) w base t o.type e i z size bytes h1 h2 h3 h4 h5 h6 h7 v k xs hown ad m c news hn hc h1c b1 b2 b3
  unfold Oper.wpIn
  refine ⟨?_, ?_⟩
  · simp [Oper.about, hop, resolve, Target.leads, Sem.run_pure]
  · rw [Oper.semAt_plain F _ _ (by rw [hop]; intro c hc'; cases hc')]
    simp [execOp, hop, resolve, invoke, builtin, hs, hx, hrun, Result.andThen]
    exact hK' _ _ (hK v' w' r1 r2 r3 r4)

theorem wpList_append2 {P : Program} (w : World) {ops : Array Oper} {rest : List Oper} {o : Oper} {a : Act} {Q : Exit → Act → World → Prop}
    (hg : o.guard = none) (s x : Operand) (t : TypeId) (hop : o.op = Op.call { callee := Callee.builtin Builtin.append, args := #[s, x], argTypes := #[t, t] })
    (base : Nat) (e : TypeId) (i : TypeInfo) (z : Value) (size bytes : Nat) (h1 : P.underlying t = some (.slice e)) (h2 : P.info? e = some i) (h3 : i.zero = some z) (h4 : i.size = size) (h5 : i.bytes = bytes) (h6 : z.cells.size = size) (h7 : 0 < size)
    (v : Value) (k : Nat) (xs : List Value) (hs : a.eval s = v) (hown : w.ownsRow base e size v k xs) (ad : Addr) (m c : Nat) (news : List Value) (hx : a.eval x = .slice (some ad) m c) (hn : news.length = m * size)
    (hc : ∀ j u, news[j]? = some u → w.cell? (ad.add j) = some u) (h1c : ∀ u ∈ news, u.oneCell' = true) (b1 : k + m ≤ maxLen) (b2 : (k + m) * bytes ≤ 140737488355328) (b3 : base ≤ w.heap.size)
    (hK : ∀ v' w', w'.ownsRow base e size v' (k + m) (xs ++ news) → w.grownBy w' v.ownBlock → (v' = .slice none 0 0 ↔ v = .slice none 0 0 ∧ m = 0) → (∀ g, v'.ownBlock = some g → v.ownBlock = some g ∨ w.heap.size ≤ g) → wpList P ops Q rest (a.put o.dst v') w') :
    wpList P ops Q (o :: rest) a w := by
  refine wpList_plain hg fun K hK' => ?_
  obtain ⟨v', w', hrun, r1, r2, r3, r4⟩ := run_append2 (P := P) w base t o.type e i z size bytes h1 h2 h3 h4 h5 h6 h7 v k xs hown ad m c news hn hc h1c b1 b2 b3
  unfold Oper.wp execOp
  simp only [hop, resolve, invoke, builtin, Sem.run_bind, Sem.run_pure, Result.andThen_ok, List.map_toArray, List.map_cons, List.map_nil, hs, hx, hrun]
  exact hK' _ _ (hK v' w' r1 r2 r3 r4)

theorem ownsRow_of {w w' : World} {base : Nat} {e : TypeId} {size : Nat} {v : Value} {n : Nat} {xs : List Value} (h : w.ownsRow base e size v n xs) (hk : ∀ g, v.ownBlock = some g → w'.heap[g]? = w.heap[g]?) : w'.ownsRow base e size v n xs := by
  obtain ⟨h1, ⟨rfl, rfl⟩ | ⟨g, cap, cur, rfl, hb, hg, r⟩⟩ := h
  · exact ⟨h1, .inl ⟨rfl, rfl⟩⟩
  · exact ⟨h1, .inr ⟨g, cap, cur, rfl, hb, (hk g rfl).trans hg, r⟩⟩

/-- The blocks of a variable that holds a row of one's own. -/
def held (B : Nat) (v : Value) : List Nat := B :: v.ownBlock.toList
theorem mem_held {B k : Nat} {v : Value} : k ∈ held B v ↔ k = B ∨ v.ownBlock = some k := by
  simp [held, Option.mem_toList]

end Go.Proofs.YthjghcfnopancaaGreat
