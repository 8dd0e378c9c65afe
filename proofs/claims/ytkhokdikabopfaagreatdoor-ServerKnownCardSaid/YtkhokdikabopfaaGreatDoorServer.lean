/-
  The server in memory, with idle sessions alone.
-/
import Derived.Test.YtkhokdikabopfaaGreatDoorSessionC
import Derived.Test.YtkhokdikabopfaaGreatDoorPoolN
import Derived.Test.YtkhokdikabopfaaGreatDoorOpen
namespace Go.Proofs.YtkhokdikabopfaaGreatDoor
open Go.RowKit Go.Shelf Go.Maps

/-- A configuration. -/
structure Cf where
  (sessions frames quota room slots : Nat)
abbrev Cf.val (c : Cf) : Value := .agg #[.int .i64 c.sessions, .int .i64 c.frames, .int .i64 c.quota, .int .i64 c.room, .int .i64 c.slots]
structure Cf.ok (c : Cf) : Prop where
  s : 1 ≤ c.sessions ∧ c.sessions ≤ 64
  f : 1 ≤ c.frames ∧ c.frames ≤ 64
  q : 2 ≤ c.quota ∧ c.quota ≤ c.frames
  r : 1024 ≤ c.room ∧ c.room ≤ 1048576
  o : 1 ≤ c.slots ∧ c.slots ≤ 1000

theorem map_ne {w : World} {b c : Nat} {cs : Array Value} {T : TypeId} {z : Nat × Nat} {l : List (Int × Value)} (h : w.heap[b]? = some (.cells cs T z)) (h2 : IMap w c l) : b ≠ c := by
  obtain ⟨es, clock, hb, -⟩ := h2.ex
  intro e; subst e; rw [h] at hb; cases hb

/-- Where a server's own blocks lie. -/
structure SrvP where
  (A B s t tb p fb hb cb : Nat)
  iv : Value

/-- A server: its numbers' causes, and its live sessions. -/
structure SrvAt (w : World) (P : SrvP) (c : Cf) (last : Int) (l : List (Int × Int)) (L : List Sess) : Prop where
  blk : w.heap[P.s]? = some (.cells #[.int .i64 c.sessions, .int .i64 c.frames, .int .i64 c.quota, .int .i64 c.room, .int .i64 c.slots, .pointer (some ⟨P.t, 0, none⟩), .pointer (some ⟨P.p, 0, none⟩), .map (some P.cb)] 49 (0, 0))
  tbl : TblAt w P.t P.tb c.sessions last l
  pool : PoolAt w P.A P.B P.p P.fb P.hb c.frames P.iv c.quota
  out : (P.s < P.A ∨ P.B ≤ P.s) ∧ (P.t < P.A ∨ P.B ≤ P.t) ∧ (P.tb < P.A ∨ P.B ≤ P.tb) ∧ (P.cb < P.A ∨ P.B ≤ P.cb)
  cl : IMap w P.cb (L.map fun z => (z.id, .pointer (some ⟨z.k, 0, none⟩)))
  ne : P.cb ≠ P.tb
  top : P.B ≤ w.heap.size
  sess : ∀ z ∈ L, SessAt w P.p c.room c.slots z ∧ P.t < z.lo ∧ P.tb < z.lo ∧ P.cb < z.lo ∧ P.s < z.lo ∧ P.B ≤ z.lo ∧ z.hi ≤ w.heap.size
  sep : L.Pairwise fun a b => a.hi ≤ b.lo

end Go.Proofs.YtkhokdikabopfaaGreatDoor
