/-
  A new session.
-/
import Derived.Test.YtkhokdikabopfaaGreatDoorSession
namespace Go.Proofs.YtkhokdikabopfaaGreatDoor
open Go.RowKit Go.Shelf Go.Maps

set_option maxRecDepth 100000 in
set_option maxHeartbeats 1000000 in
theorem snew {w : World} {A B p fb hb n : Nat} {iv : Value} {quota : Int} (hp : PoolAt w A B p fb hb n iv quota) (h2 : 1 ≤ quota) (hn : n ≤ 64) (id : Int) (hid : 1 ≤ id ∧ id ≤ 1000) (room slots : Nat) (hr : 1024 ≤ room ∧ room ≤ 1048576) (hs : 1 ≤ slots ∧ slots ≤ 1000) :
    Calls Tryz.prog 45 #[.pointer (some ⟨p, 0, none⟩), .int .i64 id, .int .i64 room, .int .i64 slots] w fun en w' => ∃ x q o rq ra rc, en = .returned (.tuple #[.pointer (some ⟨x, 0, none⟩), .int .i64 0]) ∧ Keeps [] w w' ∧ (w.heap.size ≤ q ∧ q < o ∧ o < x ∧ x < w'.heap.size) ∧
      QAt w' q room rq false ∧ OAt w' o slots ra rc ∧
      w'.heap[x]? = some (.cells ((Sess.mk id 0 0 0 x q o rq ra rc false (.func (.func 72) #[.pointer (some ⟨x, 0, none⟩)] #[]) 0).cells p) 104 (0, 0)) := by
  have hR := Lib.hid (preclaim hp h2 hn 0)
  have hQ := Lib.hid fun w => qnew room w (by omega) hr.2
  have hO := Lib.hid fun w => onew slots w hs.1 hs.2
  have d1 : decide (id < 1) = false := decide_eq_false (by omega)
  have d2 : decide (2147483647 < id) = false := decide_eq_false (by omega)
  have d3 : decide ((room : Int) < 1024) = false := decide_eq_false (by omega)
  have hst := fun (W : World) (a b : Addr) => run_store Tryz.prog W a (.func (.func 72) #[.pointer (some b)] #[]) .plain rfl
  clear hp
  go_enter Tryz.func45, Tryz.ntmps45
  go_wp2_with (first
    | (go_at_call 69; refine (hR.out).mono ?_; rintro e w' ⟨rfl, rfl⟩)
    | (go_at_call 70; refine (hQ.out _).mono ?_; rintro e w1 ⟨q, rq, rfl, hk1, hq, hQA⟩)
    | (go_at_call 71; refine (hO.out _).mono ?_; rintro e w2 ⟨o, ra, rc, rfl, hk2, ho, hOA⟩))
  go_ret2
  have q1 := ltOf hQA
  have o1 := ltOf hOA
  refine ⟨_, q, o, rq, ra, rc, rfl, ?_, ⟨hq, by omega, o1, ?_⟩, ?_, ?_, ?_⟩
  · exact (hk1.trans hk2).alloc _
  · simp
  · exact (hQA.keep hk2 (by simp)).keep ((Keeps.refl [] _).alloc _) (by simp)
  · exact hOA.keep ((Keeps.refl [] _).alloc _) (by simp)
  · exact heap_new_at _ rfl

end Go.Proofs.YtkhokdikabopfaaGreatDoor
