/-
  A session that nothing came to: Status, and what it reads.
-/
import Derived.Test.YtkhokdikabopfaaGreatDoorSession
import Derived.Test.YtkhokdikabopfaaGreatDoorMidQ
namespace Go.Proofs.YtkhokdikabopfaaGreatDoor
open Go.RowKit Go.Shelf Go.Maps

theorem agg_stat : Agg Tryz.prog 31 7 := ⟨fun _ => by kernel_rfl, fun _ => by kernel_rfl⟩

set_option maxRecDepth 100000 in
set_option maxHeartbeats 1000000 in
theorem sstatus {w : World} {A B p fb hb n : Nat} {iv : Value} {quota : Int} {room : Int} {slots : Nat} {z : Sess} (h : SessAt w p room slots z) (hp : PoolAt w A B p fb hb n iv quota) (h1 : 1 ≤ slots) (h2 : 1 ≤ quota) (h3 : 1 ≤ room) (h4 : room ≤ 1048576) :
    Calls Tryz.prog 30 #[.pointer (some ⟨z.x, 0, none⟩)] w fun en w' => en = .returned (.agg #[.int .i64 z.cause, .int .i64 0, .int .i64 0, .int .i64 room, .int .i64 0, .int .i64 0, .int .i64 0]) ∧ Keeps [] w w' := by
  obtain ⟨w1, hw1⟩ : ∃ w1, w1 = w.alloc (.cells #[.int .i64 0, .int .i64 0, .int .i64 0, .int .i64 0, .int .i64 0, .int .i64 0, .int .i64 0] 31) := ⟨_, rfl⟩
  have hk1 : Keeps [] w w1 := by rw [hw1]; exact (Keeps.refl _ _).alloc _
  have hb1 : w1.heap[w.heap.size]? = some (.cells #[.int .i64 0, .int .i64 0, .int .i64 0, .int .i64 0, .int .i64 0, .int .i64 0, .int .i64 0] 31 (0, 0)) := by rw [hw1]; exact heap_new w _
  have hs := h.keep hk1 (by simp)
  have hpl := hp.keep hk1 (by simp)
  obtain ⟨c0, c1, c2, c3, c4, c5, c6⟩ := h.c
  have hN := Lib.hid (snone hs.c.1)
  have a1 := Lib.hid fun w' (k : Keeps [] w1 w') => olen (hs.keep k (by simp)).o h1
  have a2 := Lib.hid fun w' (k : Keeps [] w1 w') => qleft (hs.keep k (by simp)).q h3
  have a3 := Lib.hid fun w' (k : Keeps [] w1 w') => qfree (hs.keep k (by simp)).q h3 h4
  have a4 := Lib.hid fun w' (k : Keeps [] w1 w') => pheld (hpl.keep k (by simp)) h2 z.id
  have a5 := Lib.hid fun w' (k : Keeps [] w1 w') => qgone (hs.keep k (by simp)).q h3
  have D := Lib.hid fun w' (k : Keeps [] w1 w') => (hs.keep k (by simp)).c
  clear h hp hs hpl
  go_enter Tryz.func30, Tryz.ntmps30
  go_wp2_with fail
  rw [← hw1]
  refine (hN.out).mono ?_
  rintro e w' ⟨rfl, rfl⟩
  clear c0 c1 c2 c3 c4 c5 c6 hw1
  have hb1 := Lib.hid hb1
  go_wp2
  refine wp_region_segQ (fun w w' => Keeps [] w w') (fun w => Keeps.refl _ _) (fun w => (Keeps.refl _ _).drew) [38] (by kernel_rfl) (by kernel_rfl) ?_
  simp only [wpSegQ, List.drop_zero, List.drop_succ_cons, List.take_succ_cons, List.take_zero, Nat.reduceSub, Nat.reduceAdd]
  repeat (refine wpQuiet_step (fun K hK => ?_); go_simp; first | (refine hK _ ?_; clear hK K) | (apply Exists.intro; refine ⟨fun wq hq => ?_, hK _ ?_⟩; (first | (go_at_call 57; exact (a1.out wq hq).mono fun _ _ h => ⟨h.1, hq.trans h.2⟩) | (go_at_call 58; exact (a2.out wq hq).mono fun _ _ h => ⟨h.1, hq.trans h.2⟩) | (go_at_call 59; exact (a3.out wq hq).mono fun _ _ h => ⟨h.1, hq.trans h.2⟩) | (go_at_call 60; exact (a4.out wq hq).mono fun _ _ h => ⟨h.1, hq.trans h.2⟩) | (go_at_call 61; exact (a5.out wq hq).mono fun _ _ h => ⟨h.1, h.2 ▸ hq⟩) | (obtain ⟨c0, c1, c2, c3, c4, c5, c6⟩ := D.out wq hq; go_simp; rfl)); clear hK K))
  refine wpQuiet_nil ?_
  intro w2 hk2
  have hb2 := hk2.blk hb1.out (by simp)
  obtain ⟨e0, e1, e2, e3, e4, e5, e6⟩ := cells7 hb2
  have fr := frees hb2
  have hb2 := Lib.hid hb2
  go_wp2
  refine wpQuiet_nil ?_
  intro w3 hk3
  go_wp2
  have hx : w.heap.size < w.heap.size → w.heap.size ∈ ([] : List Nat) := fun h => absurd h (by omega)
  exact bodyPost_ret (res_c rfl agg_stat rfl rfl (hk3.blk (stored7 hb2.out) (by simp))) rfl ⟨rfl, ((hk1.trans hk2).store7 hx).trans hk3⟩

end Go.Proofs.YtkhokdikabopfaaGreatDoor
