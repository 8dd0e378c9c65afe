/-
  See of a model: contract.
-/
import Derived.Test.YthjghcfnopancaaGreatGd
namespace Go.Proofs.YthjghcfnopancaaGreat
open Go.RowKit Go.Shelf Go.Maps

theorem neq_status (a b : St) (w : World) : (binOp .neq 35 a.val b.val).run Tryz.prog w = .ok (.bool (!decide (a = b))) w := by
  obtain ⟨a0, a1, a2, a3, a4, a5, a6⟩ := a
  obtain ⟨b0, b1, b2, b3, b4, b5, b6⟩ := b
  go_simp
  repeat' split
  all_goals simp_all

theorem within_q (n lo hi : Int) (w : World) :
    Calls Tryz.prog 16 #[.int .i64 n, .int .i64 lo, .int .i64 hi] w fun e w' => e = .returned (.bool (decide (lo ≤ n ∧ n ≤ hi))) ∧ w' = w :=
  (within_any n lo hi w).mono fun _ _ h => ⟨h.1, h.2.symm⟩

end Go.Proofs.YthjghcfnopancaaGreat

/-
  See of a model: contract.
-/
namespace Go.Proofs.YthjghcfnopancaaGreat
open Go.RowKit Go.Shelf Go.Maps

set_option maxRecDepth 100000 in
set_option maxHeartbeats 2000000 in
theorem see1_a (bm bs m : Nat) (room quota slots : Int) (k : Kn) (s : St) (w : World) (hs : w.heap[bs]? = some (.cells #[.int .i64 s.cause, .int .i64 s.queued, .int .i64 s.left, .int .i64 s.free, .int .i64 s.frames, .int .i64 s.pictures, .int .i64 s.gone] 35 (0, 0)))
    (hm : w.cell? ⟨bm, 0, none⟩ = some (.pointer (some ⟨m, 0, none⟩))) (hr : w.cell? ⟨m, 3, none⟩ = some (.int .i64 room)) (hq : w.cell? ⟨m, 2, none⟩ = some (.int .i64 quota)) (ho : w.cell? ⟨m, 4, none⟩ = some (.int .i64 slots))
    (dA : decide ((({ k with s := s } : Kn).counts room).s = s) = false) :
    Calls Tryz.prog 44 #[k.val, .pointer (some ⟨bs, 0, none⟩), .pointer (some ⟨bm, 0, none⟩)] w fun e w' => e = .returned (.tuple #[({ k with s := s } : Kn).val, .int .i64 0, .int .i64 2]) ∧ Keeps [] w w' := by
  obtain ⟨a1, x, k0, k1, k2, k3, k4, k5, k6⟩ := k
  obtain ⟨s0, s1, s2, s3, s4, s5, s6⟩ := s
  simp only at *
  obtain ⟨z0, z1, z2, z3, z4, z5, z6⟩ := cells7 hs
  have y0 := ltOf hs
  have y1 := World.block_lt_of_cell? _ _ hm
  simp only at y1
  have y2 : bs < w.heap.size + 1 := by omega
  have y3 : bs < w.heap.size + 1 + 1 := by omega
  have y4 : bm < w.heap.size + 1 := by omega
  have y5 : bm < w.heap.size + 1 + 1 := by omega
  go_enter Tryz.func44, Tryz.ntmps44
  go_wp2_with fail
  clear z0 z1 z2 z3 z4 z5 z6 y0 y1 y2 y3 y4 y5
  refine (counts_any m room ⟨a1, x, ⟨s0, s1, s2, s3, s4, s5, s6⟩⟩ _ ?_).mono ?_
  · exact ((((Keeps.refl [] _).alloc _).alloc _).alloc _).cell hr (by simp)
  rintro e w1 ⟨rfl, hk⟩
  obtain ⟨b0, b1, b2, hk⟩ := hk.new3 (by simp) (by simp) (by simp)
  have B0 := Lib.hid b0
  have B1 := Lib.hid b1
  obtain ⟨p0, p1, p2, p3, p4, p5, p6, p7, p8⟩ := cells9 b0
  obtain ⟨r0, r1, r2, r3, r4, r5, r6, r7, r8⟩ := cells9 b1
  obtain ⟨q0, q1, q2, q3, q4, q5, q6⟩ := cells7 b2
  obtain ⟨t0, t1, t2, t3, t4, t5, t6⟩ := cells7 (hk.blk hs (by simp))
  have hm1 := hk.cell hm (by simp)
  have hq1 := hk.cell hq (by simp)
  have ho1 := hk.cell ho (by simp)
  have l0 := ltOf b0
  have l1 := ltOf b1
  have l2 := ltOf b2
  have l3 := ltOf (hk.blk hs (by simp))
  have l4 := World.block_lt_of_cell? _ _ hm1
  have l5 := World.block_lt_of_cell? _ _ hq1
  have fr := frees b1
  simp only at l4 l5
  clear b0 b1 b2 hs hr hm hq ho
  have hne := fun W => neq_status (({ came := a1, ended := x, s := ⟨s0, s1, s2, s3, s4, s5, s6⟩ } : Kn).counts room).s ⟨s0, s1, s2, s3, s4, s5, s6⟩ W
  simp only [dA] at hne
  clear dA
  go_wp2
  go_quiet ((go_at_call 16; exact Calls.quiet_of_same (within_q _ _ _ _)))
  go_wp2
  exact bodyPost_ret (res_ctt rfl agg_known rfl rfl rfl rfl (stored9 ((((Keeps.refl [] w1).alloc _).drewN _).blk B1.out (by simp)))) rfl ⟨rfl, ((hk.alloc _).drewN _).store9 (fun h => by omega)⟩

set_option maxRecDepth 100000 in
set_option maxHeartbeats 2000000 in
theorem see1_b (bm bs m : Nat) (room quota slots : Int) (k : Kn) (s : St) (w : World) (hs : w.heap[bs]? = some (.cells #[.int .i64 s.cause, .int .i64 s.queued, .int .i64 s.left, .int .i64 s.free, .int .i64 s.frames, .int .i64 s.pictures, .int .i64 s.gone] 35 (0, 0)))
    (hm : w.cell? ⟨bm, 0, none⟩ = some (.pointer (some ⟨m, 0, none⟩))) (hr : w.cell? ⟨m, 3, none⟩ = some (.int .i64 room)) (hq : w.cell? ⟨m, 2, none⟩ = some (.int .i64 quota)) (ho : w.cell? ⟨m, 4, none⟩ = some (.int .i64 slots))
    (dA : decide ((({ k with s := s } : Kn).counts room).s = s) = true) (dB : decide (k.s.gone ≤ s.gone ∧ s.gone ≤ wrap64 (8 * k.came)) = false) :
    Calls Tryz.prog 44 #[k.val, .pointer (some ⟨bs, 0, none⟩), .pointer (some ⟨bm, 0, none⟩)] w fun e w' => e = .returned (.tuple #[({ k with s := s } : Kn).val, .int .i64 0, .int .i64 2]) ∧ Keeps [] w w' := by
  obtain ⟨a1, x, k0, k1, k2, k3, k4, k5, k6⟩ := k
  obtain ⟨s0, s1, s2, s3, s4, s5, s6⟩ := s
  simp only at *
  obtain ⟨z0, z1, z2, z3, z4, z5, z6⟩ := cells7 hs
  have y0 := ltOf hs
  have y1 := World.block_lt_of_cell? _ _ hm
  simp only at y1
  have y2 : bs < w.heap.size + 1 := by omega
  have y3 : bs < w.heap.size + 1 + 1 := by omega
  have y4 : bm < w.heap.size + 1 := by omega
  have y5 : bm < w.heap.size + 1 + 1 := by omega
  go_enter Tryz.func44, Tryz.ntmps44
  go_wp2_with fail
  clear z0 z1 z2 z3 z4 z5 z6 y0 y1 y2 y3 y4 y5
  refine (counts_any m room ⟨a1, x, ⟨s0, s1, s2, s3, s4, s5, s6⟩⟩ _ ?_).mono ?_
  · exact ((((Keeps.refl [] _).alloc _).alloc _).alloc _).cell hr (by simp)
  rintro e w1 ⟨rfl, hk⟩
  obtain ⟨b0, b1, b2, hk⟩ := hk.new3 (by simp) (by simp) (by simp)
  have B0 := Lib.hid b0
  have B1 := Lib.hid b1
  obtain ⟨p0, p1, p2, p3, p4, p5, p6, p7, p8⟩ := cells9 b0
  obtain ⟨r0, r1, r2, r3, r4, r5, r6, r7, r8⟩ := cells9 b1
  obtain ⟨q0, q1, q2, q3, q4, q5, q6⟩ := cells7 b2
  obtain ⟨t0, t1, t2, t3, t4, t5, t6⟩ := cells7 (hk.blk hs (by simp))
  have hm1 := hk.cell hm (by simp)
  have hq1 := hk.cell hq (by simp)
  have ho1 := hk.cell ho (by simp)
  have l0 := ltOf b0
  have l1 := ltOf b1
  have l2 := ltOf b2
  have l3 := ltOf (hk.blk hs (by simp))
  have l4 := World.block_lt_of_cell? _ _ hm1
  have l5 := World.block_lt_of_cell? _ _ hq1
  have fr := frees b1
  simp only at l4 l5
  clear b0 b1 b2 hs hr hm hq ho
  have hne := fun W => neq_status (({ came := a1, ended := x, s := ⟨s0, s1, s2, s3, s4, s5, s6⟩ } : Kn).counts room).s ⟨s0, s1, s2, s3, s4, s5, s6⟩ W
  simp only [dA] at hne
  clear dA
  go_wp2
  go_quiet ((go_at_call 16; exact Calls.quiet_of_same (within_q _ _ _ _)))
  go_wp2
  exact bodyPost_ret (res_ctt rfl agg_known rfl rfl rfl rfl (stored9 ((((Keeps.refl [] w1).alloc _).drewN _).blk B1.out (by simp)))) rfl ⟨rfl, ((hk.alloc _).drewN _).store9 (fun h => by omega)⟩

set_option maxRecDepth 100000 in
set_option maxHeartbeats 2000000 in
theorem see1_c (bm bs m : Nat) (room quota slots : Int) (k : Kn) (s : St) (w : World) (hs : w.heap[bs]? = some (.cells #[.int .i64 s.cause, .int .i64 s.queued, .int .i64 s.left, .int .i64 s.free, .int .i64 s.frames, .int .i64 s.pictures, .int .i64 s.gone] 35 (0, 0)))
    (hm : w.cell? ⟨bm, 0, none⟩ = some (.pointer (some ⟨m, 0, none⟩))) (hr : w.cell? ⟨m, 3, none⟩ = some (.int .i64 room)) (hq : w.cell? ⟨m, 2, none⟩ = some (.int .i64 quota)) (ho : w.cell? ⟨m, 4, none⟩ = some (.int .i64 slots))
    (dA : decide ((({ k with s := s } : Kn).counts room).s = s) = true) (dB : decide (k.s.gone ≤ s.gone ∧ s.gone ≤ wrap64 (8 * k.came)) = true) (dC : decide (0 ≤ s.queued ∧ s.queued ≤ slots) = false) :
    Calls Tryz.prog 44 #[k.val, .pointer (some ⟨bs, 0, none⟩), .pointer (some ⟨bm, 0, none⟩)] w fun e w' => e = .returned (.tuple #[({ k with s := s } : Kn).val, .int .i64 0, .int .i64 2]) ∧ Keeps [] w w' := by
  obtain ⟨a1, x, k0, k1, k2, k3, k4, k5, k6⟩ := k
  obtain ⟨s0, s1, s2, s3, s4, s5, s6⟩ := s
  simp only at *
  obtain ⟨z0, z1, z2, z3, z4, z5, z6⟩ := cells7 hs
  have y0 := ltOf hs
  have y1 := World.block_lt_of_cell? _ _ hm
  simp only at y1
  have y2 : bs < w.heap.size + 1 := by omega
  have y3 : bs < w.heap.size + 1 + 1 := by omega
  have y4 : bm < w.heap.size + 1 := by omega
  have y5 : bm < w.heap.size + 1 + 1 := by omega
  go_enter Tryz.func44, Tryz.ntmps44
  go_wp2_with fail
  clear z0 z1 z2 z3 z4 z5 z6 y0 y1 y2 y3 y4 y5
  refine (counts_any m room ⟨a1, x, ⟨s0, s1, s2, s3, s4, s5, s6⟩⟩ _ ?_).mono ?_
  · exact ((((Keeps.refl [] _).alloc _).alloc _).alloc _).cell hr (by simp)
  rintro e w1 ⟨rfl, hk⟩
  obtain ⟨b0, b1, b2, hk⟩ := hk.new3 (by simp) (by simp) (by simp)
  have B0 := Lib.hid b0
  have B1 := Lib.hid b1
  obtain ⟨p0, p1, p2, p3, p4, p5, p6, p7, p8⟩ := cells9 b0
  obtain ⟨r0, r1, r2, r3, r4, r5, r6, r7, r8⟩ := cells9 b1
  obtain ⟨q0, q1, q2, q3, q4, q5, q6⟩ := cells7 b2
  obtain ⟨t0, t1, t2, t3, t4, t5, t6⟩ := cells7 (hk.blk hs (by simp))
  have hm1 := hk.cell hm (by simp)
  have hq1 := hk.cell hq (by simp)
  have ho1 := hk.cell ho (by simp)
  have l0 := ltOf b0
  have l1 := ltOf b1
  have l2 := ltOf b2
  have l3 := ltOf (hk.blk hs (by simp))
  have l4 := World.block_lt_of_cell? _ _ hm1
  have l5 := World.block_lt_of_cell? _ _ hq1
  have fr := frees b1
  simp only at l4 l5
  clear b0 b1 b2 hs hr hm hq ho
  have hne := fun W => neq_status (({ came := a1, ended := x, s := ⟨s0, s1, s2, s3, s4, s5, s6⟩ } : Kn).counts room).s ⟨s0, s1, s2, s3, s4, s5, s6⟩ W
  simp only [dA] at hne
  clear dA
  go_wp2
  go_quiet ((go_at_call 16; exact Calls.quiet_of_same (within_q _ _ _ _)))
  go_wp2
  exact bodyPost_ret (res_ctt rfl agg_known rfl rfl rfl rfl (stored9 ((((Keeps.refl [] w1).alloc _).drewN _).blk B1.out (by simp)))) rfl ⟨rfl, ((hk.alloc _).drewN _).store9 (fun h => by omega)⟩

set_option maxRecDepth 100000 in
set_option maxHeartbeats 2000000 in
theorem see1_d (bm bs m : Nat) (room quota slots : Int) (k : Kn) (s : St) (w : World) (hs : w.heap[bs]? = some (.cells #[.int .i64 s.cause, .int .i64 s.queued, .int .i64 s.left, .int .i64 s.free, .int .i64 s.frames, .int .i64 s.pictures, .int .i64 s.gone] 35 (0, 0)))
    (hm : w.cell? ⟨bm, 0, none⟩ = some (.pointer (some ⟨m, 0, none⟩))) (hr : w.cell? ⟨m, 3, none⟩ = some (.int .i64 room)) (hq : w.cell? ⟨m, 2, none⟩ = some (.int .i64 quota)) (ho : w.cell? ⟨m, 4, none⟩ = some (.int .i64 slots))
    (dA : decide ((({ k with s := s } : Kn).counts room).s = s) = true) (dB : decide (k.s.gone ≤ s.gone ∧ s.gone ≤ wrap64 (8 * k.came)) = true) (dC : decide (0 ≤ s.queued ∧ s.queued ≤ slots) = true) (dD : decide (0 ≤ s.frames ∧ s.frames ≤ quota) = false) :
    Calls Tryz.prog 44 #[k.val, .pointer (some ⟨bs, 0, none⟩), .pointer (some ⟨bm, 0, none⟩)] w fun e w' => e = .returned (.tuple #[({ k with s := s } : Kn).val, .int .i64 0, .int .i64 2]) ∧ Keeps [] w w' := by
  obtain ⟨a1, x, k0, k1, k2, k3, k4, k5, k6⟩ := k
  obtain ⟨s0, s1, s2, s3, s4, s5, s6⟩ := s
  simp only at *
  obtain ⟨z0, z1, z2, z3, z4, z5, z6⟩ := cells7 hs
  have y0 := ltOf hs
  have y1 := World.block_lt_of_cell? _ _ hm
  simp only at y1
  have y2 : bs < w.heap.size + 1 := by omega
  have y3 : bs < w.heap.size + 1 + 1 := by omega
  have y4 : bm < w.heap.size + 1 := by omega
  have y5 : bm < w.heap.size + 1 + 1 := by omega
  go_enter Tryz.func44, Tryz.ntmps44
  go_wp2_with fail
  clear z0 z1 z2 z3 z4 z5 z6 y0 y1 y2 y3 y4 y5
  refine (counts_any m room ⟨a1, x, ⟨s0, s1, s2, s3, s4, s5, s6⟩⟩ _ ?_).mono ?_
  · exact ((((Keeps.refl [] _).alloc _).alloc _).alloc _).cell hr (by simp)
  rintro e w1 ⟨rfl, hk⟩
  obtain ⟨b0, b1, b2, hk⟩ := hk.new3 (by simp) (by simp) (by simp)
  have B0 := Lib.hid b0
  have B1 := Lib.hid b1
  obtain ⟨p0, p1, p2, p3, p4, p5, p6, p7, p8⟩ := cells9 b0
  obtain ⟨r0, r1, r2, r3, r4, r5, r6, r7, r8⟩ := cells9 b1
  obtain ⟨q0, q1, q2, q3, q4, q5, q6⟩ := cells7 b2
  obtain ⟨t0, t1, t2, t3, t4, t5, t6⟩ := cells7 (hk.blk hs (by simp))
  have hm1 := hk.cell hm (by simp)
  have hq1 := hk.cell hq (by simp)
  have ho1 := hk.cell ho (by simp)
  have l0 := ltOf b0
  have l1 := ltOf b1
  have l2 := ltOf b2
  have l3 := ltOf (hk.blk hs (by simp))
  have l4 := World.block_lt_of_cell? _ _ hm1
  have l5 := World.block_lt_of_cell? _ _ hq1
  have fr := frees b1
  simp only at l4 l5
  clear b0 b1 b2 hs hr hm hq ho
  have hne := fun W => neq_status (({ came := a1, ended := x, s := ⟨s0, s1, s2, s3, s4, s5, s6⟩ } : Kn).counts room).s ⟨s0, s1, s2, s3, s4, s5, s6⟩ W
  simp only [dA] at hne
  clear dA
  go_wp2
  go_quiet ((go_at_call 16; exact Calls.quiet_of_same (within_q _ _ _ _)))
  go_wp2
  exact bodyPost_ret (res_ctt rfl agg_known rfl rfl rfl rfl (stored9 ((((Keeps.refl [] w1).alloc _).drewN _).blk B1.out (by simp)))) rfl ⟨rfl, ((hk.alloc _).drewN _).store9 (fun h => by omega)⟩

end Go.Proofs.YthjghcfnopancaaGreat

/-
  See of a model: contract, the other ways.
-/
namespace Go.Proofs.YthjghcfnopancaaGreat
open Go.RowKit Go.Shelf Go.Maps

set_option maxRecDepth 100000 in
set_option maxHeartbeats 2000000 in
theorem see1_e (bm bs m : Nat) (room quota slots : Int) (k : Kn) (s : St) (w : World) (hs : w.heap[bs]? = some (.cells #[.int .i64 s.cause, .int .i64 s.queued, .int .i64 s.left, .int .i64 s.free, .int .i64 s.frames, .int .i64 s.pictures, .int .i64 s.gone] 35 (0, 0)))
    (hm : w.cell? ⟨bm, 0, none⟩ = some (.pointer (some ⟨m, 0, none⟩))) (hr : w.cell? ⟨m, 3, none⟩ = some (.int .i64 room)) (hq : w.cell? ⟨m, 2, none⟩ = some (.int .i64 quota)) (ho : w.cell? ⟨m, 4, none⟩ = some (.int .i64 slots))
    (dA : decide ((({ k with s := s } : Kn).counts room).s = s) = true) (dB : decide (k.s.gone ≤ s.gone ∧ s.gone ≤ wrap64 (8 * k.came)) = true) (dC : decide (0 ≤ s.queued ∧ s.queued ≤ slots) = true) (dD : decide (0 ≤ s.frames ∧ s.frames ≤ quota) = true) (dE : decide (s.pictures < k.s.pictures) = true) :
    Calls Tryz.prog 44 #[k.val, .pointer (some ⟨bs, 0, none⟩), .pointer (some ⟨bm, 0, none⟩)] w fun e w' => e = .returned (.tuple #[({ k with s := s } : Kn).val, .int .i64 0, .int .i64 2]) ∧ Keeps [] w w' := by
  obtain ⟨a1, x, k0, k1, k2, k3, k4, k5, k6⟩ := k
  obtain ⟨s0, s1, s2, s3, s4, s5, s6⟩ := s
  simp only at *
  obtain ⟨z0, z1, z2, z3, z4, z5, z6⟩ := cells7 hs
  have y0 := ltOf hs
  have y1 := World.block_lt_of_cell? _ _ hm
  simp only at y1
  have y2 : bs < w.heap.size + 1 := by omega
  have y3 : bs < w.heap.size + 1 + 1 := by omega
  have y4 : bm < w.heap.size + 1 := by omega
  have y5 : bm < w.heap.size + 1 + 1 := by omega
  go_enter Tryz.func44, Tryz.ntmps44
  go_wp2_with fail
  clear z0 z1 z2 z3 z4 z5 z6 y0 y1 y2 y3 y4 y5
  refine (counts_any m room ⟨a1, x, ⟨s0, s1, s2, s3, s4, s5, s6⟩⟩ _ ?_).mono ?_
  · exact ((((Keeps.refl [] _).alloc _).alloc _).alloc _).cell hr (by simp)
  rintro e w1 ⟨rfl, hk⟩
  obtain ⟨b0, b1, b2, hk⟩ := hk.new3 (by simp) (by simp) (by simp)
  have B0 := Lib.hid b0
  have B1 := Lib.hid b1
  obtain ⟨p0, p1, p2, p3, p4, p5, p6, p7, p8⟩ := cells9 b0
  obtain ⟨r0, r1, r2, r3, r4, r5, r6, r7, r8⟩ := cells9 b1
  obtain ⟨q0, q1, q2, q3, q4, q5, q6⟩ := cells7 b2
  obtain ⟨t0, t1, t2, t3, t4, t5, t6⟩ := cells7 (hk.blk hs (by simp))
  have hm1 := hk.cell hm (by simp)
  have hq1 := hk.cell hq (by simp)
  have ho1 := hk.cell ho (by simp)
  have l0 := ltOf b0
  have l1 := ltOf b1
  have l2 := ltOf b2
  have l3 := ltOf (hk.blk hs (by simp))
  have l4 := World.block_lt_of_cell? _ _ hm1
  have l5 := World.block_lt_of_cell? _ _ hq1
  have fr := frees b1
  simp only at l4 l5
  clear b0 b1 b2 hs hr hm hq ho
  have hne := fun W => neq_status (({ came := a1, ended := x, s := ⟨s0, s1, s2, s3, s4, s5, s6⟩ } : Kn).counts room).s ⟨s0, s1, s2, s3, s4, s5, s6⟩ W
  simp only [dA] at hne
  clear dA
  go_wp2
  go_quiet ((go_at_call 16; exact Calls.quiet_of_same (within_q _ _ _ _)))
  go_wp2
  exact bodyPost_ret (res_ctt rfl agg_known rfl rfl rfl rfl (stored9 ((((Keeps.refl [] w1).alloc _).drewN _).blk B1.out (by simp)))) rfl ⟨rfl, ((hk.alloc _).drewN _).store9 (fun h => by omega)⟩

set_option maxRecDepth 100000 in
set_option maxHeartbeats 2000000 in
theorem see1_f (bm bs m : Nat) (room quota slots : Int) (k : Kn) (s : St) (w : World) (hs : w.heap[bs]? = some (.cells #[.int .i64 s.cause, .int .i64 s.queued, .int .i64 s.left, .int .i64 s.free, .int .i64 s.frames, .int .i64 s.pictures, .int .i64 s.gone] 35 (0, 0)))
    (hm : w.cell? ⟨bm, 0, none⟩ = some (.pointer (some ⟨m, 0, none⟩))) (hr : w.cell? ⟨m, 3, none⟩ = some (.int .i64 room)) (hq : w.cell? ⟨m, 2, none⟩ = some (.int .i64 quota)) (ho : w.cell? ⟨m, 4, none⟩ = some (.int .i64 slots))
    (dA : decide ((({ k with s := s } : Kn).counts room).s = s) = true) (dB : decide (k.s.gone ≤ s.gone ∧ s.gone ≤ wrap64 (8 * k.came)) = true) (dC : decide (0 ≤ s.queued ∧ s.queued ≤ slots) = true) (dD : decide (0 ≤ s.frames ∧ s.frames ≤ quota) = true) (dE : decide (s.pictures < k.s.pictures) = false) (dF : (k.s.cause != 0) = true) (dG : (s.cause != k.s.cause) = true) :
    Calls Tryz.prog 44 #[k.val, .pointer (some ⟨bs, 0, none⟩), .pointer (some ⟨bm, 0, none⟩)] w fun e w' => e = .returned (.tuple #[({ k with s := s } : Kn).val, .int .i64 0, .int .i64 2]) ∧ Keeps [] w w' := by
  obtain ⟨a1, x, k0, k1, k2, k3, k4, k5, k6⟩ := k
  obtain ⟨s0, s1, s2, s3, s4, s5, s6⟩ := s
  simp only at *
  obtain ⟨z0, z1, z2, z3, z4, z5, z6⟩ := cells7 hs
  have y0 := ltOf hs
  have y1 := World.block_lt_of_cell? _ _ hm
  simp only at y1
  have y2 : bs < w.heap.size + 1 := by omega
  have y3 : bs < w.heap.size + 1 + 1 := by omega
  have y4 : bm < w.heap.size + 1 := by omega
  have y5 : bm < w.heap.size + 1 + 1 := by omega
  go_enter Tryz.func44, Tryz.ntmps44
  go_wp2_with fail
  clear z0 z1 z2 z3 z4 z5 z6 y0 y1 y2 y3 y4 y5
  refine (counts_any m room ⟨a1, x, ⟨s0, s1, s2, s3, s4, s5, s6⟩⟩ _ ?_).mono ?_
  · exact ((((Keeps.refl [] _).alloc _).alloc _).alloc _).cell hr (by simp)
  rintro e w1 ⟨rfl, hk⟩
  obtain ⟨b0, b1, b2, hk⟩ := hk.new3 (by simp) (by simp) (by simp)
  have B0 := Lib.hid b0
  have B1 := Lib.hid b1
  obtain ⟨p0, p1, p2, p3, p4, p5, p6, p7, p8⟩ := cells9 b0
  obtain ⟨r0, r1, r2, r3, r4, r5, r6, r7, r8⟩ := cells9 b1
  obtain ⟨q0, q1, q2, q3, q4, q5, q6⟩ := cells7 b2
  obtain ⟨t0, t1, t2, t3, t4, t5, t6⟩ := cells7 (hk.blk hs (by simp))
  have hm1 := hk.cell hm (by simp)
  have hq1 := hk.cell hq (by simp)
  have ho1 := hk.cell ho (by simp)
  have l0 := ltOf b0
  have l1 := ltOf b1
  have l2 := ltOf b2
  have l3 := ltOf (hk.blk hs (by simp))
  have l4 := World.block_lt_of_cell? _ _ hm1
  have l5 := World.block_lt_of_cell? _ _ hq1
  have fr := frees b1
  simp only at l4 l5
  clear b0 b1 b2 hs hr hm hq ho
  have hne := fun W => neq_status (({ came := a1, ended := x, s := ⟨s0, s1, s2, s3, s4, s5, s6⟩ } : Kn).counts room).s ⟨s0, s1, s2, s3, s4, s5, s6⟩ W
  simp only [dA] at hne
  clear dA
  go_wp2
  go_quiet ((go_at_call 16; exact Calls.quiet_of_same (within_q _ _ _ _)))
  go_wp2
  exact bodyPost_ret (res_ctt rfl agg_known rfl rfl rfl rfl (stored9 ((((Keeps.refl [] w1).alloc _).drewN _).blk B1.out (by simp)))) rfl ⟨rfl, ((hk.alloc _).drewN _).store9 (fun h => by omega)⟩

set_option maxRecDepth 100000 in
set_option maxHeartbeats 2000000 in
theorem see1_g (bm bs m : Nat) (room quota slots : Int) (k : Kn) (s : St) (w : World) (hs : w.heap[bs]? = some (.cells #[.int .i64 s.cause, .int .i64 s.queued, .int .i64 s.left, .int .i64 s.free, .int .i64 s.frames, .int .i64 s.pictures, .int .i64 s.gone] 35 (0, 0)))
    (hm : w.cell? ⟨bm, 0, none⟩ = some (.pointer (some ⟨m, 0, none⟩))) (hr : w.cell? ⟨m, 3, none⟩ = some (.int .i64 room)) (hq : w.cell? ⟨m, 2, none⟩ = some (.int .i64 quota)) (ho : w.cell? ⟨m, 4, none⟩ = some (.int .i64 slots))
    (dA : decide ((({ k with s := s } : Kn).counts room).s = s) = true) (dB : decide (k.s.gone ≤ s.gone ∧ s.gone ≤ wrap64 (8 * k.came)) = true) (dC : decide (0 ≤ s.queued ∧ s.queued ≤ slots) = true) (dD : decide (0 ≤ s.frames ∧ s.frames ≤ quota) = true) (dE : decide (s.pictures < k.s.pictures) = false) (dF : (k.s.cause != 0) = true) (dG : (s.cause != k.s.cause) = false) :
    Calls Tryz.prog 44 #[k.val, .pointer (some ⟨bs, 0, none⟩), .pointer (some ⟨bm, 0, none⟩)] w fun e w' => e = .returned (.tuple #[(({ k with s := s } : Kn).counts room).val, .int .i64 0, .int .i64 0]) ∧ Keeps [] w w' := by
  obtain ⟨a1, x, k0, k1, k2, k3, k4, k5, k6⟩ := k
  obtain ⟨s0, s1, s2, s3, s4, s5, s6⟩ := s
  simp only at *
  obtain ⟨z0, z1, z2, z3, z4, z5, z6⟩ := cells7 hs
  have y0 := ltOf hs
  have y1 := World.block_lt_of_cell? _ _ hm
  simp only at y1
  have y2 : bs < w.heap.size + 1 := by omega
  have y3 : bs < w.heap.size + 1 + 1 := by omega
  have y4 : bm < w.heap.size + 1 := by omega
  have y5 : bm < w.heap.size + 1 + 1 := by omega
  go_enter Tryz.func44, Tryz.ntmps44
  go_wp2_with fail
  clear z0 z1 z2 z3 z4 z5 z6 y0 y1 y2 y3 y4 y5
  refine (counts_any m room ⟨a1, x, ⟨s0, s1, s2, s3, s4, s5, s6⟩⟩ _ ?_).mono ?_
  · exact ((((Keeps.refl [] _).alloc _).alloc _).alloc _).cell hr (by simp)
  rintro e w1 ⟨rfl, hk⟩
  obtain ⟨b0, b1, b2, hk⟩ := hk.new3 (by simp) (by simp) (by simp)
  have B0 := Lib.hid b0
  have B1 := Lib.hid b1
  obtain ⟨p0, p1, p2, p3, p4, p5, p6, p7, p8⟩ := cells9 b0
  obtain ⟨r0, r1, r2, r3, r4, r5, r6, r7, r8⟩ := cells9 b1
  obtain ⟨q0, q1, q2, q3, q4, q5, q6⟩ := cells7 b2
  obtain ⟨t0, t1, t2, t3, t4, t5, t6⟩ := cells7 (hk.blk hs (by simp))
  have hm1 := hk.cell hm (by simp)
  have hq1 := hk.cell hq (by simp)
  have ho1 := hk.cell ho (by simp)
  have l0 := ltOf b0
  have l1 := ltOf b1
  have l2 := ltOf b2
  have l3 := ltOf (hk.blk hs (by simp))
  have l4 := World.block_lt_of_cell? _ _ hm1
  have l5 := World.block_lt_of_cell? _ _ hq1
  have fr := frees b1
  simp only at l4 l5
  clear b0 b1 b2 hs hr hm hq ho
  have hne := fun W => neq_status (({ came := a1, ended := x, s := ⟨s0, s1, s2, s3, s4, s5, s6⟩ } : Kn).counts room).s ⟨s0, s1, s2, s3, s4, s5, s6⟩ W
  simp only [dA] at hne
  clear dA
  go_wp2
  go_quiet ((go_at_call 16; exact Calls.quiet_of_same (within_q _ _ _ _)))
  go_wp2
  exact bodyPost_ret (res_ctt rfl agg_known rfl rfl rfl rfl (stored9 ((((Keeps.refl [] w1).alloc _).drewN _).blk B1.out (by simp)))) rfl ⟨rfl, ((hk.alloc _).drewN _).store9 (fun h => by omega)⟩

set_option maxRecDepth 100000 in
set_option maxHeartbeats 2000000 in
theorem see1_h (bm bs m : Nat) (room quota slots : Int) (k : Kn) (s : St) (w : World) (hs : w.heap[bs]? = some (.cells #[.int .i64 s.cause, .int .i64 s.queued, .int .i64 s.left, .int .i64 s.free, .int .i64 s.frames, .int .i64 s.pictures, .int .i64 s.gone] 35 (0, 0)))
    (hm : w.cell? ⟨bm, 0, none⟩ = some (.pointer (some ⟨m, 0, none⟩))) (hr : w.cell? ⟨m, 3, none⟩ = some (.int .i64 room)) (hq : w.cell? ⟨m, 2, none⟩ = some (.int .i64 quota)) (ho : w.cell? ⟨m, 4, none⟩ = some (.int .i64 slots))
    (dA : decide ((({ k with s := s } : Kn).counts room).s = s) = true) (dB : decide (k.s.gone ≤ s.gone ∧ s.gone ≤ wrap64 (8 * k.came)) = true) (dC : decide (0 ≤ s.queued ∧ s.queued ≤ slots) = true) (dD : decide (0 ≤ s.frames ∧ s.frames ≤ quota) = true) (dE : decide (s.pictures < k.s.pictures) = false) (dF : (k.s.cause != 0) = false) :
    Calls Tryz.prog 44 #[k.val, .pointer (some ⟨bs, 0, none⟩), .pointer (some ⟨bm, 0, none⟩)] w fun e w' => e = .returned (.tuple #[(({ k with s := s } : Kn).counts room).val, .int .i64 0, .int .i64 0]) ∧ Keeps [] w w' := by
  obtain ⟨a1, x, k0, k1, k2, k3, k4, k5, k6⟩ := k
  obtain ⟨s0, s1, s2, s3, s4, s5, s6⟩ := s
  simp only at *
  obtain ⟨z0, z1, z2, z3, z4, z5, z6⟩ := cells7 hs
  have y0 := ltOf hs
  have y1 := World.block_lt_of_cell? _ _ hm
  simp only at y1
  have y2 : bs < w.heap.size + 1 := by omega
  have y3 : bs < w.heap.size + 1 + 1 := by omega
  have y4 : bm < w.heap.size + 1 := by omega
  have y5 : bm < w.heap.size + 1 + 1 := by omega
  go_enter Tryz.func44, Tryz.ntmps44
  go_wp2_with fail
  clear z0 z1 z2 z3 z4 z5 z6 y0 y1 y2 y3 y4 y5
  refine (counts_any m room ⟨a1, x, ⟨s0, s1, s2, s3, s4, s5, s6⟩⟩ _ ?_).mono ?_
  · exact ((((Keeps.refl [] _).alloc _).alloc _).alloc _).cell hr (by simp)
  rintro e w1 ⟨rfl, hk⟩
  obtain ⟨b0, b1, b2, hk⟩ := hk.new3 (by simp) (by simp) (by simp)
  have B0 := Lib.hid b0
  have B1 := Lib.hid b1
  obtain ⟨p0, p1, p2, p3, p4, p5, p6, p7, p8⟩ := cells9 b0
  obtain ⟨r0, r1, r2, r3, r4, r5, r6, r7, r8⟩ := cells9 b1
  obtain ⟨q0, q1, q2, q3, q4, q5, q6⟩ := cells7 b2
  obtain ⟨t0, t1, t2, t3, t4, t5, t6⟩ := cells7 (hk.blk hs (by simp))
  have hm1 := hk.cell hm (by simp)
  have hq1 := hk.cell hq (by simp)
  have ho1 := hk.cell ho (by simp)
  have l0 := ltOf b0
  have l1 := ltOf b1
  have l2 := ltOf b2
  have l3 := ltOf (hk.blk hs (by simp))
  have l4 := World.block_lt_of_cell? _ _ hm1
  have l5 := World.block_lt_of_cell? _ _ hq1
  have fr := frees b1
  simp only at l4 l5
  clear b0 b1 b2 hs hr hm hq ho
  have hne := fun W => neq_status (({ came := a1, ended := x, s := ⟨s0, s1, s2, s3, s4, s5, s6⟩ } : Kn).counts room).s ⟨s0, s1, s2, s3, s4, s5, s6⟩ W
  simp only [dA] at hne
  clear dA
  go_wp2
  go_quiet ((go_at_call 16; exact Calls.quiet_of_same (within_q _ _ _ _)))
  go_wp2
  exact bodyPost_ret (res_ctt rfl agg_known rfl rfl rfl rfl (stored9 ((((Keeps.refl [] w1).alloc _).drewN _).blk B1.out (by simp)))) rfl ⟨rfl, ((hk.alloc _).drewN _).store9 (fun h => by omega)⟩

end Go.Proofs.YthjghcfnopancaaGreat

/-
  See, Status of a model: contracts.
-/
namespace Go.Proofs.YthjghcfnopancaaGreat
open Go.RowKit Go.Shelf Go.Maps

theorem ask_see {bm bs m t tb lb : Nat} {S : MS} (k : Kn) (s : St) (w : World) (h : ModelAt w m t tb lb S) (hs : w.heap[bs]? = some (.cells #[.int .i64 s.cause, .int .i64 s.queued, .int .i64 s.left, .int .i64 s.free, .int .i64 s.frames, .int .i64 s.pictures, .int .i64 s.gone] 35 (0, 0)))
    (hm : w.cell? ⟨bm, 0, none⟩ = some (.pointer (some ⟨m, 0, none⟩))) :
    (k.may S.c s = false → Calls Tryz.prog 44 #[k.val, .pointer (some ⟨bs, 0, none⟩), .pointer (some ⟨bm, 0, none⟩)] w fun e w' => e = .returned (.tuple #[({ k with s := s } : Kn).val, .int .i64 0, .int .i64 2]) ∧ Keeps [] w w') ∧
    (k.may S.c s = true → Calls Tryz.prog 44 #[k.val, .pointer (some ⟨bs, 0, none⟩), .pointer (some ⟨bm, 0, none⟩)] w fun e w' => e = .returned (.tuple #[(({ k with s := s } : Kn).counts S.c.room).val, .int .i64 0, .int .i64 0]) ∧ Keeps [] w w') := by
  have hr : w.cell? ⟨m, 3, none⟩ = some (.int .i64 S.c.room) := cellOf h.blk 3 rfl
  have hq : w.cell? ⟨m, 2, none⟩ = some (.int .i64 S.c.quota) := cellOf h.blk 2 rfl
  have ho : w.cell? ⟨m, 4, none⟩ = some (.int .i64 S.c.slots) := cellOf h.blk 4 rfl
  unfold Kn.may
  cases dA : decide ((({ k with s := s } : Kn).counts S.c.room).s = s)
  · exact ⟨fun _ => see1_a bm bs m _ _ _ k s w hs hm hr hq ho dA, by simp⟩
  cases dB : decide (k.s.gone ≤ s.gone ∧ s.gone ≤ wrap64 (8 * k.came))
  · exact ⟨fun _ => see1_b bm bs m _ _ _ k s w hs hm hr hq ho dA dB, by simp⟩
  cases dC : decide (0 ≤ s.queued ∧ s.queued ≤ S.c.slots)
  · exact ⟨fun _ => see1_c bm bs m _ _ _ k s w hs hm hr hq ho dA dB dC, by simp⟩
  cases dD : decide (0 ≤ s.frames ∧ s.frames ≤ S.c.quota)
  · exact ⟨fun _ => see1_d bm bs m _ _ _ k s w hs hm hr hq ho dA dB dC dD, by simp⟩
  cases dE : decide (s.pictures < k.s.pictures)
  · have dE' : decide (k.s.pictures ≤ s.pictures) = true := by simp at dE ⊢; omega
    cases dF : (k.s.cause != 0)
    · have dF' : (k.s.cause == 0) = true := by simpa using dF
      rw [dE', dF']
      exact ⟨by simp, fun _ => see1_h bm bs m _ _ _ k s w hs hm hr hq ho dA dB dC dD dE dF⟩
    · have dF' : (k.s.cause == 0) = false := by simpa using dF
      cases dG : (s.cause != k.s.cause)
      · have dG' : (s.cause == k.s.cause) = true := by simpa using dG
        rw [dE', dF', dG']
        exact ⟨by simp, fun _ => see1_g bm bs m _ _ _ k s w hs hm hr hq ho dA dB dC dD dE dF dG⟩
      · have dG' : (s.cause == k.s.cause) = false := by simpa using dG
        rw [dE', dF', dG']
        exact ⟨fun _ => see1_f bm bs m _ _ _ k s w hs hm hr hq ho dA dB dC dD dE dF dG, by simp⟩
  · have dE' : decide (k.s.pictures ≤ s.pictures) = false := by simp at dE ⊢; omega
    rw [dE']
    exact ⟨fun _ => see1_e bm bs m _ _ _ k s w hs hm hr hq ho dA dB dC dD dE, by simp⟩

set_option maxHeartbeats 800000 in
theorem see_any {m t tb lb : Nat} {S : MS} {w : World} (h : ModelAt w m t tb lb S) (hV : Valid S) (id : Int) (s : St) :
    Calls Tryz.prog 21 #[.pointer (some ⟨m, 0, none⟩), .int .i64 id, s.val] w fun e w' =>
      e = .returned (.int .i64 (S.see id s).1) ∧ Left lb w w' m t tb (S.see id s).2 := by
  obtain ⟨W, hW⟩ : ∃ W, (w.alloc (.cells #[.pointer (some ⟨m, 0, none⟩)] 25)).alloc (.cells #[.int .i64 s.cause, .int .i64 s.queued, .int .i64 s.left, .int .i64 s.free, .int .i64 s.frames, .int .i64 s.pictures, .int .i64 s.gone] 35) = W := ⟨_, rfl⟩
  have hk0 : Keeps [] w W := by rw [← hW]; exact ((Keeps.refl _ _).alloc _).alloc _
  have hM := h.keep hk0 (by simp) (by simp) (by simp) (by simp)
  have hbm : W.heap[w.heap.size]? = some (.cells #[.pointer (some ⟨m, 0, none⟩)] 25 (0, 0)) := by rw [← hW]; exact (Below.heap_alloc _ _ _ (by simp)).trans (heap_new _ _)
  have hbs : W.heap[w.heap.size + 1]? = some (.cells #[.int .i64 s.cause, .int .i64 s.queued, .int .i64 s.left, .int .i64 s.free, .int .i64 s.frames, .int .i64 s.pictures, .int .i64 s.gone] 35 (0, 0)) := by rw [← hW]; exact heap_new_at _ (by simp)
  have hfin : ∀ (e : Int) (S' : MS) (w' : World), S.see id s = (e, S') → Left lb W w' m t tb S' → Left lb w w' m t tb (S.see id s).2 := by
    intro e S' w' hs hl
    rw [hs]
    exact ⟨(hk0.mono (by simp)).trans hl.1, hl.2⟩
  have key : Calls Tryz.prog 43 #[.pointer (some ⟨m, 0, none⟩), .int .i64 id, .int .i64 0, .func (.func 44) #[] #[.pointer (some ⟨w.heap.size + 1, 0, none⟩), .pointer (some ⟨w.heap.size, 0, none⟩)]] W fun e w' =>
      e = .returned (.tuple #[.int .i64 0, .int .i64 (S.see id s).1]) ∧ Left lb w w' m t tb (S.see id s).2 := by
    rcases hV.cases id with hr | ⟨hr, k, hk, -, hc⟩
    · have hs : S.see id s = (refusal S.l id, S) := by simp [MS.see, hr]
      refine (askint_refused hM hV.s1 id 0 _ hr).mono ?_
      rintro e w' ⟨rfl, hk1⟩
      exact ⟨by rw [hs], hfin _ _ _ hs (Left.same hM hk1)⟩
    · have hg := MS.get_of hV.nodup hk
      have hw : ∀ w1, Keeps [] W w1 → _ := fun w1 (hk1 : Keeps [] W w1) => ask_see k s w1 (hM.keep hk1 (by simp) (by simp) (by simp) (by simp)) (hk1.blk hbs (by simp)) (cellOf (hk1.blk hbm (by simp)) 0 rfl)
      by_cases hm : k.may S.c s = true
      · have hs : S.see id s = (0, S.set id (({ k with s := s } : Kn).counts S.c.room)) := by simp [MS.see, hr, hg, hm]
        refine (askint_yes hM hV.s1 id 0 k hV.nodup hk hc 44 _ (enters_of Tryz.func44 (by kernel_rfl) rfl) (({ k with s := s } : Kn).counts S.c.room) 0 ?_).mono ?_
        · intro w1 hk1; exact (hw w1 hk1).2 hm
        · rintro e w' ⟨rfl, hk1, hI⟩
          exact ⟨by rw [hs], hfin _ _ _ hs (Left.put hM hV hk hk1 hI)⟩
      · have hm' : k.may S.c s = false := by simpa using hm
        have hs : S.see id s = (2, S) := by simp [MS.see, hr, hg, hm']
        refine (askint_no hM hV.s1 id 0 k hV.nodup hk hc 44 _ (enters_of Tryz.func44 (by kernel_rfl) rfl) { k with s := s } 0 2 (by decide) ?_).mono ?_
        · intro w1 hk1; exact (hw w1 hk1).1 hm'
        · rintro e w' ⟨rfl, hk1⟩
          exact ⟨by rw [hs], hfin _ _ _ hs (Left.same hM hk1)⟩
  have HK := Lib.hid key
  clear key hfin hbm hbs hM hV h hk0
  subst hW
  go_enter Tryz.func21, Tryz.ntmps21
  go_wp2_with (go_at_call 43; refine (HK.out).mono ?_; rintro e w1 ⟨rfl, hk⟩)
  go_ret
  exact ⟨rfl, hk⟩

end Go.Proofs.YthjghcfnopancaaGreat
