/-
  See of a model: contract.
-/
import Derived.Test.YthjghcfnopancaaSeeA
namespace Go.Proofs.Ythjghcfnopancaa
open Go.RowKit Go.Shelf Go.Maps

set_option maxRecDepth 100000 in
set_option maxHeartbeats 2000000 in
theorem see1_a (bm bs m : Nat) (room quota slots : Int) (k : Kn) (s : St) (w : World) (hs : w.heap[bs]? = some (.cells #[.int .i64 s.cause, .int .i64 s.queued, .int .i64 s.left, .int .i64 s.free, .int .i64 s.frames, .int .i64 s.pictures, .int .i64 s.gone] 27 (0, 0)))
    (hm : w.cell? ⟨bm, 0, none⟩ = some (.pointer (some ⟨m, 0, none⟩))) (hr : w.cell? ⟨m, 3, none⟩ = some (.int .i64 room)) (hq : w.cell? ⟨m, 2, none⟩ = some (.int .i64 quota)) (ho : w.cell? ⟨m, 4, none⟩ = some (.int .i64 slots))
    (dA : decide ((({ k with s := s } : Kn).counts room).s = s) = false) :
    Calls Try.prog 25 #[k.val, .pointer (some ⟨bs, 0, none⟩), .pointer (some ⟨bm, 0, none⟩)] w fun e w' => e = .returned (.tuple #[({ k with s := s } : Kn).val, .int .i64 0, .int .i64 2]) ∧ Keeps [] w w' := by
  obtain ⟨a1, x, k0, k1, k2, k3, k4, k5, k6⟩ := k
  obtain ⟨s0, s1, s2, s3, s4, s5, s6⟩ := s
  simp only at *
  obtain ⟨z0, z1, z2, z3, z4, z5, z6⟩ := cells7 hs
  have y0 := ltOf hs
  have y1 := World.block_lt_of_cell? _ _ hm
  simp only at y1
  have y2 : bs < w.heap.size + 1 := by omega
  have y3 : bs < w.heap.size + 1 + 1 := by omega
  have y4 : bm < w.heap.size + 1 := by omega
  have y5 : bm < w.heap.size + 1 + 1 := by omega
  go_enter Try.func25, Try.ntmps25
  go_wp2_with fail
  clear z0 z1 z2 z3 z4 z5 z6 y0 y1 y2 y3 y4 y5
  refine (counts_any m room ⟨a1, x, ⟨s0, s1, s2, s3, s4, s5, s6⟩⟩ _ ?_).mono ?_
  · exact ((((Keeps.refl [] _).alloc _).alloc _).alloc _).cell hr (by simp)
  rintro e w1 ⟨rfl, hk⟩
  obtain ⟨b0, b1, b2, hk⟩ := hk.new3 (by simp) (by simp) (by simp)
  have B0 := Lib.hid b0
  have B1 := Lib.hid b1
  obtain ⟨p0, p1, p2, p3, p4, p5, p6, p7, p8⟩ := cells9 b0
  obtain ⟨r0, r1, r2, r3, r4, r5, r6, r7, r8⟩ := cells9 b1
  obtain ⟨q0, q1, q2, q3, q4, q5, q6⟩ := cells7 b2
  obtain ⟨t0, t1, t2, t3, t4, t5, t6⟩ := cells7 (hk.blk hs (by simp))
  have hm1 := hk.cell hm (by simp)
  have hq1 := hk.cell hq (by simp)
  have ho1 := hk.cell ho (by simp)
  have l0 := ltOf b0
  have l1 := ltOf b1
  have l2 := ltOf b2
  have l3 := ltOf (hk.blk hs (by simp))
  have l4 := World.block_lt_of_cell? _ _ hm1
  have l5 := World.block_lt_of_cell? _ _ hq1
  have fr := frees b1
  simp only at l4 l5
  clear b0 b1 b2 hs hr hm hq ho
  have hne := fun W => neq_status (({ came := a1, ended := x, s := ⟨s0, s1, s2, s3, s4, s5, s6⟩ } : Kn).counts room).s ⟨s0, s1, s2, s3, s4, s5, s6⟩ W
  simp only [dA] at hne
  clear dA
  go_wp2
  go_quiet ((go_at_call 27; exact Calls.quiet_of_same (within_q _ _ _ _)))
  go_wp2
  exact bodyPost_ret (res_ctt rfl agg_known rfl rfl rfl rfl (stored9 ((((Keeps.refl [] w1).alloc _).drewN _).blk B1.out (by simp)))) rfl ⟨rfl, ((hk.alloc _).drewN _).store9 (fun h => by omega)⟩

set_option maxRecDepth 100000 in
set_option maxHeartbeats 2000000 in
theorem see1_b (bm bs m : Nat) (room quota slots : Int) (k : Kn) (s : St) (w : World) (hs : w.heap[bs]? = some (.cells #[.int .i64 s.cause, .int .i64 s.queued, .int .i64 s.left, .int .i64 s.free, .int .i64 s.frames, .int .i64 s.pictures, .int .i64 s.gone] 27 (0, 0)))
    (hm : w.cell? ⟨bm, 0, none⟩ = some (.pointer (some ⟨m, 0, none⟩))) (hr : w.cell? ⟨m, 3, none⟩ = some (.int .i64 room)) (hq : w.cell? ⟨m, 2, none⟩ = some (.int .i64 quota)) (ho : w.cell? ⟨m, 4, none⟩ = some (.int .i64 slots))
    (dA : decide ((({ k with s := s } : Kn).counts room).s = s) = true) (dB : decide (k.s.gone ≤ s.gone ∧ s.gone ≤ wrap64 (8 * k.came)) = false) :
    Calls Try.prog 25 #[k.val, .pointer (some ⟨bs, 0, none⟩), .pointer (some ⟨bm, 0, none⟩)] w fun e w' => e = .returned (.tuple #[({ k with s := s } : Kn).val, .int .i64 0, .int .i64 2]) ∧ Keeps [] w w' := by
  obtain ⟨a1, x, k0, k1, k2, k3, k4, k5, k6⟩ := k
  obtain ⟨s0, s1, s2, s3, s4, s5, s6⟩ := s
  simp only at *
  obtain ⟨z0, z1, z2, z3, z4, z5, z6⟩ := cells7 hs
  have y0 := ltOf hs
  have y1 := World.block_lt_of_cell? _ _ hm
  simp only at y1
  have y2 : bs < w.heap.size + 1 := by omega
  have y3 : bs < w.heap.size + 1 + 1 := by omega
  have y4 : bm < w.heap.size + 1 := by omega
  have y5 : bm < w.heap.size + 1 + 1 := by omega
  go_enter Try.func25, Try.ntmps25
  go_wp2_with fail
  clear z0 z1 z2 z3 z4 z5 z6 y0 y1 y2 y3 y4 y5
  refine (counts_any m room ⟨a1, x, ⟨s0, s1, s2, s3, s4, s5, s6⟩⟩ _ ?_).mono ?_
  · exact ((((Keeps.refl [] _).alloc _).alloc _).alloc _).cell hr (by simp)
  rintro e w1 ⟨rfl, hk⟩
  obtain ⟨b0, b1, b2, hk⟩ := hk.new3 (by simp) (by simp) (by simp)
  have B0 := Lib.hid b0
  have B1 := Lib.hid b1
  obtain ⟨p0, p1, p2, p3, p4, p5, p6, p7, p8⟩ := cells9 b0
  obtain ⟨r0, r1, r2, r3, r4, r5, r6, r7, r8⟩ := cells9 b1
  obtain ⟨q0, q1, q2, q3, q4, q5, q6⟩ := cells7 b2
  obtain ⟨t0, t1, t2, t3, t4, t5, t6⟩ := cells7 (hk.blk hs (by simp))
  have hm1 := hk.cell hm (by simp)
  have hq1 := hk.cell hq (by simp)
  have ho1 := hk.cell ho (by simp)
  have l0 := ltOf b0
  have l1 := ltOf b1
  have l2 := ltOf b2
  have l3 := ltOf (hk.blk hs (by simp))
  have l4 := World.block_lt_of_cell? _ _ hm1
  have l5 := World.block_lt_of_cell? _ _ hq1
  have fr := frees b1
  simp only at l4 l5
  clear b0 b1 b2 hs hr hm hq ho
  have hne := fun W => neq_status (({ came := a1, ended := x, s := ⟨s0, s1, s2, s3, s4, s5, s6⟩ } : Kn).counts room).s ⟨s0, s1, s2, s3, s4, s5, s6⟩ W
  simp only [dA] at hne
  clear dA
  go_wp2
  go_quiet ((go_at_call 27; exact Calls.quiet_of_same (within_q _ _ _ _)))
  go_wp2
  exact bodyPost_ret (res_ctt rfl agg_known rfl rfl rfl rfl (stored9 ((((Keeps.refl [] w1).alloc _).drewN _).blk B1.out (by simp)))) rfl ⟨rfl, ((hk.alloc _).drewN _).store9 (fun h => by omega)⟩

set_option maxRecDepth 100000 in
set_option maxHeartbeats 2000000 in
theorem see1_c (bm bs m : Nat) (room quota slots : Int) (k : Kn) (s : St) (w : World) (hs : w.heap[bs]? = some (.cells #[.int .i64 s.cause, .int .i64 s.queued, .int .i64 s.left, .int .i64 s.free, .int .i64 s.frames, .int .i64 s.pictures, .int .i64 s.gone] 27 (0, 0)))
    (hm : w.cell? ⟨bm, 0, none⟩ = some (.pointer (some ⟨m, 0, none⟩))) (hr : w.cell? ⟨m, 3, none⟩ = some (.int .i64 room)) (hq : w.cell? ⟨m, 2, none⟩ = some (.int .i64 quota)) (ho : w.cell? ⟨m, 4, none⟩ = some (.int .i64 slots))
    (dA : decide ((({ k with s := s } : Kn).counts room).s = s) = true) (dB : decide (k.s.gone ≤ s.gone ∧ s.gone ≤ wrap64 (8 * k.came)) = true) (dC : decide (0 ≤ s.queued ∧ s.queued ≤ slots) = false) :
    Calls Try.prog 25 #[k.val, .pointer (some ⟨bs, 0, none⟩), .pointer (some ⟨bm, 0, none⟩)] w fun e w' => e = .returned (.tuple #[({ k with s := s } : Kn).val, .int .i64 0, .int .i64 2]) ∧ Keeps [] w w' := by
  obtain ⟨a1, x, k0, k1, k2, k3, k4, k5, k6⟩ := k
  obtain ⟨s0, s1, s2, s3, s4, s5, s6⟩ := s
  simp only at *
  obtain ⟨z0, z1, z2, z3, z4, z5, z6⟩ := cells7 hs
  have y0 := ltOf hs
  have y1 := World.block_lt_of_cell? _ _ hm
  simp only at y1
  have y2 : bs < w.heap.size + 1 := by omega
  have y3 : bs < w.heap.size + 1 + 1 := by omega
  have y4 : bm < w.heap.size + 1 := by omega
  have y5 : bm < w.heap.size + 1 + 1 := by omega
  go_enter Try.func25, Try.ntmps25
  go_wp2_with fail
  clear z0 z1 z2 z3 z4 z5 z6 y0 y1 y2 y3 y4 y5
  refine (counts_any m room ⟨a1, x, ⟨s0, s1, s2, s3, s4, s5, s6⟩⟩ _ ?_).mono ?_
  · exact ((((Keeps.refl [] _).alloc _).alloc _).alloc _).cell hr (by simp)
  rintro e w1 ⟨rfl, hk⟩
  obtain ⟨b0, b1, b2, hk⟩ := hk.new3 (by simp) (by simp) (by simp)
  have B0 := Lib.hid b0
  have B1 := Lib.hid b1
  obtain ⟨p0, p1, p2, p3, p4, p5, p6, p7, p8⟩ := cells9 b0
  obtain ⟨r0, r1, r2, r3, r4, r5, r6, r7, r8⟩ := cells9 b1
  obtain ⟨q0, q1, q2, q3, q4, q5, q6⟩ := cells7 b2
  obtain ⟨t0, t1, t2, t3, t4, t5, t6⟩ := cells7 (hk.blk hs (by simp))
  have hm1 := hk.cell hm (by simp)
  have hq1 := hk.cell hq (by simp)
  have ho1 := hk.cell ho (by simp)
  have l0 := ltOf b0
  have l1 := ltOf b1
  have l2 := ltOf b2
  have l3 := ltOf (hk.blk hs (by simp))
  have l4 := World.block_lt_of_cell? _ _ hm1
  have l5 := World.block_lt_of_cell? _ _ hq1
  have fr := frees b1
  simp only at l4 l5
  clear b0 b1 b2 hs hr hm hq ho
  have hne := fun W => neq_status (({ came := a1, ended := x, s := ⟨s0, s1, s2, s3, s4, s5, s6⟩ } : Kn).counts room).s ⟨s0, s1, s2, s3, s4, s5, s6⟩ W
  simp only [dA] at hne
  clear dA
  go_wp2
  go_quiet ((go_at_call 27; exact Calls.quiet_of_same (within_q _ _ _ _)))
  go_wp2
  exact bodyPost_ret (res_ctt rfl agg_known rfl rfl rfl rfl (stored9 ((((Keeps.refl [] w1).alloc _).drewN _).blk B1.out (by simp)))) rfl ⟨rfl, ((hk.alloc _).drewN _).store9 (fun h => by omega)⟩

set_option maxRecDepth 100000 in
set_option maxHeartbeats 2000000 in
theorem see1_d (bm bs m : Nat) (room quota slots : Int) (k : Kn) (s : St) (w : World) (hs : w.heap[bs]? = some (.cells #[.int .i64 s.cause, .int .i64 s.queued, .int .i64 s.left, .int .i64 s.free, .int .i64 s.frames, .int .i64 s.pictures, .int .i64 s.gone] 27 (0, 0)))
    (hm : w.cell? ⟨bm, 0, none⟩ = some (.pointer (some ⟨m, 0, none⟩))) (hr : w.cell? ⟨m, 3, none⟩ = some (.int .i64 room)) (hq : w.cell? ⟨m, 2, none⟩ = some (.int .i64 quota)) (ho : w.cell? ⟨m, 4, none⟩ = some (.int .i64 slots))
    (dA : decide ((({ k with s := s } : Kn).counts room).s = s) = true) (dB : decide (k.s.gone ≤ s.gone ∧ s.gone ≤ wrap64 (8 * k.came)) = true) (dC : decide (0 ≤ s.queued ∧ s.queued ≤ slots) = true) (dD : decide (0 ≤ s.frames ∧ s.frames ≤ quota) = false) :
    Calls Try.prog 25 #[k.val, .pointer (some ⟨bs, 0, none⟩), .pointer (some ⟨bm, 0, none⟩)] w fun e w' => e = .returned (.tuple #[({ k with s := s } : Kn).val, .int .i64 0, .int .i64 2]) ∧ Keeps [] w w' := by
  obtain ⟨a1, x, k0, k1, k2, k3, k4, k5, k6⟩ := k
  obtain ⟨s0, s1, s2, s3, s4, s5, s6⟩ := s
  simp only at *
  obtain ⟨z0, z1, z2, z3, z4, z5, z6⟩ := cells7 hs
  have y0 := ltOf hs
  have y1 := World.block_lt_of_cell? _ _ hm
  simp only at y1
  have y2 : bs < w.heap.size + 1 := by omega
  have y3 : bs < w.heap.size + 1 + 1 := by omega
  have y4 : bm < w.heap.size + 1 := by omega
  have y5 : bm < w.heap.size + 1 + 1 := by omega
  go_enter Try.func25, Try.ntmps25
  go_wp2_with fail
  clear z0 z1 z2 z3 z4 z5 z6 y0 y1 y2 y3 y4 y5
  refine (counts_any m room ⟨a1, x, ⟨s0, s1, s2, s3, s4, s5, s6⟩⟩ _ ?_).mono ?_
  · exact ((((Keeps.refl [] _).alloc _).alloc _).alloc _).cell hr (by simp)
  rintro e w1 ⟨rfl, hk⟩
  obtain ⟨b0, b1, b2, hk⟩ := hk.new3 (by simp) (by simp) (by simp)
  have B0 := Lib.hid b0
  have B1 := Lib.hid b1
  obtain ⟨p0, p1, p2, p3, p4, p5, p6, p7, p8⟩ := cells9 b0
  obtain ⟨r0, r1, r2, r3, r4, r5, r6, r7, r8⟩ := cells9 b1
  obtain ⟨q0, q1, q2, q3, q4, q5, q6⟩ := cells7 b2
  obtain ⟨t0, t1, t2, t3, t4, t5, t6⟩ := cells7 (hk.blk hs (by simp))
  have hm1 := hk.cell hm (by simp)
  have hq1 := hk.cell hq (by simp)
  have ho1 := hk.cell ho (by simp)
  have l0 := ltOf b0
  have l1 := ltOf b1
  have l2 := ltOf b2
  have l3 := ltOf (hk.blk hs (by simp))
  have l4 := World.block_lt_of_cell? _ _ hm1
  have l5 := World.block_lt_of_cell? _ _ hq1
  have fr := frees b1
  simp only at l4 l5
  clear b0 b1 b2 hs hr hm hq ho
  have hne := fun W => neq_status (({ came := a1, ended := x, s := ⟨s0, s1, s2, s3, s4, s5, s6⟩ } : Kn).counts room).s ⟨s0, s1, s2, s3, s4, s5, s6⟩ W
  simp only [dA] at hne
  clear dA
  go_wp2
  go_quiet ((go_at_call 27; exact Calls.quiet_of_same (within_q _ _ _ _)))
  go_wp2
  exact bodyPost_ret (res_ctt rfl agg_known rfl rfl rfl rfl (stored9 ((((Keeps.refl [] w1).alloc _).drewN _).blk B1.out (by simp)))) rfl ⟨rfl, ((hk.alloc _).drewN _).store9 (fun h => by omega)⟩

end Go.Proofs.Ythjghcfnopancaa
