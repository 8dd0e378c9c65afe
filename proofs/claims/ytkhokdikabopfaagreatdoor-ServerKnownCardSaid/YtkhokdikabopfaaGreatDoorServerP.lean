/-
  Server: the iterator of live sessions; victim and Press where nobody holds a frame.
-/
import Derived.Test.YtkhokdikabopfaaGreatDoorServerI
import Derived.Test.YtkhokdikabopfaaGreatDoorSessionB
import Derived.Test.YtkhokdikabopfaaGreatDoorSessionF
namespace Go.Proofs.YtkhokdikabopfaaGreatDoor
open Go.RowKit Go.Shelf Go.Maps

set_option maxRecDepth 100000 in
set_option maxHeartbeats 2000000 in
/-- The iterator of live sessions: all of them, ascending. -/
theorem all_gives {P : SrvP} {c : Cf} {last : Int} {l : List (Int × Int)} {L : List Sess} (hc : c.ok) (hO : VOk last l L) (Bn : Nat) (wa : World)
    (hBa : wa.heap[Bn]? = some (.cells #[.pointer (some ⟨P.s, 0, none⟩)] 22 (0, 0))) (hSa : SrvAt wa P c last l L) :
    Gives Tryz.prog 82 #[.pointer (some ⟨Bn, 0, none⟩)] (fun z : Sess => #[.int .i64 z.id, .pointer (some ⟨z.k, 0, none⟩)]) (fun pre z => pre ++ [z] <+: L) (fun xs => xs = L) (fun pre => pre <+: L) [] [Bn, P.s, P.cb] wa := by
  intro lp base C0 J Jx w0 hka hbase hR hJ _ hC0 hY h0
  have hB := hka.blk hBa (by simp)
  have hS := hSa.on hka
  clear hBa hSa hka
  refine (callsIn_wide (n := 9)).1 ?_
  have cB : w0.cell? ⟨Bn, 0, none⟩ = some (.pointer (some ⟨P.s, 0, none⟩)) := cellOf hB 0 rfl
  obtain ⟨c1, c2, c3, c4, c5, c6, c7⟩ := hS.c
  have hL := live_any hS.tbl (by have := hc.s.1; omega) hO.rise
  have hfew := hO.few
  have HO := Lib.hid hO
  have HS := Lib.hid hS
  have HB := Lib.hid hB
  have HC := Lib.hid hC0
  have HR := Lib.hid hR
  rw [← hO.live] at hL
  clear hS hB hC0 hR hO hc
  have hJn : ∀ w1, Keeps [] w0 w1 → J C0 [] w1 := fun w1 hb => hJ C0 [] w0 w1 h0 hb.os hb.tape hb.output hb.size (fun k hk _ => hb.block k hk (by simp))
  have hJn := Lib.hid hJn
  have hL := hL.mono (R' := fun e w' => ∃ a cap, e = .returned (.slice a L.length cap) ∧ (∀ (i : Nat) (z : Sess), L[i]? = some z → ∃ g, a = some ⟨g, 0, none⟩ ∧ w0.heap.size ≤ g ∧ w'.cell? ⟨g, i, none⟩ = some (Value.int .i64 z.id)) ∧ Keeps [] w0 w') (by
    rintro e w' ⟨v, rfl, hrow, -, hk⟩
    by_cases hl0 : L.length = 0
    · obtain rfl : L = [] := List.length_eq_zero_iff.1 hl0
      rcases hrow.2 with ⟨rfl, -⟩ | ⟨g, cap, cur, rfl, -⟩
      · exact ⟨none, 0, rfl, fun i z hz => by simp at hz, hk⟩
      · exact ⟨_, _, rfl, fun i z hz => by simp at hz, hk⟩
    · obtain ⟨g, cap, cur, rfl, h1, h2, h3, h4, h5⟩ := ownsRow_at hrow (by simp; omega)
      exact ⟨_, cap, by simp, fun i z hz => ⟨g, rfl, h1, cellOf h2 i (h5 i _ (by simp [hz]))⟩, hk⟩)
  have HL := Lib.hid hL
  clear hL
  refine callsIn_of_wp Tryz.func82 rfl trivial ?_ rfl
  simp only [Tryz.ntmps82, List.size_toArray, List.length_cons, List.length_nil, Nat.reduceAdd, Nat.reduceSub, Array.replicate_succ, Array.replicate_zero, List.push_toArray, List.append_toArray, List.nil_append, List.cons_append]
  have hfK : Fence.wide.fn 52 := trivial
  gi_wp2_with (gi_at_call 52; refine (callsIn_wide.2 HL.out).mono ?_; rintro e w1 ⟨a, cap, rfl, hrow, hk1⟩)
  have hrow := Lib.hid hrow
  have hs := hk1.size
  gi_loopw [11] (fun i wr => ∃ (k : Nat) (C : List Nat), k ≤ L.length ∧ i = .int .i64 k ∧ (∀ c ∈ C, c < wr.heap.size ∧ c ∉ [Bn, P.s, P.cb]) ∧ J C (L.take k) wr ∧
      wr.heap[Bn]? = some (.cells #[.pointer (some ⟨P.s, 0, none⟩)] 22 (0, 0)) ∧ wr.cell? ⟨P.s, 7, none⟩ = some (.map (some P.cb)) ∧ IMap wr P.cb (cmap L) ∧
      ∀ (i : Nat) (z : Sess), L[i]? = some z → ∃ g, a = some ⟨g, 0, none⟩ ∧ g ∉ C ∧ wr.cell? ⟨g, i, none⟩ = some (Value.int .i64 z.id))
    (fun i _ => L.length - (intOf i).toNat)
  case atStart =>
    refine ⟨0, C0, by omega, rfl, fun c hc => ⟨Nat.lt_of_lt_of_le (HC.out c hc).1 hk1.size, (HC.out c hc).2⟩, hJn.out _ hk1, hk1.blk HB.out (by simp), (HS.out.on hk1).c.2.2.2.2.2.2, HS.out.cl.keep hk1 (by simp), fun i z hz => ?_⟩
    obtain ⟨g, h1, h2, h3⟩ := hrow.out i z hz
    exact ⟨g, h1, fun hm => by have := (HC.out g hm).1; omega, h3⟩
  case round =>
    obtain ⟨k, C, hk, rfl, hC, hJp, hBr, h7, hM, hr⟩ := hrel
    have hBr := Lib.hid hBr
    have hC := Lib.hid hC
    have hr := Lib.hid hr
    have cB : wr.cell? ⟨Bn, 0, none⟩ = some (.pointer (some ⟨P.s, 0, none⟩)) := cellOf hBr.out 0 rfl
    by_cases hlt : k < L.length
    · have hz : L[k]? = some L[k] := List.getElem?_eq_getElem hlt
      obtain ⟨g, rfl, hgC, hcg⟩ := hr.out k _ hz
      have hm : L[k] ∈ L := List.getElem_mem hlt
      have hlk := (run_lookup_yes (P := Tryz.prog) Tryz.underlying47 Tryz.underlying3 hM (look_cl HO.out.nodup hm)).1
      have hnext : L.take k ++ [L[k]] <+: L := by
        rw [← List.take_succ_eq_append_getElem hlt]; exact List.take_prefix _ _
      have htk := List.take_succ_eq_append_getElem hlt
      have Hn := Lib.hid hnext
      have Htk := Lib.hid htk
      have hM := Lib.hid hM
      clear hnext htk hz hm
      obtain ⟨fn, tmps, assign, body, hy, hR⟩ := hY C (L.take k) L[k] wr hJp (fun c hc => (hC.out c hc).1) Hn.out (9 - 1)
      generalize L[k] = z at *
      gi_wp2
      refine hR.mono ?_
      rintro e W3 ⟨C', hg', hk3, (⟨rfl, hJ3⟩ | ⟨rfl, hJx3⟩)⟩
      · have hn : ∀ c ∈ C', c ∉ [Bn, P.s, P.cb] := fun c hc hm => by
          rcases (hg' c hc).1 with h | h
          · exact (hC.out c h).2 hm
          · simp only [List.mem_cons, List.not_mem_nil, or_false] at hm
            have h1 := ltOf hBr.out
            have h2 : P.s < wr.heap.size := World.block_lt_of_cell? _ _ h7
            have h3 := hM.out.lt
            omega
        have hnC : ∀ x ∈ [Bn, P.s, P.cb], x ∉ C := fun x hx hm => (hC.out x hm).2 hx
        have h7' := hk3.cell h7 (hnC P.s (by simp))
        have hrr : Hid (∀ (i : Nat) (z : Sess), L[i]? = some z → ∃ g', (some ⟨g, 0, none⟩ : Option Addr) = some ⟨g', 0, none⟩ ∧ g' ∉ C' ∧ W3.cell? ⟨g', i, none⟩ = some (Value.int .i64 z.id)) := Lib.hid fun i y hy => by
          obtain ⟨g', e, h1, h2⟩ := hr.out i y hy
          refine ⟨g', e, fun hm => ?_, hk3.cell h2 h1⟩
          rcases (hg' g' hm).1 with h | h
          · exact h1 h
          · have := World.block_lt_of_cell? _ _ h2; simp only at this; omega
        have hn := Lib.hid hn
        have hg' := Lib.hid hg'
        gi_wp2
        go_roundw
        case rel =>
          exact ⟨k + 1, C', by omega, by go_num, fun c hc => ⟨(hg'.out c hc).2, hn.out c hc⟩, by rw [Htk.out]; exact hJ3, hk3.blk hBr.out (hnC Bn (by simp)), h7', hM.out.keep hk3 (hnC P.cb (by simp)), hrr.out⟩
        case measure => simp [intOf]; omega
      · gi_wp2
        refine bodyPost_ret (results_none rfl _ _ _) rfl ?_
        exact ⟨⟨_, rfl⟩, C', .inr ⟨_, Hn.out, hJx3⟩⟩
    · gi_wp2
      go_end0
      refine ⟨⟨_, rfl⟩, C, .inl ⟨_, ?_, hJp⟩⟩
      rw [List.take_of_length_le (by omega)]

theorem all_calls (s : Nat) (w : World) : CallsIn Fence.wide 9 Tryz.prog 64 #[.pointer (some ⟨s, 0, none⟩)] w fun e w' =>
    e = .returned (.func (.func 82) #[] #[.pointer (some ⟨w.heap.size, 0, none⟩)]) ∧ w' = w.alloc (.cells #[.pointer (some ⟨s, 0, none⟩)] 22) := by
  refine callsIn_of_wp Tryz.func64 rfl trivial ?_ rfl
  simp only [Tryz.ntmps64, List.size_toArray, List.length_cons, List.length_nil, Nat.reduceAdd, Nat.reduceSub, Array.replicate_succ, Array.replicate_zero, List.push_toArray, List.append_toArray, List.nil_append, List.cons_append]
  gi_wp2
  go_ret
  exact ⟨rfl, rfl⟩

theorem field_status (a0 a1 a2 a3 a4 a5 a6 : Value) (w : World) : (Instr.field 31 (.agg #[a0, a1, a2, a3, a4, a5, a6]) 4).run Tryz.prog w = .ok a4 w := by kernel_rfl

theorem res_vn {fn : Func} {p : Tmp} {tp : TypeId} (h : fn.results = #[.cell p tp]) {tmps : Array Value} {w : World} {b : Nat} {u : Value} (h1 : ∀ w, (isAgg tp).run Tryz.prog w = .ok false w)
    (hp : tmps.getD p undef = .pointer (some ⟨b, 0, none⟩)) (hb : w.cell? ⟨b, 0, none⟩ = some u) :
    (results fn tmps).run Tryz.prog w = .ok u w := res_v h hp (load_plain h1 hb)

set_option maxRecDepth 100000 in
set_option maxHeartbeats 2000000 in
theorem vvictim {P : SrvP} {c : Cf} {last : Int} {l : List (Int × Int)} {L : List Sess} {w : World} (h : SrvAt w P c last l L) (hc : c.ok) (hO : VOk last l L) :
    Calls Tryz.prog 38 #[.pointer (some ⟨P.s, 0, none⟩)] w fun e w' => e = .returned (.int .i64 0) ∧ Keeps [] w w' := by
  obtain ⟨w2, hw2⟩ : ∃ w2, w2 = ((w.alloc (.cells #[.int .i64 0] 3)).alloc (.cells #[.int .i64 0] 3)).alloc (.cells #[.pointer (some ⟨P.s, 0, none⟩)] 22) := ⟨_, rfl⟩
  have hk2 : Keeps [] w w2 := by rw [hw2]; exact (((Keeps.refl _ _).alloc _).alloc _).alloc _
  have hk0 : Keeps [] (((w.alloc (.cells #[.int .i64 0] 3)).alloc (.cells #[.int .i64 0] 3)).alloc (.cells #[.pointer (some ⟨P.s, 0, none⟩)] 22)) w2 := by rw [hw2]; exact Keeps.refl _ _
  obtain ⟨b0, b1, b2, -⟩ := hk0.new3 (by simp) (by simp) (by simp)
  have hsz : w2.heap.size = w.heap.size + 3 := by rw [hw2]; simp
  have H := Lib.hid (h.on hk2)
  have hu := h.under.1
  have hG := all_gives hc hO (w.heap.size + 2) w2 b2 (h.on hk2)
  have B0 := Lib.hid b0
  have B1 := Lib.hid b1
  have HO := Lib.hid hO
  have hroom := hc.r
  have hslots := hc.o
  have hquota := hc.q
  have hw2 := Lib.hid hw2
  clear h hk0 b0 b1 b2 hO
  refine (callsIn_wide (n := 10)).1 ?_
  refine callsIn_of_wp_marks Tryz.func38 rfl trivial ?_ rfl
  simp only [Tryz.ntmps38, List.size_toArray, List.length_cons, List.length_nil, Nat.reduceAdd, Nat.reduceSub, Array.replicate_succ, Array.replicate_zero, List.push_toArray, List.append_toArray, List.nil_append, List.cons_append]
  have hf1 : Fence.wide.fn 64 := trivial
  have hf2 : Fence.wide.fn 82 := trivial
  have hf3 : Fence.wide.fn 30 := trivial
  have hsa := @Oper.semAt_some
  gi_wp2_with (gi_at_call 64; refine (all_calls _ _).mono ?_; rintro e w' ⟨rfl, rfl⟩)
  rw [← hw2.out]
  refine wp_range (gf := 82) (lb := #[.pointer (some ⟨w.heap.size + 2, 0, none⟩)]) rfl (enters_of Tryz.func82 (by kernel_rfl) rfl)
    hG (Keeps.refl _ _) (fun _ => rfl)
    (fun C pre W => C = [] ∧ Keeps [] w2 W) (fun _ _ _ _ => False) ?hI (fun _ _ _ _ _ h _ _ _ _ _ => h.elim)
    [] (by simp) (by intro k hk; simp at hk; omega) ⟨rfl, Keeps.refl _ _⟩
    (fun z a' _ => a' = { tmps := #[.pointer (some ⟨P.s, 0, none⟩), undef, .pointer (some ⟨w.heap.size, 0, none⟩), .pointer (some ⟨w.heap.size + 1, 0, none⟩), .int .i64 z.id, .pointer (some ⟨z.k, 0, none⟩), undef, .pointer (some ⟨P.s, 0, none⟩),
      .func (.func 82) #[] #[.pointer (some ⟨w.heap.size + 2, 0, none⟩)], .int .i64 z.id, .pointer (some ⟨z.k, 0, none⟩), undef, undef, undef, undef, undef, undef, undef, undef, undef, undef, undef, undef], defers := [] })
    (fun _ _ _ _ _ _ h _ _ => h) ?assign ?body ?done (fun _ _ _ _ _ _ _ _ h _ => h.elim)
  case hI =>
    rintro C pre W W' ⟨rfl, hk⟩ g1 g2 g3 g4 g5
    exact ⟨rfl, hk.of_old g1 g2 g3 g4 (fun k hk1 _ => g5 k (by have := hk.size; omega) (.inr ⟨hk1, by simp⟩))⟩
  case assign =>
    rintro lp C pre z W K ⟨rfl, hk⟩ hK
    gi_wp2
    exact hK _ _ (Keeps.refl _ _) rfl
  case body =>
    rintro lp C pre z a' W _ _ _ ⟨rfl, hk⟩ hlt hnext rfl
    have hz : z ∈ L := by obtain ⟨t, ht⟩ := hnext; rw [← ht]; simp
    have hS := H.out.on hk
    have hSz := (hS.sess z hz).1
    have k0 : W.cell? ⟨z.k, 0, none⟩ = some (.pointer (some ⟨z.x, 0, none⟩)) := cellOf hSz.k 0 rfl
    have hT := Lib.hid (sstatus hSz hS.pool (by omega) (by omega) (by omega) (by omega))
    have m0 := cellOf (hk.blk B1.out (by simp)) 0 rfl
    have hfd := fun w => field_status (.int .i64 z.cause) (.int .i64 0) (.int .i64 0) (.int .i64 c.room) (.int .i64 0) (.int .i64 0) (.int .i64 0) w
    have d0 : decide ((0 : Int) < 0) = false := by decide
    have hB1 : Hid (∀ W', Keeps [] W W' → W'.cell? ⟨w.heap.size + 1, 0, none⟩ = some (.int .i64 0)) := Lib.hid fun W' k => k.cell (hk.cell (cellOf B1.out 0 rfl) (by simp)) (by simp)
    clear hS hSz hnext hG
    gi_wp2_with (gi_at_call 30; refine (callsIn_wide.2 hT.out).inRound _ |>.mono ?_; rintro e W2 ⟨rfl, hk5⟩; have m1 := hB1.out W2 hk5)
    exact ⟨[], fun k hk => by simp at hk, hk5, rfl, hk.trans hk5⟩
  case done =>
    rintro D C xs W hD hn hxs ⟨rfl, hk⟩ hd
    have hb0 := hk.blk B0.out (by simp)
    have m0 := cellOf hb0 0 rfl
    have f0 := frees hb0 0
    have hb0 := Lib.hid hb0
    have hd := Lib.hid hd
    gi_wp2
    have hDn : D ≠ w.heap.size := by omega
    refine ⟨by simp, .inl ⟨_, _, rfl, run_takeDeferred (w := W.setCell _ _) ((Below.heap_setCell _ _ _ _ (fun e => hDn (by simpa using e))).trans hd.out), ?_⟩⟩
    have hW := blk_setCell hb0.out 0 (.int .i64 0)
    exact ⟨_, res_vn rfl (fun _ => by kernel_rfl) rfl (cellOf ((World.putObj_heap_other (by omega)).trans hW) 0 rfl), rfl, Keeps.putObj ((hk2.trans hk).setCell (fun h => absurd h (by simp)) _) (fun h => by omega)⟩

end Go.Proofs.YtkhokdikabopfaaGreatDoor
