/-
  Who is live, ascending: the iterator of a table, and Live, Room, Open.
-/
import Derived.Test.YtkhokdikabopfaaGreatDoorTable
import Derived.Test.YtkhokdikabopfaaGreatDoorRange
import Derived.Test.YtkhokdikabopfaaGreatDoorShelf
namespace Go.Proofs.YtkhokdikabopfaaGreatDoor
open Go.RowKit Go.Shelf Go.Maps

/-- A table's numbers are distinct ints, ascending. -/
structure Rising (l : List (Int × Int)) : Prop where
  lt : (l.map (·.1)).Pairwise (· < ·)
  wf : ∀ p ∈ l, (Lit.int .i64 p.1).wf = true
  len : l.length ≤ 2147483647
theorem Rising.nodup {l : List (Int × Int)} (h : Rising l) : (l.map (·.1)).Nodup := h.lt.imp (fun h e => by omega)
def liveIds (l : List (Int × Int)) : List Int := (l.filter (·.2 == 0)).map (·.1)

theorem sorts (m : Nat) : AnyZI.SortsIn Tryz.prog Tryz.sortedA_ren Fence.wide m :=
  ⟨fun blk off cap ss W hH hblk hsz => callsIn_wide.2 (AnyM.slices_Sort_int Tryz.sortA blk off cap ss W hH hblk hsz),
   fun p cap W => callsIn_wide.2 (AnyM.slices_Sort_int_none Tryz.sortA p cap W)⟩

theorem keys_calls (n : Nat) (mb : Option Nat) (W : World) : CallsIn Fence.wide n Tryz.prog 99 #[.map mb] W fun e w' =>
    e = .returned (.func (.func 123) #[] #[.pointer (some ⟨W.heap.size, 0, none⟩)]) ∧ w' = W.alloc (.cells #[.map mb] 108) :=
  AnyZI.keys_in Tryz.keysA Fence.wide n trivial rfl mb W

theorem field_entry (c : Int) (w : World) : (Instr.field 106 (.agg #[.int .i64 c]) 0).run Tryz.prog w = .ok (.int .i64 c) w := by kernel_rfl

theorem tmap_keys (l : List (Int × Int)) : (tmap l).map (·.1) = l.map (·.1) := by simp [tmap]

set_option maxHeartbeats 1000000 in
/-- slices.Sorted of what maps.Keys handed back. -/
theorem sorted_calls {l : List (Int × Int)} (hr : Rising l) (b mb : Nat) (w : World) (hM : IMap w mb (tmap l)) (hb : w.cell? ⟨b, 0, none⟩ = some (.map (some mb))) :
    CallsIn Fence.wide 7 Tryz.prog 98 #[.func (.func 123) #[] #[.pointer (some ⟨b, 0, none⟩)]] w fun e w' =>
      ∃ v, e = .returned v ∧ w'.ownsRow w.heap.size 3 1 v l.length (l.map (fun p => Value.int .i64 p.1)) ∧ (v = .slice none 0 0 ↔ l = []) ∧ Below w.heap.size w w' := by
  have hbw : b < w.heap.size := by
    have h := hb
    unfold World.cell? at h
    cases hh : w.heap[b]? with
    | none => simp [hh] at h
    | some o => exact (Array.getElem?_eq_some_iff.1 hh).1
  have hlen := hr.len
  obtain ⟨D0, hown, hperm, hsize⟩ := own_of_imap (H := Unit) (P := Tryz.prog) (K := 3) Tryz.underlying3 hM (by rw [tmap_keys]; exact hr.nodup) (by
    intro p hp; obtain ⟨q, hq, rfl⟩ := List.mem_map.1 hp; exact hr.wf q hq) (by simp [tmap, maxLen]; omega)
  have hbl := hown.lt
  have hseq : SeqGives Fence.wide 4 Tryz.prog 123 #[.pointer (some ⟨b, 0, none⟩)] encZ (fun ss => ss.Perm (intKeys D0)) (Maps.size D0) w :=
    AnyZI.keys_gives (ρ := Tryz.keysA_ren) { Tryz.keysA with } Fence.wide _ trivial rfl (by omega) b mb (tmap l).length D0 _ hbw hb hown
  have cS := AnyZI.sorted_in Tryz.sortedA Fence.wide 7 trivial trivial trivial trivial rfl (by omega) (sorts _) (enters_of Tryz.func122 (by kernel_rfl) rfl) 123 #[.pointer (some ⟨b, 0, none⟩)] trivial (enters_of Tryz.func123 (by kernel_rfl) rfl) (fun ss => ss.Perm (intKeys D0)) (Maps.size D0) (by rw [hsize]; simp [tmap, maxLen]; omega) (by rw [hsize]; simp [tmap]; omega) _ hseq
  refine cS.mono ?_
  rintro e w' ⟨v, ss, rfl, hS, hrow, hnil, hbel⟩
  have hsort : ss.mergeSort leI = l.map (·.1) := by
    have hp : ss.Perm (l.map (·.1)) := hS.trans (hperm.trans (by rw [tmap_keys]))
    rw [mergeSort_of_perm_i hp]
    exact List.mergeSort_of_pairwise (hr.lt.imp (fun h => by simp [leI]; omega))
  have hl1 : ss.length = l.length := by
    have := congrArg List.length hsort
    simpa using this
  refine ⟨v, rfl, ?_, ?_, hbel⟩
  · have h2 := hrow
    rw [hl1] at h2
    have h3 : (ss.mergeSort (fun x y => decide (x ≤ y))).map encZ = l.map (fun p => Value.int .i64 p.1) := by
      have : ss.mergeSort (fun x y => decide (x ≤ y)) = l.map (·.1) := hsort
      rw [this]; simp
    rw [h3] at h2
    exact h2
  · rw [hnil]
    constructor
    · rintro rfl; simpa using hl1.symm
    · rintro rfl; simpa using hl1

theorem liveIds_succ (l : List (Int × Int)) (k : Nat) (h : k < l.length) : liveIds (l.take (k + 1)) = liveIds (l.take k) ++ (if (l[k].2 == 0) = true then [l[k].1] else []) := by
  rw [List.take_succ_eq_append_getElem h]
  unfold liveIds
  rw [List.filter_append, List.map_append]
  by_cases e : (l[k].2 == 0) = true
  · simp [e]
  · have e' : (l[k].2 == 0) = false := by simpa using e
    simp [e']

theorem look_at {l : List (Int × Int)} (hn : (l.map (·.1)).Nodup) (k : Nat) (h : k < l.length) : look (tmap l) l[k].1 = some (.agg #[.int .i64 l[k].2]) := by
  rw [look_tmap]
  cases hq : l.find? (fun p => p.1 == l[k].1) with
  | none => have := List.find?_eq_none.1 hq _ (List.getElem_mem h); simp at this
  | some q =>
    have hq1 := List.mem_of_find?_eq_some hq
    have hq2 : q.1 = l[k].1 := by simpa using List.find?_some hq
    rw [nodup_fst hn hq1 (List.getElem_mem h) hq2]; rfl

theorem liveIds_mid {l : List (Int × Int)} (k : Nat) (h : k < l.length) (hc : (l[k].2 == 0) = true) : liveIds (l.take k) ++ [l[k].1] <+: liveIds l := by
  have h1 := liveIds_succ l k h
  rw [if_pos hc] at h1
  rw [← h1]
  have h2 : liveIds l = liveIds (l.take (k + 1)) ++ liveIds (l.drop (k + 1)) := by
    have h3 : l = l.take (k + 1) ++ l.drop (k + 1) := (List.take_append_drop _ _).symm
    have h4 := congrArg liveIds h3
    rw [h4]
    simp only [liveIds, List.filter_append, List.map_append]
  rw [h2]
  exact List.prefix_append _ _

set_option maxRecDepth 100000 in
set_option maxHeartbeats 2000000 in
/-- The iterator of live numbers: all of them, ascending. -/
theorem live_gives {l : List (Int × Int)} (hr : Rising l) (Bn t mb : Nat) (most last : Int) (wa : World)
    (hBa : wa.heap[Bn]? = some (.cells #[.pointer (some ⟨t, 0, none⟩)] 45 (0, 0))) (hTa : TblAt wa t mb most last l) :
    Gives Tryz.prog 97 #[.pointer (some ⟨Bn, 0, none⟩)] (fun x : Int => #[.int .i64 x]) (fun pre x => pre ++ [x] <+: liveIds l) (fun xs => xs = liveIds l) (fun pre => pre <+: liveIds l) [] [Bn, t, mb] wa := by
  intro lp base C0 J Jx w0 hka hbase hR hJ _ hC0 hY h0
  have hB := hka.blk hBa (by simp)
  have hT : TblAt w0 t mb most last l := ⟨hka.blk hTa.blk (by simp), hTa.map.keep hka (by simp)⟩
  clear hBa hTa hka
  refine (callsIn_wide (n := 9)).1 ?_
  have cB : w0.cell? ⟨Bn, 0, none⟩ = some (.pointer (some ⟨t, 0, none⟩)) := cellOf hB 0 rfl
  have c2 : w0.cell? ⟨t, 2, none⟩ = some (.map (some mb)) := cellOf hT.blk 2 rfl
  have HT := Lib.hid hT
  have HB := Lib.hid hB
  have HC := Lib.hid hC0
  have HR := Lib.hid hR
  clear hT hB hC0 hR
  refine callsIn_of_wp Tryz.func97 rfl trivial ?_ rfl
  simp only [Tryz.ntmps97, List.size_toArray, List.length_cons, List.length_nil, Nat.reduceAdd, Nat.reduceSub, Array.replicate_succ, Array.replicate_zero, List.push_toArray, List.append_toArray, List.nil_append, List.cons_append]
  have hM1 : IMap (w0.alloc (.cells #[.map (some mb)] 108)) mb (tmap l) := HT.out.map.alloc _
  have hb1 : (w0.alloc (.cells #[.map (some mb)] 108)).cell? ⟨w0.heap.size, 0, none⟩ = some (.map (some mb)) := cellOf (heap_new _ _) 0 rfl
  have cS := callsIn_wide (n := 9 - 1) |>.2 (callsIn_wide.1 (sorted_calls hr _ _ _ hM1 hb1))
  have hfK : Fence.wide.fn 99 := trivial
  have hfS : Fence.wide.fn 98 := trivial
  have hJn : ∀ w1, Below w0.heap.size w0 w1 → J C0 [] w1 := fun w1 hb => hJ C0 [] w0 w1 h0 hb.os hb.tape hb.output hb.size (fun k hk _ => hb.block k hk)
  by_cases hl : l = []
  · subst hl
    have HS := Lib.hid cS
    clear cS hM1 hb1
    gi_wp2_with (first
      | (gi_at_call 99; refine (keys_calls _ _ _).mono ?_; rintro e w' ⟨rfl, rfl⟩)
      | (gi_at_call 98; refine HS.out.mono ?_; rintro e w1 ⟨v, rfl, hrow, hnil, hbel⟩; obtain rfl : v = .slice none 0 0 := by simpa using hnil))
    gi_loopw [12] (fun i wr => i = .int .i64 0 ∧ J C0 [] wr) (fun _ _ => 0)
    case atStart => exact ⟨rfl, hJn _ (((Below.refl _ w0).alloc (Nat.le_refl _) _).trans (hbel.mono (by simp)))⟩
    case round =>
      obtain ⟨rfl, hJr⟩ := hrel
      gi_wp2
      go_end0
      exact ⟨⟨_, rfl⟩, C0, .inl ⟨[], by simp [liveIds], hJr⟩⟩
  · have hpos : 0 < l.length := List.length_pos_iff.2 hl
    replace cS := cS.mono (R' := fun e w' => ∃ g cap cur, e = .returned (.slice (some ⟨g, 0, none⟩) l.length cap) ∧ w0.heap.size < g ∧ w'.heap[g]? = some (.cells cur 3 (0, 0)) ∧ l.length ≤ cap ∧ cap ≤ maxLen ∧ (∀ (i : Nat) (x : Value), (l.map (fun p => Value.int .i64 p.1))[i]? = some x → cur[i]? = some x) ∧ Below w0.heap.size w0 w') (by
      rintro e w' ⟨v, rfl, hrow, hnil, hbel⟩
      obtain ⟨g, cap, cur, rfl, h1, h2, h3, h4, h5⟩ := ownsRow_at hrow hpos
      exact ⟨g, cap, cur, rfl, by simp at h1; omega, h2, h3, h4, h5, ((Below.refl _ w0).alloc (Nat.le_refl _) _).trans (hbel.mono (by simp))⟩)
    have HS := Lib.hid cS
    clear cS hM1 hb1
    gi_wp2_with (first
      | (gi_at_call 99; refine (keys_calls _ _ _).mono ?_; rintro e w' ⟨rfl, rfl⟩)
      | (gi_at_call 98; refine HS.out.mono ?_; rintro e w1 ⟨g, cap, cur, rfl, hg0, hg, hcap, hcm, hcur, hbel⟩))
    have hk1 : Keeps [] w0 w1 := Keeps.of_below hbel
    have hT1 : TblAt w1 t mb most last l := ⟨hk1.blk HT.out.blk (by simp), HT.out.map.keep hk1 (by simp)⟩
    have hB1 : w1.heap[Bn]? = some (.cells #[.pointer (some ⟨t, 0, none⟩)] 45 (0, 0)) := hk1.blk HB.out (by simp)
    have hgw := ltOf hg
    gi_loopw [12] (fun i wr => ∃ (k : Nat) (C : List Nat), k ≤ l.length ∧ i = .int .i64 k ∧ (∀ c ∈ C, c < wr.heap.size ∧ c ∉ [Bn, t, mb, g]) ∧ J C (liveIds (l.take k)) wr ∧ TblAt wr t mb most last l ∧
        wr.heap[Bn]? = some (.cells #[.pointer (some ⟨t, 0, none⟩)] 45 (0, 0)) ∧ wr.heap[g]? = some (.cells cur 3 (0, 0)))
      (fun i _ => l.length - (intOf i).toNat)
    case atStart =>
      refine ⟨0, C0, by omega, rfl, fun c hc => ⟨Nat.lt_of_lt_of_le (HC.out c hc).1 hk1.size, fun hm => ?_⟩, hJn _ hbel, hT1, hB1, hg⟩
      have h1 := HC.out c hc
      simp only [List.mem_cons, List.not_mem_nil, or_false] at hm h1
      rcases hm with rfl | rfl | rfl | rfl
      · exact h1.2 (.inl rfl)
      · exact h1.2 (.inr (.inl rfl))
      · exact h1.2 (.inr (.inr rfl))
      · omega
    case round =>
      obtain ⟨k, C, hk, rfl, hC, hJp, hTr, hBr, hgr⟩ := hrel
      clear hT1 hB1 hg hJn cB c2 h0
      have HTr := Lib.hid hTr
      have HBr := Lib.hid hBr
      have HCr := Lib.hid hC
      have Hgr := Lib.hid hgr
      have cB : wr.cell? ⟨Bn, 0, none⟩ = some (.pointer (some ⟨t, 0, none⟩)) := cellOf hBr 0 rfl
      have c2 : wr.cell? ⟨t, 2, none⟩ = some (.map (some mb)) := cellOf hTr.blk 2 rfl
      have hll := hr.len
      clear hTr hBr hgr hC
      by_cases hlt : k < l.length
      · have hck : wr.cell? ⟨g, k, none⟩ = some (.int .i64 l[k].1) := cellOf Hgr.out k (hcur k _ (by simp [hlt]))
        have hlk := (run_lookup_yes (P := Tryz.prog) Tryz.underlying108 Tryz.underlying3 HTr.out.map (look_at hr.nodup k hlt)).1
        have hfd := field_entry l[k].2 wr
        clear hcur
        by_cases hc : (l[k].2 == 0) = true
        · obtain ⟨fn, tmps, assign, body, hy, hR⟩ := hY C (liveIds (l.take k)) l[k].1 wr hJp (fun c hc => (HCr.out c hc).1) (liveIds_mid k hlt hc) (9 - 1)
          gi_wp2
          refine hR.mono ?_
          rintro e W3 ⟨C', hg', hk3, (⟨rfl, hJ3⟩ | ⟨rfl, hJx3⟩)⟩
          · gi_wp2
            go_roundw
            case rel =>
              have hn : ∀ c ∈ C', c ∉ [Bn, t, mb, g] := fun c hc hm => by
                rcases (hg' c hc).1 with h | h
                · exact (HCr.out c h).2 hm
                · simp only [List.mem_cons, List.not_mem_nil, or_false] at hm
                  have h1 := ltOf HBr.out
                  have h2 := ltOf HTr.out.blk
                  have h3 := HTr.out.map.lt
                  have h4 := ltOf Hgr.out
                  omega
              have hnC : ∀ x ∈ [Bn, t, mb, g], x ∉ C := fun x hx hm => (HCr.out x hm).2 hx
              refine ⟨k + 1, C', by omega, by go_num, fun c hc => ⟨(hg' c hc).2, hn c hc⟩, ?_, ⟨hk3.blk HTr.out.blk (hnC t (by simp)), HTr.out.map.keep hk3 (hnC mb (by simp))⟩, hk3.blk HBr.out (hnC Bn (by simp)), hk3.blk Hgr.out (hnC g (by simp))⟩
              rw [liveIds_succ l k hlt, if_pos hc]; exact hJ3
            case measure => simp [intOf]; omega
          · gi_wp2
            refine bodyPost_ret (results_none rfl _ _ _) rfl ?_
            exact ⟨⟨_, rfl⟩, C', .inr ⟨_, liveIds_mid k hlt hc, hJx3⟩⟩
        · have hc' : (l[k].2 == 0) = false := by simpa using hc
          gi_wp2
          refine ⟨fun _ h => (by cases h), ?_⟩
          gi_wp2
          go_roundw
          case rel =>
            refine ⟨k + 1, C, by omega, by go_num, HCr.out, ?_, HTr.out, HBr.out, Hgr.out⟩
            rw [liveIds_succ l k hlt, if_neg hc, List.append_nil]; exact hJp
          case measure => simp [intOf]; omega
      · gi_wp2
        go_end0
        refine ⟨⟨_, rfl⟩, C, .inl ⟨_, ?_, hJp⟩⟩
        rw [List.take_of_length_le (by omega)]

theorem live_calls (t : Nat) (w : World) : CallsIn Fence.wide 9 Tryz.prog 78 #[.pointer (some ⟨t, 0, none⟩)] w fun e w' =>
    e = .returned (.func (.func 97) #[] #[.pointer (some ⟨w.heap.size, 0, none⟩)]) ∧ w' = w.alloc (.cells #[.pointer (some ⟨t, 0, none⟩)] 45) := by
  refine callsIn_of_wp Tryz.func78 rfl trivial ?_ rfl
  simp only [Tryz.ntmps78, List.size_toArray, List.length_cons, List.length_nil, Nat.reduceAdd, Nat.reduceSub, Array.replicate_succ, Array.replicate_zero, List.push_toArray, List.append_toArray, List.nil_append, List.cons_append]
  gi_wp2
  go_ret
  exact ⟨rfl, rfl⟩

theorem info_int : (Tryz.prog.info? 3).map (fun i => (i.zero, i.size, i.bytes)) = some (some (.int .i64 0), 1, 8) := by kernel_rfl

set_option maxRecDepth 100000 in
set_option maxHeartbeats 2000000 in
/-- Live: a new slice of the live numbers. -/
theorem live_any {t mb : Nat} {most last : Int} {l : List (Int × Int)} {w : World} (h : TblAt w t mb most last l) (h1 : 1 ≤ most) (hr : Rising l) :
    Calls Tryz.prog 52 #[.pointer (some ⟨t, 0, none⟩)] w fun e w' => ∃ v, e = .returned v ∧ w'.ownsRow w.heap.size 3 1 v (liveIds l).length ((liveIds l).map (Value.int .i64)) ∧
      (v = .slice none 0 0 ↔ liveIds l = []) ∧ Keeps [] w w' := by
  have c0 : w.cell? ⟨t, 0, none⟩ = some (.int .i64 most) := cellOf h.blk 0 rfl
  have h0 : (most == 0) = false := by simp; omega
  have ht := ltOf h.blk
  have hmb := h.map.lt
  have H := Lib.hid h
  have HR := Lib.hid hr
  have hll := hr.len
  clear h hr
  obtain ⟨i0, hi, hz0, hz1, hz2⟩ := info_parts info_int
  refine (callsIn_wide (n := 10)).1 ?_
  refine callsIn_of_wp_marks Tryz.func52 rfl trivial ?_ rfl
  simp only [Tryz.ntmps52, List.size_toArray, List.length_cons, List.length_nil, Nat.reduceAdd, Nat.reduceSub, Array.replicate_succ, Array.replicate_zero, List.push_toArray, List.append_toArray, List.nil_append, List.cons_append]
  have hf1 : Fence.wide.fn 62 := trivial
  have hf2 : Fence.wide.fn 78 := trivial
  have hf3 : Fence.wide.fn 97 := trivial
  have hsa := @Oper.semAt_some
  gi_wp2_with (first
    | (gi_at_call 62; refine (callsIn_wide.2 (tnone_made _ most _ c0 h0)).mono ?_; rintro e w' ⟨rfl, rfl⟩)
    | (gi_at_call 78; refine (live_calls _ _).mono ?_; rintro e w' ⟨rfl, rfl⟩))
  have bO := Boxed.new w 35 (.slice none 0 0)
  have hW0 : Keeps [] w ((w.alloc (.cells #[.slice none 0 0] 35)).alloc (.cells #[.pointer (some ⟨t, 0, none⟩)] 45)) := ((Keeps.refl _ _).alloc _).alloc _
  refine wp_range (gf := 97) (lb := #[.pointer (some ⟨w.heap.size + 1, 0, none⟩)]) rfl (enters_of Tryz.func97 (by kernel_rfl) rfl)
    (live_gives HR.out (w.heap.size + 1) t mb most last _ (heap_new_at _ (by simp)) ⟨hW0.blk H.out.blk (by simp), H.out.map.keep hW0 (by simp)⟩) (Keeps.refl _ _) (fun _ => rfl)
    (fun C pre W => ∃ v, C = held w.heap.size v ∧ Boxed W w.heap.size 35 v ∧ W.ownsRow w.heap.size 3 1 v pre.length (pre.map (Value.int .i64)) ∧ (v = .slice none 0 0 ↔ pre = []) ∧ Keeps [] w W)
    (fun _ _ _ _ => False) ?hI (fun _ _ _ _ _ h _ _ _ _ _ => h.elim)
    (held w.heap.size (.slice none 0 0)) (by intro k hk; simp [held, Value.ownBlock] at hk; subst hk; simp; omega) (by intro k hk; simp at hk; rcases hk with rfl | rfl | rfl <;> simp <;> omega)
    ⟨_, rfl, bO.alloc _, World.ownsRow_nil _ _ _ _, by simp, hW0⟩
    (fun x a' _ => a' = { tmps := #[.pointer (some ⟨t, 0, none⟩), undef, .slice none 0 0, .pointer (some ⟨w.heap.size, 0, none⟩), .int .i64 x, .pointer (some ⟨t, 0, none⟩), .bool false, .pointer (some ⟨t, 0, none⟩),
      .func (.func 97) #[] #[.pointer (some ⟨w.heap.size + 1, 0, none⟩)], .int .i64 x, undef, undef, undef, undef, undef], defers := [] })
    (fun _ _ _ _ _ _ h _ _ => h) ?assign ?body ?done (fun _ _ _ _ _ _ _ _ h _ => h.elim)
  case hI =>
    rintro C pre W W' ⟨v, rfl, hv, hrow, hnil, hk⟩ g1 g2 g3 g4 g5
    obtain ⟨a1, a2⟩ := held_kept (W' := W') hv hrow (fun k hk1 hk2 => g5 k hk1 (.inl hk2))
    exact ⟨v, rfl, a1, a2, hnil, hk.of_old g1 g2 g3 g4 (fun k hk1 _ => g5 k (by have := hk.size; omega) (.inr ⟨by simp; omega, by simp⟩))⟩
  case assign =>
    rintro lp C pre x W K _ hK
    gi_wp2
    exact hK _ _ (Keeps.refl _ _) rfl
  case body =>
    rintro lp C pre x a' W _ _ _ ⟨v, rfl, hv, hrow, hnil, hk⟩ hlt hnext rfl
    have hc := hv.cell
    have hp : pre.length < l.length := by
      have h1 := hnext.length_le
      have h2 : (liveIds l).length ≤ l.length := by simp only [liveIds, List.length_map]; exact List.length_filter_le _ _
      simp at h1; omega
    have hks := hk.size
    have Hn := Lib.hid hnil
    have Hx := Lib.hid hnext
    clear hnil hnext c0
    gi_wp2_with (gi_at_builtin; refine wpListIn_append2 _ rfl _ _ 35 rfl w.heap.size 3 i0 (.int .i64 0) 1 8 Tryz.underlying35 hi hz0 hz1 hz2 rfl (by decide) _ _ _ rfl (hrow.alloc _) ⟨W.heap.size, 0, none⟩ 1 1 [.int .i64 x] rfl rfl (cell_one_new _ _ _) (by simp [Value.oneCell']) (by simp [maxLen]; omega) (by omega) (by simp; omega) ?_; intro v' w1 hown' hgrow _ hnew; obtain ⟨g', cap', rfl⟩ := ownsRow_succ hown'; obtain ⟨hv1, hv2, hr2, -, -⟩ := hv.appended (by decide) hrow hks (Nat.le_refl _) hown' hgrow; obtain ⟨hgr, hkp⟩ := appended2 hv hown' hgrow hnew; have hc1 := hv1.cell; have hf1 := hv1.frozen)
    exact ⟨_, hgr, hkp, _, rfl, hv2, by simpa using hr2, by simp, hk.trans' hkp (by intro i hi1 hi2; have := (mem_held.1 hi1); rcases this with rfl | h; omega; have := (hrow.lt i h).1; omega)⟩
  case done =>
    rintro D C xs W hD hn hxs ⟨v, rfl, hv, hrow, hnil, hk⟩ hd
    have hc := hv.cell
    subst hxs
    have hDB : D ≠ w.heap.size := fun e => hn (mem_held.2 (.inl e))
    gi_wp2
    refine ⟨by simp, .inl ⟨_, _, rfl, run_takeDeferred hd, ?_⟩⟩
    exact ⟨_, results_tmp rfl _ _ _, v, rfl, ownsRow_of hrow (fun g hg => World.putObj_heap_other (fun e => hn (mem_held.2 (.inr (e ▸ hg))))), hnil, Keeps.putObj hk (fun h => by simp at hD; omega)⟩

end Go.Proofs.YtkhokdikabopfaaGreatDoor
