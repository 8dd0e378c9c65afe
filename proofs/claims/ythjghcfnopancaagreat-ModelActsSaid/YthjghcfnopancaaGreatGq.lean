/-
  The iterator of victims: those that hold something, the next victim first.
-/
import Derived.Test.YthjghcfnopancaaGreatGp
import Derived.Test.YthjghcfnopancaaGreatGb
import Derived.RegionIn
import Derived.Test.YthjghcfnopancaaGreatGg
namespace Go.Proofs.YthjghcfnopancaaGreat
open Go.RowKit Go.Shelf Go.Maps HP PL

theorem some_take_succ (hs : List (Int × Int)) {j : Nat} {p : Int × Int} (h : hs[j]? = some p) : some' (hs.take (j + 1)) = some' (hs.take j) ++ (if 0 < p.2 then [p] else []) := by
  have hj := (List.getElem?_eq_some_iff.1 h).1
  have e : hs[j] = p := by rw [List.getElem?_eq_getElem hj] at h; simpa using h
  rw [List.take_succ_eq_append_getElem hj, e]
  unfold some'
  rw [List.filter_append]
  by_cases hp : 0 < p.2
  · simp [hp]
  · simp [hp]

theorem run_ta (p : Int × Int) (w : World) : (Instr.typeAssert (.iface 93 (.agg #[.int .i64 p.1, .int .i64 p.2])) 20 93 false).run Tryz.prog w = .ok (.agg #[.int .i64 p.1, .int .i64 p.2]) w := by kernel_rfl

/-- How many holders are left. -/
def restLen (B : Nat) (w : World) : Nat := match w.cell? ⟨B, 0, none⟩ with | some (.slice _ n _) => n | _ => 0

/-- Between two yields. -/
structure VictR (base : Nat) (B : Nat) (hs : List (Int × Int)) (J : List Nat → List (Int × Int) → World → Prop) (wr : World) (pre : List (Int × Int)) (C : List Nat) (ys : List (Int × Int)) (v : Value) : Prop where
  j : J C pre wr
  c : ∀ c ∈ C, c < wr.heap.size ∧ c ≠ B ∧ v.ownBlock ≠ some c
  blk : wr.heap[B]? = some (.cells #[v] 114 (0, 0))
  row : wr.ownsRow (B + 1) 93 2 v ys.length (hcells ys)
  hp : Hp hlt ys ys.length
  eq : pre ++ srt ys = srt (some' hs)
  base : base ≤ B
  few : ys.length ≤ 64

set_option maxRecDepth 100000 in
set_option maxHeartbeats 4000000 in
theorem vict_gives {hs : List (Int × Int)} (hl : hs.length ≤ 64) (Bl : Nat) (a : Option Addr) (cap : Nat) (wa : World)
    (hBa : wa.heap[Bl]? = some (.cells #[.slice a hs.length cap] 91 (0, 0))) (hra : HRow wa a hs) :
    Gives Tryz.prog 73 #[.pointer (some ⟨Bl, 0, none⟩)] (fun p : Int × Int => #[.int .i64 p.1, .int .i64 p.2]) (fun pre p => pre ++ [p] <+: srt (some' hs)) (fun xs => xs = srt (some' hs)) (fun pre => pre <+: srt (some' hs)) [] [Bl] wa := by
  intro lp base C0 J Jx w0 hka hbase hR hJ _ hC0 hY h0
  have hB := hka.blk hBa (by simp)
  have hr := hra.on hka
  clear hBa hra hka
  refine (callsIn_wide (n := 9)).1 ?_
  have HB := Lib.hid hB
  have HR := Lib.hid hr
  have HC := Lib.hid hC0
  have hBl := ltOf hB
  clear hB hC0 hr hR
  refine callsIn_of_wp Tryz.func73 rfl trivial ?_ rfl
  simp only [Tryz.ntmps73, List.size_toArray, List.length_cons, List.length_nil, Nat.reduceAdd, Nat.reduceSub, Array.replicate_succ, Array.replicate_zero, List.push_toArray, List.append_toArray, List.nil_append, List.cons_append]
  have hfP : Fence.wide.fn 74 := trivial
  have hfO : Fence.wide.fn 75 := trivial
  have cB : ∀ o, (w0.alloc o).cell? ⟨Bl, 0, none⟩ = some (.slice a hs.length cap) := fun o => ((Keeps.refl [] w0).alloc o).cell (cellOf HB.out 0 rfl) (by simp)
  gi_wp2
  have hst : HoldI w0 w0.heap.size (w0.heap.size + 1) [] (w0.alloc (.cells #[.slice none 0 0] 114)) [] :=
    ⟨_, heap_new _ _, World.ownsRow_nil _ _ _ _, (Keeps.refl _ _).alloc _, by omega, by simp, by omega, by simp [Value.ownBlock], by simp⟩
  have hst := Lib.hid hst
  gi_loopw [9] (fun i wr => ∃ (j : Nat) (ys : List (Int × Int)), j ≤ hs.length ∧ i = .int .i64 j ∧ HoldI w0 w0.heap.size (w0.heap.size + 1) [] wr ys ∧ Hp hlt ys ys.length ∧ ys.Perm (some' (hs.take j)))
    (fun i _ => hs.length - (intOf i).toNat)
  case atStart => exact ⟨0, [], by omega, rfl, hst.out, fun k h1 h2 => by simp at h2, by simp [some']⟩
  case round =>
    obtain ⟨j, ys, hj, rfl, hI, hhp, hperm⟩ := hrel
    have hI := Lib.hid hI
    have hhp := Lib.hid hhp
    have hperm := Lib.hid hperm
    have hk0 : Keeps [] w0 wr := by obtain ⟨v, h⟩ := hI.out; exact h.keep
    by_cases hlt : j < hs.length
    · obtain ⟨p, hp⟩ : ∃ p, hs[j]? = some p := ⟨_, List.getElem?_eq_getElem hlt⟩
      obtain ⟨g, rfl, c0, c1⟩ := (HR.out.on hk0) j p hp
      have hst := some_take_succ hs hp
      have hyl : ys.length ≤ 64 := by
        have h1 := hperm.out.length_eq
        have h2 : (some' (hs.take j)).length ≤ (hs.take j).length := List.length_filter_le _ _
        simp at h2; omega
      clear hp
      by_cases h0p : 0 < p.2
      · have d := decide_eq_true h0p
        rw [if_pos h0p] at hst
        have hst := Lib.hid hst
        have hIa : HoldI w0 w0.heap.size (w0.heap.size + 1) [] (wr.alloc (.cells #[.int .i64 p.1, .int .i64 p.2] 93)) ys := by
          obtain ⟨v, h⟩ := hI.out
          exact ⟨v, h.keeps ((Keeps.refl _ _).alloc _)⟩
        have hP := Lib.hid (hpush (hold_heaps w0 w0.heap.size (w0.heap.size + 1) []) hlt_strict hIa p (by omega) hhp.out)
        clear h0p hIa
        gi_wp2_with (gi_at_call 74; refine (callsIn_wide.2 hP.out).mono ?_; rintro e w2 ⟨rfl, zs, hI2, -, hp2, hh2⟩; have hI2 := Lib.hid hI2; have hp2 := Lib.hid hp2; have hh2 := Lib.hid hh2)
        go_roundw
        case rel => exact ⟨j + 1, zs, by omega, by go_num, hI2.out, hh2.out, by rw [hst.out]; exact hp2.out.trans (hperm.out.append_right _)⟩
        case measure => simp [intOf]; omega
      · have d := decide_eq_false h0p
        rw [if_neg h0p, List.append_nil] at hst
        have hst := Lib.hid hst
        clear h0p
        gi_wp2
        go_roundw
        case rel =>
          refine ⟨j + 1, ys, by omega, by go_num, ?_, hhp.out, by rw [hst.out]; exact hperm.out⟩
          obtain ⟨v, h⟩ := hI.out
          exact ⟨v, h.keeps ((Keeps.refl _ _).alloc _)⟩
        case measure => simp [intOf]; omega
    · gi_wp2
      have hje : j = hs.length := by omega
      rw [hje, List.take_length] at hperm
      obtain ⟨v0, hv0⟩ := hI.out
      have hyl : ys.length ≤ 64 := by
        have h1 := hperm.out.length_eq
        have h2 : (some' hs).length ≤ hs.length := List.length_filter_le _ _
        omega
      have hst2 : VictR base w0.heap.size hs J wr [] C0 ys v0 := ⟨hJ C0 [] w0 wr h0 hk0.os hk0.tape hk0.output hk0.size (fun k hk _ => hk0.block k hk (by simp)), fun c hc => by
        have h1 := (HC.out c hc).1
        have := hk0.size
        exact ⟨by omega, by omega, fun e => by have := (hv0.row.lt c e).1; omega⟩, hv0.blk, hv0.row, hhp.out, by rw [List.nil_append]; exact srt_congr hperm.out, hbase, hyl⟩
      have hst2 := Lib.hid hst2
      clear hv0 hk0 hje
      gi_loopw [] (fun wr => ∃ pre C ys v, VictR base w0.heap.size hs J wr pre C ys v) (fun wr => restLen w0.heap.size wr)
      case atStart => exact ⟨_, _, _, _, hst2.out⟩
      case round =>
        obtain ⟨pre, C, ys, v, hV⟩ := hrel
        have hV := Lib.hid hV
        obtain ⟨va, vc, rfl⟩ := ownsRow_slice hV.out.row
        have cv := cell0_1 hV.out.blk
        cases hys : ys with
        | nil =>
          subst hys
          have heq := hV.out.eq
          rw [srt_nil, List.append_nil] at heq
          have heq := Lib.hid heq
          gi_wp2
          go_end0
          exact ⟨⟨_, rfl⟩, C, .inl ⟨pre, heq.out, hV.out.j⟩⟩
        | cons y0 yt =>
          have hlen : ys.length = yt.length + 1 := by rw [hys]; rfl
          have hm0 : ys.getD 0 default = y0 := by rw [hys]; rfl
          clear hys
          have hpos : decide (0 < ys.length) = true := by simp; omega
          have hIv : HoldI wr w0.heap.size (w0.heap.size + 1) (held w0.heap.size (.slice va ys.length vc)) wr ys :=
            ⟨_, hV.out.blk, hV.out.row, Keeps.refl _ _, by omega, ltOf hV.out.blk, fun _ => mem_held.2 (.inl rfl), fun g hg _ => mem_held.2 (.inr hg), by have := hV.out.few; omega⟩
          have hP := Lib.hid (hpop (hold_heaps wr w0.heap.size (w0.heap.size + 1) (held w0.heap.size (.slice va ys.length vc))) hlt_strict hlt_irr hIv yt.length hlen hV.out.hp y0 hm0)
          have hmin : ∀ x ∈ ys, PL.hlt x y0 = false := fun x hx => by
            obtain ⟨k, hk, rfl⟩ := List.getElem_of_mem hx
            have := hV.out.hp.root hlt_strict hlt_irr k hk
            rw [hm0, List.getD_eq_getElem?_getD, List.getElem?_eq_getElem hk] at this
            exact this
          have hmin := Lib.hid hmin
          have hlen := Lib.hid hlen
          have hV7 : 0 < ys.length := by have := hlen.out; omega
          clear hm0 hIv
          gi_wp2
          refine (callsIn_wide.2 hP.out).mono ?_
          rintro e w2 ⟨rfl, zs, ⟨v2, hI2⟩, -, hp2, hh2⟩
          have hta := run_ta y0
          have hsrt : srt ys = y0 :: srt zs := srt_cons hp2 (fun x hx => hmin.out x (hp2.subset (List.mem_cons_of_mem _ hx)))
          have heq := hV.out.eq
          rw [hsrt] at heq
          have hnext : pre ++ [y0] <+: srt (some' hs) := ⟨srt zs, by rw [List.append_assoc]; exact heq⟩
          have hnh : ∀ c ∈ C, c ∉ held w0.heap.size (.slice va ys.length vc) := fun c hc hm => by
            rcases mem_held.1 hm with h | h
            · exact (hV.out.c c hc).2.1 h
            · exact (hV.out.c c hc).2.2 h
          have hk3 : Keeps (held w0.heap.size (.slice va ys.length vc)) wr (w2.alloc (.cells #[.int .i64 y0.1, .int .i64 y0.2] 93)) := hI2.keep.alloc _
          have hJ3 : J C pre (w2.alloc (.cells #[.int .i64 y0.1, .int .i64 y0.2] 93)) := hJ C pre wr _ hV.out.j hk3.os hk3.tape hk3.output hk3.size (fun k hk hk2 => hk3.block k hk (fun hm => by
            rcases hk2 with h | ⟨h, -⟩
            · exact hnh k h hm
            · have hb := hV.out.base
              rcases mem_held.1 hm with h2 | h2
              · omega
              · have := (hV.out.row.lt k h2).1; omega))
          obtain ⟨fn, tmps, assign, body, hy, hR2⟩ := hY C pre y0 _ hJ3 (fun c hc => Nat.lt_of_lt_of_le (hV.out.c c hc).1 hk3.size) hnext (9 - 1)
          have hI2 := Lib.hid hI2
          have hp2 := Lib.hid hp2
          have hh2 := Lib.hid hh2
          have hsrt := Lib.hid hsrt
          have heq := Lib.hid heq
          have hnext := Lib.hid hnext
          have hnh := Lib.hid hnh
          have hk3 := Lib.hid hk3
          clear hJ3
          gi_wp2
          refine hR2.mono ?_
          rintro e W4 ⟨C', hg', hk4, (⟨rfl, hJ4⟩ | ⟨rfl, hJx4⟩)⟩
          · have hBwr := ltOf hV.out.blk
            have hs3 := hk3.out.size
            have hgC : ∀ g, v2.ownBlock = some g → g ∉ C := fun g hg hm => by
              by_cases h : g < wr.heap.size
              · exact hnh.out g hm (hI2.out.gin g hg h)
              · exact h (hV.out.c g hm).1
            have hBC : w0.heap.size ∉ C := fun hm => (hV.out.c _ hm).2.1 rfl
            have hka : Keeps [] w2 (w2.alloc (.cells #[.int .i64 y0.1, .int .i64 y0.2] 93)) := (Keeps.refl _ _).alloc _
            have hb4 := hk4.blk (hka.blk hI2.out.blk (by simp)) hBC
            have hr4 := ownsRow_of hI2.out.row (fun g hg => (hk4.block g (Nat.lt_of_lt_of_le (hI2.out.row.lt g hg).2 hka.size) (hgC g hg)).trans (hka.block g (hI2.out.row.lt g hg).2 (by simp)))
            have hzl := hp2.out.length_eq
            simp only [List.length_cons] at hzl
            have hres : VictR base w0.heap.size hs J W4 (pre ++ [y0]) C' zs v2 := ⟨hJ4, fun c hc => ⟨(hg' c hc).2, fun e => by
                rcases (hg' c hc).1 with h | h
                · exact hBC (e ▸ h)
                · omega, fun e => by
                rcases (hg' c hc).1 with h | h
                · exact hgC c e h
                · have := (hI2.out.row.lt c e).2; have := hka.size; simp at h; omega⟩, hb4, hr4, hh2.out, by rw [List.append_assoc]; exact heq.out, hV.out.base, by have := hV.out.few; omega⟩
            have hms : restLen w0.heap.size W4 < restLen w0.heap.size wr := by
              obtain ⟨za, zc, hz⟩ := ownsRow_slice hr4
              unfold restLen
              rw [cell0_1 hb4, cell0_1 hV.out.blk, hz]
              simp only
              omega
            have hres := Lib.hid hres
            have hms := Lib.hid hms
            clear hzl hb4 hr4 hka hgC hBC hs3
            gi_wp2
            go_roundw
            case rel => exact ⟨_, _, _, _, hres.out⟩
            case measure => exact hms.out
          · gi_wp2
            refine bodyPost_ret (results_none rfl _ _ _) rfl ?_
            exact ⟨⟨_, rfl⟩, C', .inr ⟨_, hnext.out, hJx4⟩⟩

end Go.Proofs.YthjghcfnopancaaGreat

/-
  Plan of the program's press.
-/
namespace Go.Proofs.YthjghcfnopancaaGreat
open Go.RowKit Go.Shelf Go.Maps HP PL

theorem victims_calls (a : Option Addr) (n cap : Nat) (w : World) : CallsIn Fence.wide 9 Tryz.prog 66 #[.slice a n cap] w fun e w' =>
    e = .returned (.func (.func 73) #[] #[.pointer (some ⟨w.heap.size, 0, none⟩)]) ∧ w' = w.alloc (.cells #[.slice a n cap] 91) := by
  refine callsIn_of_wp Tryz.func66 rfl trivial ?_ rfl
  simp only [Tryz.ntmps66, List.size_toArray, List.length_cons, List.length_nil, Nat.reduceAdd, Nat.reduceSub, Array.replicate_succ, Array.replicate_zero, List.push_toArray, List.append_toArray, List.nil_append, List.cons_append]
  gi_wp2
  go_ret
  exact ⟨rfl, rfl⟩

/-- Between two rounds of Plan. -/
def PlI (w : World) (bo : Nat) (want free : Int) (C : List Nat) (pre : List (Int × Int)) (W : World) : Prop :=
  ∃ F v, C = w.heap.size :: held bo v ∧ W.heap[w.heap.size]? = some (.cells #[.int .i64 F] 3 (0, 0)) ∧ W.heap[w.heap.size + 1]? = some (.cells #[.int .i64 want] 3 (0, 0)) ∧ Boxed W bo 40 v ∧
      W.ownsRow bo 3 1 v pre.length ((pre.map (·.1)).map (Value.int .i64)) ∧ Keeps [] w W ∧ bo ≤ W.heap.size ∧ (0 ≤ F ∧ F ≤ 10000 + 64 * pre.length) ∧ ∀ X, plan want (pre ++ X) free = pre.map (·.1) ++ plan want X F
/-- Behind the last one, if it was left. -/
def PlX (w : World) (bo : Nat) (want free : Int) (c : Code) (C : List Nat) (pre : List (Int × Int)) (W : World) : Prop :=
  ∃ F v out, c = .exit 0 ∧ C = w.heap.size :: held bo v ∧ W.heap[w.heap.size]? = some (.cells #[.int .i64 F] 3 (0, 0)) ∧ Boxed W bo 40 v ∧
      W.ownsRow bo 3 1 v out.length (out.map (Value.int .i64)) ∧ Keeps [] w W ∧ bo ≤ W.heap.size ∧ ∀ X, plan want (pre ++ X) free = out

set_option maxRecDepth 100000 in
set_option maxHeartbeats 4000000 in
theorem press_plan {w : World} {a : Option Addr} {cap : Nat} {hs : List (Int × Int)} (h : HRow w a hs) (ho : HOk hs) (free want : Int) (hf : 0 ≤ free ∧ free ≤ 10000) (hw : 0 ≤ want ∧ want ≤ 10000) :
    Calls Tryz.prog 58 #[.slice a hs.length cap, .int .i64 free, .int .i64 want] w (Planned (plan want (srt (some' hs)) free) w) := by
  obtain ⟨i1, hi1, hy0, hy1, hy2⟩ := info_parts info_int
  have hC : Hid (∀ w', Keeps [] w w' → _) := Lib.hid fun w' (hk : Keeps [] w w') => press_check (cap := cap) (h.on hk) ho
  have H := Lib.hid h
  have HO := Lib.hid ho
  have d1 : decide (free < 0) = false := decide_eq_false (by omega)
  have d2 : decide ((10000 : Int) < free) = false := decide_eq_false (by omega)
  have d3 : decide (want < 0) = false := decide_eq_false (by omega)
  have d4 : decide ((10000 : Int) < want) = false := decide_eq_false (by omega)
  clear h ho
  refine (callsIn_wide (n := 10)).1 ?_
  refine callsIn_of_wp_marks Tryz.func58 rfl trivial ?_ rfl
  simp only [Tryz.ntmps58, List.size_toArray, List.length_cons, List.length_nil, Nat.reduceAdd, Nat.reduceSub, Array.replicate_succ, Array.replicate_zero, List.push_toArray, List.append_toArray, List.nil_append, List.cons_append]
  have hf1 : Fence.wide.fn 65 := trivial
  have hf2 : Fence.wide.fn 66 := trivial
  have hf3 : Fence.wide.fn 73 := trivial
  have hsa := @Oper.semAt_some
  gi_wp2_with (first
    | (gi_at_call 65; refine (callsIn_wide.2 (hC.out _ (by repeat (first | exact Keeps.refl _ _ | assumption | refine Keeps.drew ?_ | refine Keeps.drewN ?_ _ | refine Keeps.alloc ?_ _ | refine Keeps.setCell ?_ (by simp <;> omega) _ | refine Keeps.trans ?_ (by assumption))))).mono ?_; rintro e w1 ⟨rfl, hk1⟩; obtain ⟨b0, b1, hk1'⟩ := hk1.new2 (by simp) (by simp); have c0 := cellOf b0 0 rfl; have c1 := cellOf b1 0 rfl; have b0 := Lib.hid b0; have b1 := Lib.hid b1; have hk1 := Lib.hid hk1; have hk1' := Lib.hid hk1')
    | (gi_at_call 66; refine (victims_calls _ _ _ _).mono ?_; rintro e w' ⟨rfl, rfl⟩))
  have hsz : w.heap.size + 2 ≤ w1.heap.size := by have := hk1.out.size; simp at this; omega
  have hSl : (srt (some' hs)).length ≤ 64 := by
    have h1 := (srt_perm (some' hs)).length_eq
    have h2 : (some' hs).length ≤ hs.length := List.length_filter_le _ _
    have := HO.out.len
    omega
  have hSm : ∀ x ∈ srt (some' hs), 0 ≤ x.2 ∧ x.2 ≤ 64 := fun x hx => HO.out.fr x (mem_some.1 ((srt_perm _).subset hx)).1
  have hSm := Lib.hid hSm
  have hG := vict_gives HO.out.len (w1.heap.size + 1) a cap ((w1.alloc (.cells #[.slice none 0 0] 40)).alloc (.cells #[.slice a hs.length cap] 91)) (heap_new_at _ (by simp)) (H.out.on ((hk1'.out.alloc _).alloc _))
  generalize srt (some' hs) = L at *
  have bO := Boxed.new w1 40 (.slice none 0 0)
  have hW1 : Keeps [] w1 ((w1.alloc (.cells #[.slice none 0 0] 40)).alloc (.cells #[.slice a hs.length cap] 91)) := ((Keeps.refl _ _).alloc _).alloc _
  have B0 := hW1.blk b0.out (by simp)
  have B1 := hW1.blk b1.out (by simp)
  refine wp_range (gf := 73) (lb := #[.pointer (some ⟨w1.heap.size + 1, 0, none⟩)]) rfl (enters_of Tryz.func73 (by kernel_rfl) rfl)
    hG (Keeps.refl _ _) (fun _ => rfl)
    (PlI w w1.heap.size want free) (PlX w w1.heap.size want free)
    ?hI ?hIx
    (w.heap.size :: held w1.heap.size (.slice none 0 0)) (by intro k hk; simp [held, Value.ownBlock] at hk; rcases hk with rfl | rfl <;> simp <;> omega) (by intro k hk; simp at hk; subst hk; simp)
    ⟨free, _, rfl, B0, B1, bO.alloc _, World.ownsRow_nil _ _ _ _, hk1'.out.trans hW1, hW1.size, by simp; omega, fun X => rfl⟩
    (fun x a' _ => a' = { tmps := ((Value.slice a hs.length cap) :: (Value.int IntKind.i64 free) :: (Value.int IntKind.i64 want) :: undef :: (Value.pointer (some { block := w.heap.size, off := 0 })) :: (Value.pointer (some { block := w.heap.size + 1, off := 0 })) :: (Value.slice none 0 0) :: (Value.int IntKind.i64 0) :: (Value.int IntKind.i64 0) :: (Value.pointer (some { block := w1.heap.size, off := 0 })) :: (.int .i64 x.1) :: (.int .i64 x.2) :: (Value.slice a hs.length cap) :: (Value.int IntKind.i64 0) :: (Value.bool false) :: (Value.bool false) :: (Value.int IntKind.i64 free) :: (Value.bool false) :: (Value.bool false) :: (Value.bool false) :: (Value.int IntKind.i64 free) :: (Value.bool false) :: (Value.bool false) :: (Value.bool false) :: (Value.int IntKind.i64 want) :: (Value.bool false) :: (Value.bool false) :: (Value.bool false) :: (Value.int IntKind.i64 want) :: (Value.bool false) :: (Value.bool false) :: (Value.slice a hs.length cap) :: (Value.func (Fn.func 73) #[] #[Value.pointer (some { block := w1.heap.size + 1, off := 0 })]) :: (.int .i64 x.1) :: (.int .i64 x.2) :: undef :: undef :: undef :: undef :: undef :: undef :: undef :: undef :: undef :: undef :: undef :: undef :: []).toArray, defers := [] })
    (fun _ _ _ _ _ _ h _ _ => h) ?assign ?body ?done ?stop
  case hI =>
    rintro C pre W W' ⟨F, v, rfl, e0, e1, hv, hrow, hk, hz, hF, hpl⟩ g1 g2 g3 g4 g5
    obtain ⟨a1, a2⟩ := held_kept (W' := W') hv hrow (fun k hk1 hk2 => g5 k hk1 (.inl (List.mem_cons_of_mem _ hk2)))
    exact ⟨F, v, rfl, (g5 _ (ltOf e0) (.inl (by simp))).trans e0, (g5 _ (ltOf e1) (.inr ⟨by simp; omega, by simp⟩)).trans e1, a1, a2, hk.of_old g1 g2 g3 g4 (fun k hk1 _ => g5 k (by have := hk.size; omega) (.inr ⟨by simp; omega, by simp⟩)), by omega, hF, hpl⟩
  case hIx =>
    rintro c C pre W W' ⟨F, v, out, rfl, rfl, e0, hv, hrow, hk, hz, hpl⟩ g1 g2 g3 g4 g5
    obtain ⟨a1, a2⟩ := held_kept (W' := W') hv hrow (fun k hk1 hk2 => g5 k hk1 (.inl (List.mem_cons_of_mem _ hk2)))
    exact ⟨F, v, out, rfl, rfl, (g5 _ (ltOf e0) (.inl (by simp))).trans e0, a1, a2, hk.of_old g1 g2 g3 g4 (fun k hk1 _ => g5 k (by have := hk.size; omega) (.inr ⟨by simp; omega, by simp⟩)), by omega, hpl⟩
  case assign =>
    rintro lp C pre x W K _ hK
    gi_wp2
    exact hK _ _ (Keeps.refl _ _) rfl
  case body =>
    rintro lp C pre x a' W _ _ _ ⟨F, v, rfl, e0, e1, hv, hrow, hk, hz, hF, hpl⟩ hlt hnext rfl
    have hx := hSm.out x (hnext.subset (by simp))
    have hpre : pre.length < 64 := by have := hnext.length_le; simp at this; omega
    have x0 := cellOf e0 0 rfl
    have x1 := cellOf e1 0 rfl
    have f0 := frees e0 0
    have hc := hv.cell
    by_cases hfull : want ≤ F
    · have d := decide_eq_true hfull
      have hIX : Hid (∃ C', Grows (w.heap.size :: held w1.heap.size v) C' W W ∧ Keeps (w.heap.size :: held w1.heap.size v) W W ∧ PlX w w1.heap.size want free (.exit 0) C' (pre ++ [x]) W) := Lib.hid
        ⟨_, Grows.refl hlt (Nat.le_refl _), Keeps.refl _ _, F, v, pre.map (·.1), rfl, rfl, e0, hv, by simpa using hrow, hk, hz, fun X => by rw [List.append_assoc, hpl, plan_full hfull, List.append_nil]⟩
      clear hnext hpl hrow hfull
      gi_wp2
      exact hIX.out
    · have d := decide_eq_false hfull
      have hfw : F < want := by omega
      have hxw := IntWalk.i64_in (F + x.2) (by omega)
      have hpl2 : ∀ X, plan want ((pre ++ [x]) ++ X) free = (pre ++ [x]).map (·.1) ++ plan want X (F + x.2) := fun X => by
        rw [List.append_assoc, hpl]
        simp only [List.map_append, List.map_cons, List.map_nil, List.append_assoc, List.singleton_append, plan, hfull, if_false]
      have hpl2 := Lib.hid hpl2
      have e0 := Lib.hid e0
      have e1 := Lib.hid e1
      have hBl := hv.lt
      have hw0 := ltOf e0.out
      have hw1 := ltOf e1.out
      clear hnext hpl hfull
      gi_wp2_with (gi_at_builtin; refine wpListIn_append2 _ rfl _ _ 40 rfl w1.heap.size 3 i1 (.int .i64 0) 1 8 Tryz.underlying40 hi1 hy0 hy1 hy2 rfl (by decide) v _ _ rfl (hrow.alloc _) ⟨W.heap.size, 0, none⟩ 1 1 [.int .i64 x.1] rfl rfl (cell_one_new _ _ _) (by simp [Value.oneCell']) (by simp [maxLen]; omega) (by omega) (by simp; omega) ?_; intro v' w3 hown' hgrow _ hnew; obtain ⟨g', cap', rfl⟩ := ownsRow_succ hown'; obtain ⟨hv1, hv2, hr2, -, -⟩ := hv.appended (by decide) hrow hz (Nat.le_refl _) hown' hgrow; obtain ⟨hgr, hkp⟩ := appended2 hv hown' hgrow hnew; have hc1 := hv1.cell; have hf1 := hv1.frozen; (have hbf : w3.heap[w.heap.size]? = W.heap[w.heap.size]? := (hgrow.block w.heap.size (by simp; omega) (fun e => by have := (hrow.lt _ e.symm).1; omega)).trans (((Keeps.refl [] W).alloc _).block _ hw0 (by simp))); (have y0' := (World.cell?_of_block (a := ⟨w.heap.size, 0, none⟩) hbf).trans x0); (have yf := (World.frozen?_of_block (a := ⟨w.heap.size, 0, none⟩) hbf).trans f0); have hv2 := Lib.hid hv2; have hr2 := Lib.hid hr2; have hgr := Lib.hid hgr; have hkp := Lib.hid hkp; have hbf := Lib.hid hbf; clear hown' hgrow hnew hv1)
      have hg5 : Grows (w.heap.size :: held w1.heap.size v) (w.heap.size :: held w1.heap.size (.slice (some ⟨g', 0, none⟩) (pre.length + 1) cap')) W ((w3.setCell ⟨w1.heap.size, 0, none⟩ (.slice (some ⟨g', 0, none⟩) (pre.length + 1) cap')).setCell ⟨w.heap.size, 0, none⟩ (.int .i64 (F + x.2))) := fun k hk => by
        rcases List.mem_cons.1 hk with rfl | hk
        · have := hkp.out.size
          simp at this
          exact ⟨.inl (by simp), by simp; omega⟩
        · have := hgr.out k hk
          simp at this ⊢
          exact ⟨this.1.imp (fun h => .inr h) id, this.2⟩
      have hk5 : Keeps (w.heap.size :: held w1.heap.size v) W ((w3.setCell ⟨w1.heap.size, 0, none⟩ (.slice (some ⟨g', 0, none⟩) (pre.length + 1) cap')).setCell ⟨w.heap.size, 0, none⟩ (.int .i64 (F + x.2))) := (hkp.out.mono (fun k hk => List.mem_cons_of_mem _ hk)).setCell (fun _ => by simp) _
      have hbs : (w3.setCell ⟨w1.heap.size, 0, none⟩ (.slice (some ⟨g', 0, none⟩) (pre.length + 1) cap')).heap[w.heap.size]? = some (.cells #[.int .i64 F] 3 (0, 0)) := (Below.heap_setCell _ _ _ _ (fun e => by simp at e; omega)).trans (hbf.out.trans e0.out)
      have hnb : w.heap.size + 1 ∉ w.heap.size :: held w1.heap.size v := fun hm => by
        rcases List.mem_cons.1 hm with h | h
        · omega
        · rcases mem_held.1 h with h | h
          · omega
          · have := (hrow.lt _ h).1; omega
      have hr5 := Go.RowKit.ownsRow_setCell_below hr2.out (a := ⟨w.heap.size, 0, none⟩) (show w.heap.size < w1.heap.size by omega) (.int .i64 (F + x.2))
      exact ⟨_, hg5, hk5, F + x.2, _, rfl, by simpa using blk_setCell hbs 0 (.int .i64 (F + x.2)), hk5.blk e1.out hnb, hv2.out.other (by omega) _, by simpa using hr5, hk.trans' hk5 (fun k hk1 hk2 => by
        rcases List.mem_cons.1 hk1 with h | h
        · omega
        · rcases mem_held.1 h with h | h
          · omega
          · have := (hrow.lt _ h).1; omega), Nat.le_trans hz hk5.size, by simp; omega, hpl2.out⟩
  case done =>
    rintro D C xs W hD hn hxs ⟨F, v, rfl, e0, e1, hv, hrow, hk, hz, hF, hpl⟩ hd
    have hp := hpl []
    rw [List.append_nil, hxs] at hp
    have hp2 : plan want L free = xs.map (·.1) := by rw [hp, hxs]; simp [plan]
    have x0 := cellOf e0 0 rfl
    have hc := hv.cell
    have hrow2 : W.ownsRow w1.heap.size 3 1 v (xs.map (·.1)).length ((xs.map (·.1)).map (Value.int .i64)) := by simpa using hrow
    have Hp := Lib.hid hp2
    have Hd := Lib.hid hd
    have Hn := Lib.hid hn
    have Hr := Lib.hid hrow2
    clear hp hp2 hpl hrow hrow2 hd hn hxs
    gi_wp2
    gi_region
    all_goals gi_wp2
    all_goals
      refine ⟨by simp, .inl ⟨_, _, rfl, run_takeDeferred (w := W.drew) Hd.out, ?_⟩⟩
      refine ⟨_, results_tmp3 rfl _ _ _, v, F, rfl, ?_, Keeps.putObj hk.drew (fun h => by simp at hD; omega)⟩
      rw [Hp.out]
      exact ownsRow_base_a (ownsRow_of Hr.out (fun g hg => World.putObj_heap_other (fun e => Hn.out (List.mem_cons_of_mem _ (mem_held.2 (.inr (e ▸ hg))))))) (by omega)
  case stop =>
    rintro D c C xs W hD hn ⟨T, hT⟩ ⟨F, v, out, rfl, rfl, e0, hv, hrow, hk, hz, hpl⟩ hd
    have hp := hpl T
    rw [hT] at hp
    have x0 := cellOf e0 0 rfl
    have hc := hv.cell
    have Hp := Lib.hid hp
    have Hd := Lib.hid hd
    have Hn := Lib.hid hn
    have Hr := Lib.hid hrow
    clear hp hpl hrow hd hn hT
    gi_wp2
    gi_region
    all_goals gi_wp2
    all_goals
      refine ⟨by simp, .inl ⟨_, _, rfl, run_takeDeferred (w := W.drew) Hd.out, ?_⟩⟩
      refine ⟨_, results_tmp3 rfl _ _ _, v, F, rfl, ?_, Keeps.putObj hk.drew (fun h => by simp at hD; omega)⟩
      rw [Hp.out]
      exact ownsRow_base_a (ownsRow_of Hr.out (fun g hg => World.putObj_heap_other (fun e => Hn.out (List.mem_cons_of_mem _ (mem_held.2 (.inr (e ▸ hg))))))) (by omega)

end Go.Proofs.YthjghcfnopancaaGreat

/-
  Press of the program's model.
-/
namespace Go.Proofs.YthjghcfnopancaaGreat
open Go.RowKit Go.Shelf Go.Maps Go.Deep

theorem HOk.perm {hs ks : List (Int × Int)} (h : HOk hs) (p : ks.Perm hs) : HOk ks :=
  ⟨by rw [p.length_eq]; exact h.len, fun q hq => h.id q (p.subset hq), fun q hq => h.fr q (p.subset hq), ((p.map (·.1)).nodup_iff).2 h.nodup⟩

theorem hold_ok {S : MS} (hV : Valid S) (hN : Known S) : HOk S.hold := by
  have hc := hV.count
  have hs := hV.ok.s
  have hq := hV.ok.q
  have hf := hV.ok.f
  refine ⟨by simp [MS.hold]; omega, fun p hp => ?_, fun p hp => ?_, by rw [MS.hold_keys]; exact hV.nodup⟩
  · obtain ⟨q, hq, rfl⟩ := List.mem_map.1 hp
    have h1 := hV.live_mem (List.mem_map.2 ⟨q, hq, rfl⟩)
    have h2 := hV.bound _ h1
    have := hV.last
    have := hV.lim
    simp only at h2 ⊢; omega
  · obtain ⟨q, hq, rfl⟩ := List.mem_map.1 hp
    have := hN.frames q hq
    simp only; omega

theorem perm_erase {α : Type} : ∀ {l : List α} {i : Nat} {x : α}, l[i]? = some x → (x :: l.eraseIdx i).Perm l
  | [], i, x, h => by simp at h
  | a :: t, 0, x, h => by simp only [List.getElem?_cons_zero, Option.some.injEq] at h; subst h; exact List.Perm.refl _
  | a :: t, i + 1, x, h => by
    simp only [List.getElem?_cons_succ] at h
    have ih := perm_erase h
    simp only [List.eraseIdx_cons_succ]
    exact (List.Perm.swap _ _ _).trans (ih.cons a)

theorem cells_new2 {w : World} (o : Obj) {cs : Array Value} {T : TypeId} (j : Nat) (u : Value) (h : cs.toList[j]? = some u) : ((w.alloc o).alloc (.cells cs T)).cell? ((⟨w.heap.size + 1, 0, none⟩ : Addr).add j) = some u := by
  have := cells_new (w := w.alloc o) (T := T) h
  rwa [show (w.alloc o).heap.size = w.heap.size + 1 by simp] at this

theorem keeps_grown2 {w w' : World} {o p : Obj} {v : Value} (h : ((w.alloc o).alloc p).grownBy w' v.ownBlock) : Keeps v.ownBlock.toList w w' := by
  obtain ⟨g1, g2, g3, g4, g5⟩ := h
  have k1 : Keeps [] w ((w.alloc o).alloc p) := ((Keeps.refl [] w).alloc _).alloc _
  exact ⟨g1.trans k1.os, g2.trans k1.tape, g3.trans k1.output, Nat.le_trans k1.size g4, fun b hb hn => (g5 b (Nat.lt_of_lt_of_le hb k1.size) (fun e => hn (by simp [← e]))).trans (k1.block b hb (by simp))⟩

def holdL (R : List (Int × Kn)) : List (Int × Int) := R.map fun p => (p.1, p.2.s.frames)

set_option maxRecDepth 100000 in
set_option maxHeartbeats 2000000 in
theorem mpress_no {m t tb lb : Nat} {S : MS} {w : World} (h : ModelAt w m t tb lb S) (want : Int) (hn : ¬ (0 ≤ want ∧ want ≤ S.c.frames)) :
    Calls Tryz.prog 37 #[.pointer (some ⟨m, 0, none⟩), .int .i64 want] w fun e w' => e = .returned (.tuple #[.slice none 0 0, .int .i64 3]) ∧ Keeps [] w w' := by
  have c1 : w.cell? ⟨m, 1, none⟩ = some (.int .i64 S.c.frames) := cellOf h.blk 1 rfl
  have hNn := Lib.hid (mnone_at h)
  have d := decide_eq_false hn
  clear h hn
  go_enter Tryz.func37, Tryz.ntmps37
  go_wp2_with (first
    | (go_at_call 39; refine (hNn.out).mono ?_; rintro e w' ⟨rfl, rfl⟩)
    | (go_at_call 16; refine (within_any _ _ _ _).mono ?_; rintro e w' ⟨rfl, rfl⟩))
  go_ret2
  exact ⟨rfl, (by repeat (first | exact Keeps.refl _ _ | assumption | refine Keeps.drew ?_ | refine Keeps.drewN ?_ _ | refine Keeps.alloc ?_ _ | refine Keeps.setCell ?_ (by simp <;> omega) _ | refine Keeps.trans ?_ (by assumption)))⟩

/-- What Press leaves. -/
def MPressed (S : MS) (out : List Int) (m t tb lb : Nat) (w : World) (e : Ending) (w' : World) : Prop :=
  ∃ v, e = .returned (.tuple #[v, .int .i64 0]) ∧ w'.ownsRow w.heap.size 3 1 v out.length (out.map (Value.int .i64)) ∧ Ends tb lb w w' m t (S.evicts out)

set_option maxRecDepth 100000 in
set_option maxHeartbeats 4000000 in
theorem mpress_yes {m t tb lb : Nat} {S : MS} {w : World} (h : ModelAt w m t tb lb S) (hV : Valid S) (hN : Known S) (want : Int) (hw : 0 ≤ want ∧ want ≤ S.c.frames) :
    Calls Tryz.prog 37 #[.pointer (some ⟨m, 0, none⟩), .int .i64 want] w (MPressed S (S.victims want) m t tb lb w) := by
  have c1 : w.cell? ⟨m, 1, none⟩ = some (.int .i64 S.c.frames) := cellOf h.blk 1 rfl
  have c6 : w.cell? ⟨m, 6, none⟩ = some (.map (some lb)) := cellOf h.blk 6 rfl
  have hNn := Lib.hid (mnone_at h)
  have d := decide_eq_true hw
  obtain ⟨w1, hrg, hit, hk1, hsz⟩ := run_range (P := Tryz.prog) Tryz.underlying54 h.live
  have hlb := h.live.lt
  have Hit := Lib.hid hit
  have H := Lib.hid h
  have HV := Lib.hid hV
  have HN := Lib.hid hN
  have hcnt := hV.count
  have hs := hV.ok.s
  have hfr := hV.ok.f
  have hLl : S.live.length ≤ 64 := by omega
  have hsz' := Lib.hid hsz
  obtain ⟨i0, hi, hz0, hz1, hz2⟩ := info_parts info_holder
  clear h hV hN hit hsz
  go_enter Tryz.func37, Tryz.ntmps37
  go_wp2_with (first
    | (go_at_call 39; refine (hNn.out).mono ?_; rintro e w' ⟨rfl, rfl⟩)
    | (go_at_call 16; refine (within_any _ _ _ _).mono ?_; rintro e w' ⟨rfl, rfl⟩))
  go_loopg [6] S.live.length (fun k s6 wr => ∃ (R : List (Int × Kn)) (ks : List (Int × Int)), k = R.length ∧ wr.ownsRow (w.heap.size + 1) 93 2 s6 ks.length (hcells ks) ∧ (ks ++ holdL R).Perm S.hold ∧ IIter wr w.heap.size lb (lmap R) ∧ Keeps [] w wr ∧ w.heap.size < wr.heap.size)
  case atStart => exact ⟨S.live, [], rfl, World.ownsRow_nil _ _ _ _, List.Perm.refl _, Hit.out, hk1, by rw [hsz'.out]; omega⟩
  case round =>
    obtain ⟨R, ks, rfl, hrow, hperm, hI, hk, hlt⟩ := hrel
    have HI := Lib.hid hI
    have HP := Lib.hid hperm
    clear hI hrg hk1 hperm
    have hkl : ks.length ≤ 64 := by
      have h1 := HP.out.length_eq
      simp only [List.length_append, MS.hold, List.length_map] at h1
      omega
    by_cases hR0 : R = []
    · subst hR0
      have hnx : ∀ ty, (Instr.next (.pointer (some ⟨w.heap.size, 0, none⟩)) false ty).run Tryz.prog wr = .ok (.tuple #[.bool false]) wr := fun ty => run_next_over HI.out
      have hperm : ks.Perm S.hold := by simpa [holdL] using HP.out
      obtain ⟨sa, sc, rfl⟩ := ownsRow_slice hrow
      have hFr := Lib.hid (free_any (h := H.out.keep hk (by simp) (by simp) (by simp) (by simp)) HV.out HN.out)
      have hfb : S.free ≤ 64 := by
        have := sumF_bound S.c.quota (by have := HV.out.ok.q; omega) S.live HN.out.frames
        unfold MS.free; omega
      have hPl : Hid (∀ w', Keeps [] wr w' → Calls Tryz.prog 58 #[.slice sa ks.length sc, .int .i64 (max S.free 0), .int .i64 want] w' (Planned (S.victims want) w')) := Lib.hid fun w' (hk' : Keeps [] wr w') => by
        have h1 := press_plan (cap := sc) ((hrow_addr hrow).on hk') ((hold_ok HV.out HN.out).perm hperm) (max S.free 0) want ⟨Int.le_max_right _ _, by omega⟩ (by omega)
        have e : PL.plan want (PL.srt (PL.some' ks)) (max S.free 0) = S.victims want := by
          unfold MS.victims
          have hp2 : (PL.some' ks).Perm (PL.some' S.hold) := hperm.filter _
          rw [PL.srt_congr hp2]
        rw [e] at h1
        exact h1
      have hnod := Lib.hid (HV.out.victims_nodup want)
      have hvl : (S.victims want).length ≤ 64 := by
        have h1 := (S.victims_pre want).length_le
        have h2 := (PL.srt_perm (PL.some' S.hold)).length_eq
        have h3 : (PL.some' S.hold).length ≤ S.hold.length := List.length_filter_le _ _
        have h4 : S.hold.length = S.live.length := by simp [MS.hold]
        simp only [List.length_map] at h1
        omega
      obtain ⟨out, hout⟩ : ∃ out, S.victims want = out := ⟨_, rfl⟩
      have hlv : Hid (∀ pre id post, out = pre ++ id :: post → (id, 0) ∈ (S.evicts pre).l) := Lib.hid fun pre id post e => HV.out.victim_live (want := want) (by rw [hout]; exact e)
      rw [hout] at hPl hvl
      have Hout := Lib.hid hout
      clear hrow hperm hout hnod
      go_wp2_with (first
        | (go_at_call 13; refine (hFr.out).mono ?_; rintro e w2 ⟨rfl, hk2⟩)
        | (go_at_call 58; refine (hPl.out w2 hk2).mono ?_; rintro e w3 ⟨v, f, rfl, hout, hk3⟩; obtain ⟨oa, oc, rfl⟩ := ownsRow_slice hout; have hout := Lib.hid hout))
      have hk3' : Keeps [] w w3 := (hk.trans hk2).trans hk3
      have hws : w.heap.size ≤ w2.heap.size := (hk.trans hk2).size
      go_loopg [56] out.length (fun k s56 wr => ∃ j : Nat, s56 = .int .i64 j ∧ k + j = out.length ∧ Keeps [tb, lb] w3 wr ∧ ModelAt wr m t tb lb (S.evicts (out.take j)))
      case atStart => exact ⟨0, rfl, by omega, Keeps.refl _ _, H.out.keep hk3' (by simp) (by simp) (by simp) (by simp)⟩
      case round =>
        obtain ⟨j, rfl, hkj, hkr, hM⟩ := hrel
        have htb := H.out.tbl.map.lt
        have hrow3 : wr.ownsRow w2.heap.size 3 1 (.slice oa out.length oc) out.length (out.map (Value.int .i64)) := ownsRow_of hout.out (fun g hg => hkr.block g (hout.out.lt g hg).2 (by
          have h1 := (hout.out.lt g hg).1
          simp; omega))
        by_cases hj : j < out.length
        · obtain ⟨g2, cap2, e2, -, -, cid⟩ := row_cell hrow3 hj
          simp only [Value.slice.injEq] at e2
          obtain ⟨rfl, -, rfl⟩ := e2
          obtain ⟨id, hid⟩ : ∃ id, out.getD j 0 = id := ⟨_, rfl⟩
          have hide : out[j] = id := by rw [← hid]; simp [List.getD_eq_getElem?_getD, List.getElem?_eq_getElem hj]
          rw [hid] at cid
          have hs1 : S.evicts (out.take (j + 1)) = (S.evicts (out.take j)).over id 22 := by
            rw [List.take_succ_eq_append_getElem hj, hide, MS.evicts_snoc]
          have hlive : (id, 0) ∈ (S.evicts (out.take j)).l := hlv.out (out.take j) id (out.drop (j + 1)) (by
            conv => lhs; rw [← List.take_append_drop j out, List.drop_eq_getElem_cons hj, hide])
          have hO := Lib.hid (over_any hM (keep_evicts HV.out HN.out (out.take j)).1 id 22 (by decide) hlive)
          have Hs := Lib.hid hs1
          clear hs1 hid hide hlive hrow3
          go_wp2_with (go_at_call 48; refine (hO.out).mono ?_; rintro e w4 ⟨rfl, hE⟩)
          go_roundg (gk - 1)
          case measure => omega
          case rel => exact ⟨j + 1, by simp, by omega, hkr.trans hE.1, by rw [Hs.out]; exact hE.2⟩
        · have hjl : ((out.length : Int) ≤ (j : Int)) := by omega
          have hje : j = out.length := by omega
          have Hje := Lib.hid hje
          have hrow3 := Lib.hid hrow3
          clear hje hkj
          go_wp2
          go_ret2
          refine ⟨_, rfl, by rw [Hout.out]; exact ownsRow_base_a hrow3.out hws, (hk3'.mono (by simp)).trans hkr, ?_⟩
          rw [Hout.out]
          have := hM
          rw [Hje.out, List.take_length] at this
          exact this
    · have hne : lmap R ≠ [] := by simpa [lmap] using hR0
      obtain ⟨i, p, w2, hp, hnx0, hI2, hk2, hent⟩ := run_next_more (P := Tryz.prog) (ty := 0) HI.out hne
      obtain ⟨⟨id, kn⟩, hx, rfl⟩ := lmap_at hp
      have hnx : ∀ ty, (Instr.next (.pointer (some ⟨w.heap.size, 0, none⟩)) false ty).run Tryz.prog wr = .ok (.tuple #[.bool true, .int .i64 id, kn.val]) w2 := fun ty => hnx0
      have hen := hent [] w2 (Keeps.refl _ _) (by simp) (by simp)
      have Hx := Lib.hid hx
      have HI2 := Lib.hid hI2
      have hi' : i < R.length := by
        rcases Nat.lt_or_ge i R.length with h | h
        · exact h
        · rw [List.getElem?_eq_none h] at hx; cases hx
      obtain ⟨sa, sc, rfl⟩ := ownsRow_slice hrow
      have hks2 := hk2.size
      have hrow2 : w2.ownsRow (w.heap.size + 1) 93 2 (.slice sa ks.length sc) ks.length (hcells ks) := ownsRow_of hrow (fun g hg => hk2.block g (hrow.lt g hg).2 (by have := (hrow.lt g hg).1; simp; omega))
      clear hp hnx0 hent hI2 hx hR0 hne
      simp only at hen
      go_wp2_with (at_builtin; refine wpList_append2 _ rfl _ _ 91 rfl (w.heap.size + 1) 93 i0 _ 2 16 Tryz.underlying91 hi hz0 hz1 hz2 rfl (by decide) (.slice sa ks.length sc) ks.length _ rfl ((hrow2.alloc _).alloc _) ⟨w2.heap.size + 1, 0, none⟩ 1 1 [.int .i64 id, .int .i64 kn.s.frames] rfl rfl (cells_new2 _ (cs := #[.int .i64 id, .int .i64 kn.s.frames])) (by simp [Value.oneCell']) (by simp [maxLen]; omega) (by omega) (by simp; omega) ?_; intro v' w3 hown' hgrow _ hnew; have hown' := Lib.hid hown'; have hgrow := Lib.hid hgrow)
      go_roundg (R.length - 1)
      case measure => omega
      case rel =>
        have kG := keeps_grown2 (v := .slice sa ks.length sc) hgrow.out
        have hgb : ∀ x, x ∈ (Value.slice sa ks.length sc).ownBlock.toList → w.heap.size + 1 ≤ x := fun x hx => (hrow.lt x (by simpa using hx)).1
        refine ⟨R.eraseIdx i, ks ++ [(id, kn.s.frames)], by rw [List.length_eraseIdx_of_lt hi'], by rw [hcells_snoc, List.length_append]; exact hown'.out, ?_, ?_, ?_, ?_⟩
        · refine List.Perm.trans ?_ HP.out
          have h1 := (perm_erase Hx.out).map (fun p : Int × Kn => (p.1, p.2.s.frames))
          rw [List.append_assoc]
          exact List.Perm.append_left ks h1
        · rw [← lmap_erase]; exact HI2.out.keep kG (fun hm => by have := hgb _ hm; omega) (fun hm => by have := hgb _ hm; omega)
        · exact (hk.trans' hk2 (by intro j hj h2; simp at hj; omega)).trans' kG (fun x hx h2 => by have := hgb x hx; omega)
        · have := kG.size; omega


theorem Mine.press {w0 w : World} {m t tb lb : Nat} {S : MS} (h : Mine w0 w m t tb lb S) (want : Int) :
    Calls Tryz.prog 37 #[.pointer (some ⟨m, 0, none⟩), .int .i64 want] w fun e w' => ∃ v, e = .returned (.tuple #[v, .int .i64 (S.press want).2.1]) ∧
      w'.ownsRow w.heap.size 3 1 v (S.press want).1.length ((S.press want).1.map (Value.int .i64)) ∧ Mine w0 w' m t tb lb (S.press want).2.2 := by
  have hk := keep_press h.valid h.known want
  by_cases hw : 0 ≤ want ∧ want ≤ S.c.frames
  · have e : S.press want = (S.victims want, 0, S.evicts (S.victims want)) := by simp [MS.press, hw]
    rw [e] at hk ⊢
    exact (mpress_yes h.at_ h.valid h.known want hw).mono fun _ _ ⟨v, h1, h2, h3⟩ => ⟨v, h1, h2, h.ends h3 hk⟩
  · have e : S.press want = ([], 3, S) := by simp [MS.press, hw]
    rw [e]
    exact (mpress_no h.at_ want hw).mono fun _ _ ⟨h1, h2⟩ => ⟨_, h1, World.ownsRow_nil _ _ _ _, h.on h2⟩

end Go.Proofs.YthjghcfnopancaaGreat
