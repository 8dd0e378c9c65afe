/-
  Ranging over a map whose keys are ints: laws for range, next, entry.
-/
import Derived.Test.YthjghcfnopancaaGreatGa
import Derived.Test.YthjghcfnopancaaGreatGd
import Derived.Deep.LoopGhost
namespace Go.Proofs.YthjghcfnopancaaGreat
open Go.RowKit

/-- Block r is an iterator over the map in block b, of which these entries are still to come. -/
structure IIter (w : World) (r b : Nat) (rest : List (Int × Value)) : Prop where
  ex : ∃ es clock since seen, w.heap[b]? = some (.map es clock) ∧ w.heap[r]? = some (.mapIter (some b) since seen clock) ∧ es.toList.Pairwise (fun x y => x.born < y.born) ∧ (∀ e ∈ es.toList, e.born < since ∧ e.born < clock) ∧
    pairsOf (es.toList.filter fun e => !seen.contains e.born) = ents rest

theorem IIter.keep {l : List Nat} {w w' : World} {r b : Nat} {rest : List (Int × Value)} (h : IIter w r b rest) (k : Keeps l w w') (hr : r ∉ l) (hb : b ∉ l) : IIter w' r b rest := by
  obtain ⟨es, clock, since, seen, h1, h2, h3⟩ := h.ex
  exact ⟨es, clock, since, seen, k.blk h1 hb, k.blk h2 hr, h3⟩

theorem getObj_at {P : Program} {w : World} {r : Nat} {o : Obj} (h : w.heap[r]? = some o) (hc : ∀ c e f, o ≠ .cells c e f) : (getObj r).run P w = .ok o w := by
  cases o <;> simp [getObj, Sem.run, h] at hc ⊢
theorem setObj_at {P : Program} {w : World} {r : Nat} {o : Obj} (o' : Obj) (h : w.heap[r]? = some o) (hc : ∀ c e f, o ≠ .cells c e f) : (setObj r o').run P w = .ok () { w with heap := w.heap.setIfInBounds r o' } := by
  cases o <;> simp [setObj, Sem.run, h] at hc ⊢

theorem run_range {P : Program} {w : World} {T K E : TypeId} {b : Nat} {l : List (Int × Value)} (hT : P.underlying T = some (.map K E)) (h : IMap w b l) :
    ∃ w1, (Instr.range T (.map (some b))).run P w = .ok (.pointer (some ⟨w.heap.size, 0, none⟩)) w1 ∧ IIter w1 w.heap.size b l ∧ Keeps [] w w1 ∧ w1.heap.size = w.heap.size + 1 := by
  obtain ⟨es, clock, hb, hp, hw, hc⟩ := h.ex
  refine ⟨w.alloc (.mapIter (some b) clock #[] clock), ?_, ⟨es, clock, clock, #[], ?_, heap_new _ _, hw, fun e he => ⟨hc e he, hc e he⟩, ?_⟩, (Keeps.refl _ _).alloc _, by simp⟩
  · unfold Instr.range
    simp [run_underlying hT, Go.MapKept.run_getObj_map hb]
  · exact (Below.heap_alloc _ _ _ (ltOf hb)).trans hb
  · have : (es.toList.filter fun e => !(#[] : Array Nat).contains e.born) = es.toList := by
      rw [List.filter_eq_self]; intro e _; simp
    rw [this]; exact hp

/-- What is still to come, and what next picks from. -/
def leftOf (es : Array MapEntry) (seen : Array Nat) : Array MapEntry := es.filter fun e => !seen.contains e.born
def candOf (es : Array MapEntry) (seen : Array Nat) : Array (Option MapEntry) := (if (leftOf es seen).isEmpty then #[none] else #[]) ++ (leftOf es seen).map some

theorem next_form {P : Program} {w : World} {ty : TypeId} {r b : Nat} {es : Array MapEntry} {clock since : Nat} {seen : Array Nat}
    (h1 : w.heap[b]? = some (.map es clock)) (h2 : w.heap[r]? = some (.mapIter (some b) since seen clock)) (h4 : ∀ e ∈ es.toList, e.born < since ∧ e.born < clock) :
    (Instr.next (.pointer (some ⟨r, 0, none⟩)) false ty).run P w =
      ((choose (.mapNext (candOf es seen).size)).run P w).andThen fun i w' =>
        (match (candOf es seen)[i]? with
          | some (some e) => do
            setObj r (.mapIter (some b) since (seen.push e.born) clock)
            pure (.tuple #[.bool true, e.key, e.val])
          | some none => pure (.tuple #[.bool false])
          | none => stuck "Next: no such candidate" : Sem Value).run P w' := by
  have hbad : (!seen.isEmpty && !es.isEmpty && es.all (fun e => decide (e.born ≥ clock))) = false := by
    by_cases he : es.size = 0
    · have : es = #[] := Array.eq_empty_of_size_eq_zero he
      simp [this]
    · have hm : es[0]'(by omega) ∈ es.toList := by simp
      have h7 := (h4 _ hm).2
      have : es.all (fun e => decide (e.born ≥ clock)) = false := by
        rw [← Bool.not_eq_true, Array.all_eq_true]
        intro hall
        have h6 := hall 0 (by omega)
        simp at h6; omega
      simp [this]
  have hold : (es.filter fun e => !seen.contains e.born).filter (fun e => decide (e.born < since)) = es.filter fun e => !seen.contains e.born := by
    rw [Array.filter_eq_self]
    intro e he
    have := (h4 e (by simpa using (Array.mem_filter.1 he).1)).1
    simpa using this
  have hnew : (es.filter fun e => !seen.contains e.born).filter (fun e => decide (e.born ≥ since)) = #[] := by
    rw [Array.filter_eq_empty_iff]
    intro e he
    have := (h4 e (by simpa using (Array.mem_filter.1 he).1)).1
    simp; omega
  have g1 := getObj_at (P := P) h2 (by intros; simp)
  have g2 := getObj_at (P := P) h1 (by intros; simp)
  unfold Instr.next
  simp only [Sem.run_bind, g1, g2, Result.andThen_ok, hbad, hold, hnew, Bool.false_eq_true, if_false, Array.append_empty]
  rfl

theorem run_choose {P : Program} {w : World} (q : Question) : (choose q).run P w = if q.forced then .ok 0 w else .ok (q.cut (w.tape w.drawn q)) w.drew := by
  unfold choose
  simp only [Sem.run]
  split <;> rfl

/-- Nothing is left: the range is over. -/
theorem run_next_over {P : Program} {w : World} {ty : TypeId} {r b : Nat} (h : IIter w r b []) : (Instr.next (.pointer (some ⟨r, 0, none⟩)) false ty).run P w = .ok (.tuple #[.bool false]) w := by
  obtain ⟨es, clock, since, seen, h1, h2, h3, h4, h5⟩ := h.ex
  have hleft : leftOf es seen = #[] := by
    rw [← Array.toList_inj]
    simpa [leftOf, pairsOf, ents] using h5
  have hc : candOf es seen = #[none] := by simp [candOf, hleft]
  rw [next_form h1 h2 h4, hc, run_choose]
  simp [Question.forced]

theorem filter_push {l : List MapEntry} {seen : Array Nat} (hp : l.Pairwise (fun x y => x.born < y.born)) {i : Nat} {e : MapEntry} (he : (l.filter fun e => !seen.contains e.born)[i]? = some e) :
    (l.filter fun x => !(seen.push e.born).contains x.born) = (l.filter fun e => !seen.contains e.born).eraseIdx i := by
  have h1 : (l.filter fun x => !(seen.push e.born).contains x.born) = (l.filter fun x => !seen.contains x.born).filter (fun x => x.born != e.born) := by
    rw [List.filter_filter]
    refine List.filter_congr fun x _ => ?_
    by_cases hx : x.born = e.born <;> simp [hx]
  rw [h1]
  generalize hL : (l.filter fun x => !seen.contains x.born) = L at he
  have hpL : L.Pairwise (fun x y => x.born < y.born) := by rw [← hL]; exact hp.sublist List.filter_sublist
  clear hL h1 hp
  induction L generalizing i with
  | nil => simp at he
  | cons a t ih =>
    simp only [List.pairwise_cons] at hpL
    cases i with
    | zero =>
      simp only [List.getElem?_cons_zero, Option.some.injEq] at he
      subst he
      have : t.filter (fun x => x.born != a.born) = t := by
        rw [List.filter_eq_self]; intro x hx; have := hpL.1 x hx; simp; omega
      simp [this]
    | succ i =>
      simp only [List.getElem?_cons_succ] at he
      have hm := List.mem_of_getElem? he
      have := hpL.1 e hm
      have hne : (a.born != e.born) = true := by simp; omega
      simp [hne, ih he hpL.2]

/-- One of what is left comes. -/
theorem run_next_more {P : Program} {w : World} {ty : TypeId} {r b : Nat} {rest : List (Int × Value)} (h : IIter w r b rest) (hne : rest ≠ []) :
    ∃ i p w1, rest[i]? = some p ∧ (Instr.next (.pointer (some ⟨r, 0, none⟩)) false ty).run P w = .ok (.tuple #[.bool true, .int .i64 p.1, p.2]) w1 ∧ IIter w1 r b (rest.eraseIdx i) ∧ Keeps [r] w w1 ∧
      ∀ (l : List Nat) (w2 : World), Keeps l w1 w2 → r ∉ l → b ∉ l → (Instr.entry (.pointer (some ⟨r, 0, none⟩))).run P w2 = .ok (.tuple #[.int .i64 p.1, p.2]) w2 := by
  obtain ⟨es, clock, since, seen, h1, h2, h3, h4, h5⟩ := h.ex
  have hl5 : pairsOf (leftOf es seen).toList = ents rest := by simpa [leftOf] using h5
  have hlen : (leftOf es seen).size = rest.length := by have := congrArg List.length hl5; simpa [pairsOf, ents] using this
  have hpos : 0 < rest.length := List.length_pos_iff.2 hne
  have hemp : (leftOf es seen).isEmpty = false := by
    cases hq : (leftOf es seen).isEmpty with
    | false => rfl
    | true => rw [Array.isEmpty_iff] at hq; rw [hq] at hlen; simp at hlen; omega
  have hc : candOf es seen = (leftOf es seen).map some := by simp [candOf, hemp]
  rw [next_form h1 h2 h4, hc, run_choose]
  simp only [Array.size_map]
  obtain ⟨i, w0, hi, hw0, heq⟩ : ∃ i w0, i < (leftOf es seen).size ∧ (w0 = w ∨ w0 = w.drew) ∧ (if (Question.mapNext (leftOf es seen).size).forced = true then Result.ok 0 w else Result.ok ((Question.mapNext (leftOf es seen).size).cut (w.tape w.drawn (.mapNext (leftOf es seen).size))) w.drew) = Result.ok i w0 := by
    by_cases hf : (Question.mapNext (leftOf es seen).size).forced = true
    · exact ⟨0, w, by omega, .inl rfl, by rw [if_pos hf]⟩
    · exact ⟨_, w.drew, Nat.mod_lt _ (by omega), .inr rfl, by rw [if_neg hf]; rfl⟩
  rw [heq]
  have hp : ∃ p, rest[i]? = some p := ⟨rest[i]'(by omega), by simp⟩
  obtain ⟨p, hp⟩ := hp
  obtain ⟨e, he⟩ : ∃ e, (leftOf es seen)[i]? = some e := ⟨(leftOf es seen)[i], by simp [hi]⟩
  have hek : e.key = .int .i64 p.1 ∧ e.val = p.2 := by
    have := congrArg (fun q : List (Value × Value) => q[i]?) hl5
    simp [pairsOf, ents, hp, he] at this
    exact this
  have hh1 : w0.heap = w.heap := by rcases hw0 with rfl | rfl <;> rfl
  have hh2 : w0.os = w.os := by rcases hw0 with rfl | rfl <;> rfl
  have hh3 : w0.tape = w.tape := by rcases hw0 with rfl | rfl <;> rfl
  have hh4 : w0.output = w.output := by rcases hw0 with rfl | rfl <;> rfl
  have hr0 : w0.heap[r]? = some (.mapIter (some b) since seen clock) := by rw [hh1]; exact h2
  have hrb : r ≠ b := by intro e; rw [e, h1] at h2; cases h2
  refine ⟨i, p, { w0 with heap := w0.heap.setIfInBounds r (.mapIter (some b) since (seen.push e.born) clock) }, hp, ?_, ⟨es, clock, since, seen.push e.born, ?_, ?_, h3, h4, ?_⟩, ⟨hh2, hh3, hh4, by simp [hh1], fun k hk hn => ?_⟩, ?_⟩
  · simp only [Result.andThen_ok, Array.getElem?_map, he, Option.map_some, Sem.run_bind, setObj_at (P := P) _ hr0 (by intros; simp), Sem.run_pure, hek.1, hek.2]
  · simp only
    rw [Array.getElem?_setIfInBounds_ne hrb, hh1]; exact h1
  · exact put_same _ hr0
  · have := filter_push h3 (i := i) (e := e) (seen := seen) (by simpa [leftOf] using congrArg (fun x => x) (show (leftOf es seen).toList[i]? = some e by simpa using he))
    rw [this]
    simp only [pairsOf, ents] at h5 ⊢
    rw [eraseIdx_map', h5, ← eraseIdx_map']
  · have : r ≠ k := by intro e; subst e; simp at hn
    simp only
    rw [Array.getElem?_setIfInBounds_ne this, hh1]
  · intro l w2 hk hrl hbl
    have q1 := hk.blk (b := r) (put_same (.mapIter (some b) since (seen.push e.born) clock) hr0) hrl
    have q2 := hk.blk (b := b) (o := .map es clock) (by simp only; rw [Array.getElem?_setIfInBounds_ne hrb, hh1]; exact h1) hbl
    have g1 := getObj_at (P := P) q1 (by intros; simp)
    have g2 := getObj_at (P := P) q2 (by intros; simp)
    have hem : e ∈ es.toList := by
      have : e ∈ (leftOf es seen).toList := List.mem_of_getElem? (i := i) (by simpa using he)
      simp [leftOf] at this
      simpa using this.1
    have hfind : es.find? (fun x => x.born == e.born) = some e := by
      rw [← Array.find?_toList]
      cases hq : es.toList.find? (fun x => x.born == e.born) with
      | none => have := List.find?_eq_none.1 hq e hem; simp at this
      | some x =>
        have hx1 := List.mem_of_find?_eq_some hq
        have hx2 : x.born = e.born := by simpa using List.find?_some hq
        obtain ⟨a, ha, hxa⟩ := List.getElem_of_mem hx1
        obtain ⟨c, hc, hec⟩ := List.getElem_of_mem hem
        have hpw := List.pairwise_iff_getElem.1 h3
        rcases Nat.lt_trichotomy a c with hlt | rfl | hlt
        · have := hpw a c ha hc hlt; rw [hxa, hec] at this; omega
        · rw [← hxa, ← hec]
        · have := hpw c a hc ha hlt; rw [hxa, hec] at this; omega
    unfold Instr.entry
    simp [g1, g2, hfind, hek.1, hek.2]

end Go.Proofs.YthjghcfnopancaaGreat

/-
  Free of a model: contract.
-/
namespace Go.Proofs.YthjghcfnopancaaGreat
open Go.RowKit Go.Shelf Go.Maps Go.Deep

def sumF : List (Int × Kn) → Int
  | [] => 0
  | p :: t => p.2.s.frames + sumF t
theorem sumF_erase : ∀ (l : List (Int × Kn)) (i : Nat) (p : Int × Kn), l[i]? = some p → sumF (l.eraseIdx i) = sumF l - p.2.s.frames
  | a :: t, 0, p, h => by simp only [List.getElem?_cons_zero, Option.some.injEq] at h; subst h; simp [sumF]; omega
  | a :: t, i + 1, p, h => by
    simp only [List.getElem?_cons_succ] at h
    have := sumF_erase t i p h
    simp [sumF, this]; omega
theorem sumF_bound (q : Int) (hq : 0 ≤ q) : ∀ (l : List (Int × Kn)), (∀ p ∈ l, 0 ≤ p.2.s.frames ∧ p.2.s.frames ≤ q) → 0 ≤ sumF l ∧ sumF l ≤ q * l.length
  | [], _ => by simp [sumF]
  | p :: t, h => by
    have h1 := sumF_bound q hq t (fun x hx => h x (by simp [hx]))
    have h2 := h p (by simp)
    simp only [sumF, List.length_cons]
    have : q * ((t.length + 1 : Nat) : Int) = q * t.length + q := by rw [Int.natCast_add, Int.mul_add]; simp
    omega

theorem lmap_at {R : List (Int × Kn)} {i : Nat} {p : Int × Value} (h : (lmap R)[i]? = some p) : ∃ x, R[i]? = some x ∧ p = (x.1, x.2.val) := by
  simp only [lmap, List.getElem?_map, Option.map_eq_some_iff] at h
  obtain ⟨x, hx, rfl⟩ := h
  exact ⟨x, hx, rfl⟩
theorem lmap_erase (R : List (Int × Kn)) (i : Nat) : (lmap R).eraseIdx i = lmap (R.eraseIdx i) := by
  simp only [lmap, eraseIdx_map']

/-- How many frames nobody holds. -/
def MS.free (S : MS) : Int := S.c.frames - sumF S.live

set_option maxRecDepth 100000 in
set_option maxHeartbeats 1000000 in
theorem free_any {m t tb lb : Nat} {S : MS} {w : World} (h : ModelAt w m t tb lb S) (hV : Valid S) (hN : Known S) :
    Calls Tryz.prog 13 #[.pointer (some ⟨m, 0, none⟩)] w fun e w' => e = .returned (.int .i64 S.free) ∧ Keeps [] w w' := by
  have c1 : w.cell? ⟨m, 1, none⟩ = some (.int .i64 S.c.frames) := cellOf h.blk 1 rfl
  have c6 : w.cell? ⟨m, 6, none⟩ = some (.map (some lb)) := cellOf h.blk 6 rfl
  have hNn := Lib.hid (mnone_at h)
  obtain ⟨w1, hrg, hit, hk1, hsz⟩ := run_range (P := Tryz.prog) Tryz.underlying54 h.live
  have hlb := h.live.lt
  have Hit := Lib.hid hit
  have HN := Lib.hid hN.frames
  have hfr := hV.ok.f
  have hq := hV.ok.q
  have hs := hV.ok.s
  have hcnt := hV.count
  have hsz' := Lib.hid hsz
  unfold MS.free
  generalize S.c.frames = f at *
  generalize S.c.quota = q at *
  generalize S.live = L at *
  clear h hV hN hit hsz
  go_enter Tryz.func13, Tryz.ntmps13
  go_wp2_with (go_at_call 39; refine (hNn.out).mono ?_; rintro e w' ⟨rfl, rfl⟩)
  go_loopg [3] L.length (fun k n wr => ∃ R : List (Int × Kn), k = R.length ∧ n = .int .i64 (f - (sumF L - sumF R)) ∧ (∀ p ∈ R, p ∈ L) ∧ R.length ≤ L.length ∧ IIter wr w.heap.size lb (lmap R) ∧ Keeps [] w wr ∧ w.heap.size < wr.heap.size)
  case atStart => exact ⟨L, rfl, by congr 1; omega, fun _ h => h, Nat.le_refl _, Hit.out, hk1, by rw [hsz'.out]; omega⟩
  case round =>
    obtain ⟨R, rfl, rfl, hR, hRl, hI, hk, hlt⟩ := hrel
    have HI := Lib.hid hI
    have HR := Lib.hid hR
    have hbR := sumF_bound q (by omega) R (fun p hp => HN.out p (hR p hp))
    have hbL := sumF_bound q (by omega) L HN.out
    have hm1 : q * (R.length : Int) ≤ 64 * 64 := Int.mul_le_mul (by omega) (by omega) (by omega) (by omega)
    have hm2 : q * (L.length : Int) ≤ 64 * 64 := Int.mul_le_mul (by omega) (by omega) (by omega) (by omega)
    obtain ⟨a, ha⟩ : ∃ a, a = f - (sumF L - sumF R) := ⟨_, rfl⟩
    have ha1 : -5000 ≤ a := by omega
    have ha2 : a ≤ 5000 := by omega
    rw [← ha]
    have Ha := Lib.hid ha
    clear ha hI hR hrg hk1 hbR hbL hm1 hm2
    by_cases hR0 : R = []
    · subst hR0
      have hnx : ∀ ty, (Instr.next (.pointer (some ⟨w.heap.size, 0, none⟩)) false ty).run Tryz.prog wr = .ok (.tuple #[.bool false]) wr := fun ty => run_next_over HI.out
      go_wp2
      go_ret
      refine ⟨?_, hk⟩
      rw [Ha.out]; simp [sumF]
    · have hne : lmap R ≠ [] := by simpa [lmap] using hR0
      obtain ⟨i, p, w2, hp, hnx0, hI2, hk2, hent⟩ := run_next_more (P := Tryz.prog) (ty := 0) HI.out hne
      obtain ⟨⟨id, kn⟩, hx, rfl⟩ := lmap_at hp
      have hnx : ∀ ty, (Instr.next (.pointer (some ⟨w.heap.size, 0, none⟩)) false ty).run Tryz.prog wr = .ok (.tuple #[.bool true, .int .i64 id, kn.val]) w2 := fun ty => hnx0
      have hen := hent [] w2 (Keeps.refl _ _) (by simp) (by simp)
      have hfk := HN.out _ (HR.out _ (List.mem_of_getElem? hx))
      have hfk1 : 0 ≤ kn.s.frames := hfk.1
      have hfk2 : kn.s.frames ≤ 64 := by have := hfk.2; simp only at this; omega
      have Hx := Lib.hid hx
      have HI2 := Lib.hid hI2
      have hi : i < R.length := by
        rcases Nat.lt_or_ge i R.length with h | h
        · exact h
        · rw [List.getElem?_eq_none h] at hx; cases hx
      clear hp hnx0 hent hI2 hfk hx hR0 hne
      simp only at hen
      go_wp2
      go_roundg (R.length - 1)
      case measure => omega
      case rel =>
        refine ⟨R.eraseIdx i, by rw [List.length_eraseIdx_of_lt hi], ?_, fun p hp => HR.out p ((List.eraseIdx_sublist _ _).subset hp), by rw [List.length_eraseIdx_of_lt hi]; omega, ?_, ?_, ?_⟩
        · rw [sumF_erase R i _ Hx.out, Ha.out]; congr 1; simp only; omega
        · rw [← lmap_erase]; exact HI2.out.keep ((Keeps.refl [] _).alloc _) (by simp) (by simp)
        · exact (hk.trans' hk2 (by intro j hj h2; simp at hj; omega)).alloc _
        · have := hk2.size; simp; omega

end Go.Proofs.YthjghcfnopancaaGreat
