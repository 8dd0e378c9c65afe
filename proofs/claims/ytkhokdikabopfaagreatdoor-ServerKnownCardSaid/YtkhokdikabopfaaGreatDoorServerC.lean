/-
  Server: ends.
-/
import Derived.Test.YtkhokdikabopfaaGreatDoorServerB
namespace Go.Proofs.YtkhokdikabopfaaGreatDoor
open Go.RowKit Go.Shelf Go.Maps

/-- What the map of clients holds. -/
def cmap (L : List Sess) : List (Int × Value) := L.map fun z => (z.id, .pointer (some ⟨z.k, 0, none⟩))

theorem look_cl : ∀ {L : List Sess}, (L.map (·.id)).Nodup → ∀ {z : Sess}, z ∈ L → look (cmap L) z.id = some (.pointer (some ⟨z.k, 0, none⟩))
  | a :: t, hn, z, hz => by
    simp only [List.map_cons, List.nodup_cons] at hn
    simp only [List.mem_cons] at hz
    rcases hz with rfl | hz
    · simp [cmap, look]
    · have : ¬ z.id = a.id := fun e => hn.1 (List.mem_map.2 ⟨z, hz, e⟩)
      have ih := look_cl hn.2 hz
      simp only [cmap] at ih ⊢
      simp [look, this, ih]

theorem del_cl {id : Int} : ∀ {L : List Sess}, (L.map (·.id)).Nodup → del (cmap L) id = cmap (L.filter fun z => z.id != id)
  | [], _ => rfl
  | a :: t, hn => by
    simp only [List.map_cons, List.nodup_cons] at hn
    have ih := del_cl (id := id) hn.2
    by_cases e : id = a.id
    · have h2 : t.filter (fun z => z.id != id) = t := by
        rw [List.filter_eq_self]
        intro p hp
        have : p.id ≠ id := fun e2 => hn.1 (List.mem_map.2 ⟨p, hp, e2.trans e⟩)
        simpa using this
      have e3 : (a.id != id) = false := by simp [e]
      rw [List.filter_cons, e3]
      simp only [Bool.false_eq_true, if_false]
      rw [h2]
      simp [cmap, del, e]
    · have e' : ¬ a.id = id := fun h => e h.symm
      simp only [cmap] at ih ⊢
      simp [del, e, e', ih]

theorem sep_of : ∀ {L : List Sess}, L.Pairwise (fun a b => a.hi ≤ b.lo) → ∀ {a b : Sess}, a ∈ L → b ∈ L → a.id ≠ b.id → a.hi ≤ b.lo ∨ b.hi ≤ a.lo
  | x :: t, hp, a, b, ha, hb, hne => by
    simp only [List.pairwise_cons] at hp
    simp only [List.mem_cons] at ha hb
    rcases ha with rfl | ha <;> rcases hb with rfl | hb
    · exact absurd rfl hne
    · exact .inl (hp.1 _ hb)
    · exact .inr (hp.1 _ ha)
    · exact sep_of hp.2 ha hb hne

set_option maxRecDepth 100000 in
set_option maxHeartbeats 1000000 in
theorem vends {P : SrvP} {c : Cf} {last : Int} {l : List (Int × Int)} {L : List Sess} {w : World} (h : SrvAt w P c last l L) (hc : c.ok) (hO : VOk last l L) {z : Sess} (hz : z ∈ L) (cause : Int) (hcz : cause ≠ 0) :
    Calls Tryz.prog 40 #[.pointer (some ⟨P.s, 0, none⟩), .int .i64 z.id, .int .i64 cause] w fun e w' => e = .returned (.tuple #[]) ∧ Keeps [z.x, z.o, P.cb, P.tb] w w' ∧ SrvAt w' P c last (ended l z.id cause) (L.filter fun y => y.id != z.id) := by
  obtain ⟨c1, c2, c3, c4, c5, c6, c7⟩ := h.c
  obtain ⟨hS, g1, g2, g3, g4, g5, g6⟩ := h.sess z hz
  have hne := hS.ne
  have hlt := h.pool.lt
  have hcx := map_ne h.blk h.cl
  have htx := map_ne h.blk h.tbl.map
  have hD := Lib.hid (sdrop hS h.pool (by have := hc.o.1; omega) (by have := hc.q.1; omega) (by have := hc.f.2; omega) g5)
  have k0 : w.cell? ⟨z.k, 0, none⟩ = some (.pointer (some ⟨z.x, 0, none⟩)) := cellOf hS.k 0 rfl
  have hlk := (run_lookup_yes (P := Tryz.prog) Tryz.underlying47 Tryz.underlying3 h.cl (look_cl hO.nodup hz)).1
  have H := Lib.hid h
  have HO := Lib.hid hO
  have hm := Lib.hid (hO.mem hz)
  clear h hO hS
  go_enter Tryz.func40, Tryz.ntmps40
  have n1 : P.s ∉ [z.x, z.o] ∧ P.t ∉ [z.x, z.o] ∧ P.tb ∉ [z.x, z.o] ∧ P.cb ∉ [z.x, z.o] := by simp; omega
  have n2 : P.t ≠ P.cb ∧ P.t ≠ P.tb ∧ P.cb ≠ P.tb := ⟨map_ne H.out.tbl.blk H.out.cl, map_ne H.out.tbl.blk H.out.tbl.map, H.out.ne⟩
  have n2 := Lib.hid n2
  have n1 := Lib.hid n1
  go_wp2_with (first
    | (go_at_call 66; refine (hD.out).mono ?_; rintro e w1 ⟨rfl, hk⟩
       have hb := hk.blk H.out.blk n1.out.1
       have d5 : w1.cell? ⟨P.s, 5, none⟩ = some (.pointer (some ⟨P.t, 0, none⟩)) := cellOf hb 5 rfl
       have d7 : w1.cell? ⟨P.s, 7, none⟩ = some (.map (some P.cb)) := cellOf hb 7 rfl
       obtain ⟨w2, hr, hM, hk2⟩ := run_delete (P := Tryz.prog) (ty := 0) (ts := #[47, 3]) Tryz.underlying47 Tryz.underlying3 (H.out.cl.keep hk n1.out.2.2.2) z.id rfl
       have hb2 := hk2.blk hb (by simpa using hcx)
       have e5 : w2.cell? ⟨P.s, 5, none⟩ = some (.pointer (some ⟨P.t, 0, none⟩)) := cellOf hb2 5 rfl
       have hT : TblAt w2 P.t P.tb c.sessions last l := ⟨hk2.blk (hk.blk H.out.tbl.blk n1.out.2.1) (by simpa using n2.out.1), (H.out.tbl.map.keep hk n1.out.2.2.1).keep hk2 (by simpa using n2.out.2.2.symm)⟩
       have hE := Lib.hid (tend_live hT (by have := hc.s.1; omega) HO.out.rise.nodup z.id cause hcz hm.out)
       have hb2 := Lib.hid hb2
       have hM := Lib.hid hM
       clear hT hb)
    | (go_at_call 67; refine (hE.out).mono ?_; rintro e w3 ⟨rfl, hk3, hT3⟩))
  go_end0
  have hK : Keeps [z.x, z.o, P.cb, P.tb] w w3 := ((hk.mono (l' := [z.x, z.o, P.cb, P.tb]) (by simp)).trans (hk2.mono (by simp))).trans (hk3.mono (by simp))
  have hH := H.out
  refine ⟨rfl, hK, ⟨hk3.blk hb2.out (by simpa using htx), hT3, ?_, hH.out, ?_, hH.ne, Nat.le_trans hH.top hK.size, ?_, hH.sep.sublist List.filter_sublist⟩⟩
  · exact hH.pool.keep hK (by have := hH.out; simp; omega)
  · have := hM.out.keep hk3 (by simpa using n2.out.2.2)
    have h2 : IMap w3 P.cb (del (cmap L) z.id) := this
    rw [del_cl HO.out.nodup] at h2
    exact h2
  · intro y hy
    obtain ⟨hy1, hy2⟩ := List.mem_filter.1 hy
    have hyz : y.id ≠ z.id := by simpa using hy2
    obtain ⟨q1, q2, q3, q4, q5, q6, q7⟩ := hH.sess y hy1
    have hs := sep_of hH.sep hy1 hz hyz
    refine ⟨q1.keep hK ?_, q2, q3, q4, q5, q6, Nat.le_trans q7 hK.size⟩
    simp; omega

end Go.Proofs.YtkhokdikabopfaaGreatDoor
