/-
  See, Status of a model: contracts.
-/
import Derived.Test.YthjghcfnopancaaSee
import Derived.Test.YthjghcfnopancaaSeeB
namespace Go.Proofs.Ythjghcfnopancaa
open Go.RowKit Go.Shelf Go.Maps

theorem ask_see {bm bs m t tb lb : Nat} {S : MS} (k : Kn) (s : St) (w : World) (h : ModelAt w m t tb lb S) (hs : w.heap[bs]? = some (.cells #[.int .i64 s.cause, .int .i64 s.queued, .int .i64 s.left, .int .i64 s.free, .int .i64 s.frames, .int .i64 s.pictures, .int .i64 s.gone] 27 (0, 0)))
    (hm : w.cell? ⟨bm, 0, none⟩ = some (.pointer (some ⟨m, 0, none⟩))) :
    (k.may S.c s = false → Calls Try.prog 25 #[k.val, .pointer (some ⟨bs, 0, none⟩), .pointer (some ⟨bm, 0, none⟩)] w fun e w' => e = .returned (.tuple #[({ k with s := s } : Kn).val, .int .i64 0, .int .i64 2]) ∧ Keeps [] w w') ∧
    (k.may S.c s = true → Calls Try.prog 25 #[k.val, .pointer (some ⟨bs, 0, none⟩), .pointer (some ⟨bm, 0, none⟩)] w fun e w' => e = .returned (.tuple #[(({ k with s := s } : Kn).counts S.c.room).val, .int .i64 0, .int .i64 0]) ∧ Keeps [] w w') := by
  have hr : w.cell? ⟨m, 3, none⟩ = some (.int .i64 S.c.room) := cellOf h.blk 3 rfl
  have hq : w.cell? ⟨m, 2, none⟩ = some (.int .i64 S.c.quota) := cellOf h.blk 2 rfl
  have ho : w.cell? ⟨m, 4, none⟩ = some (.int .i64 S.c.slots) := cellOf h.blk 4 rfl
  unfold Kn.may
  cases dA : decide ((({ k with s := s } : Kn).counts S.c.room).s = s)
  · exact ⟨fun _ => see1_a bm bs m _ _ _ k s w hs hm hr hq ho dA, by simp⟩
  cases dB : decide (k.s.gone ≤ s.gone ∧ s.gone ≤ wrap64 (8 * k.came))
  · exact ⟨fun _ => see1_b bm bs m _ _ _ k s w hs hm hr hq ho dA dB, by simp⟩
  cases dC : decide (0 ≤ s.queued ∧ s.queued ≤ S.c.slots)
  · exact ⟨fun _ => see1_c bm bs m _ _ _ k s w hs hm hr hq ho dA dB dC, by simp⟩
  cases dD : decide (0 ≤ s.frames ∧ s.frames ≤ S.c.quota)
  · exact ⟨fun _ => see1_d bm bs m _ _ _ k s w hs hm hr hq ho dA dB dC dD, by simp⟩
  cases dE : decide (s.pictures < k.s.pictures)
  · have dE' : decide (k.s.pictures ≤ s.pictures) = true := by simp at dE ⊢; omega
    cases dF : (k.s.cause != 0)
    · have dF' : (k.s.cause == 0) = true := by simpa using dF
      rw [dE', dF']
      exact ⟨by simp, fun _ => see1_h bm bs m _ _ _ k s w hs hm hr hq ho dA dB dC dD dE dF⟩
    · have dF' : (k.s.cause == 0) = false := by simpa using dF
      cases dG : (s.cause != k.s.cause)
      · have dG' : (s.cause == k.s.cause) = true := by simpa using dG
        rw [dE', dF', dG']
        exact ⟨by simp, fun _ => see1_g bm bs m _ _ _ k s w hs hm hr hq ho dA dB dC dD dE dF dG⟩
      · have dG' : (s.cause == k.s.cause) = false := by simpa using dG
        rw [dE', dF', dG']
        exact ⟨fun _ => see1_f bm bs m _ _ _ k s w hs hm hr hq ho dA dB dC dD dE dF dG, by simp⟩
  · have dE' : decide (k.s.pictures ≤ s.pictures) = false := by simp at dE ⊢; omega
    rw [dE']
    exact ⟨fun _ => see1_e bm bs m _ _ _ k s w hs hm hr hq ho dA dB dC dD dE, by simp⟩

set_option maxHeartbeats 800000 in
theorem see_any {m t tb lb : Nat} {S : MS} {w : World} (h : ModelAt w m t tb lb S) (hV : Valid S) (id : Int) (s : St) :
    Calls Try.prog 7 #[.pointer (some ⟨m, 0, none⟩), .int .i64 id, s.val] w fun e w' =>
      e = .returned (.int .i64 (S.see id s).1) ∧ Left lb w w' m t tb (S.see id s).2 := by
  obtain ⟨W, hW⟩ : ∃ W, (w.alloc (.cells #[.pointer (some ⟨m, 0, none⟩)] 22)).alloc (.cells #[.int .i64 s.cause, .int .i64 s.queued, .int .i64 s.left, .int .i64 s.free, .int .i64 s.frames, .int .i64 s.pictures, .int .i64 s.gone] 27) = W := ⟨_, rfl⟩
  have hk0 : Keeps [] w W := by rw [← hW]; exact ((Keeps.refl _ _).alloc _).alloc _
  have hM := h.keep hk0 (by simp) (by simp) (by simp) (by simp)
  have hbm : W.heap[w.heap.size]? = some (.cells #[.pointer (some ⟨m, 0, none⟩)] 22 (0, 0)) := by rw [← hW]; exact (Below.heap_alloc _ _ _ (by simp)).trans (heap_new _ _)
  have hbs : W.heap[w.heap.size + 1]? = some (.cells #[.int .i64 s.cause, .int .i64 s.queued, .int .i64 s.left, .int .i64 s.free, .int .i64 s.frames, .int .i64 s.pictures, .int .i64 s.gone] 27 (0, 0)) := by rw [← hW]; exact heap_new_at _ (by simp)
  have hfin : ∀ (e : Int) (S' : MS) (w' : World), S.see id s = (e, S') → Left lb W w' m t tb S' → Left lb w w' m t tb (S.see id s).2 := by
    intro e S' w' hs hl
    rw [hs]
    exact ⟨(hk0.mono (by simp)).trans hl.1, hl.2⟩
  have key : Calls Try.prog 24 #[.pointer (some ⟨m, 0, none⟩), .int .i64 id, .int .i64 0, .func (.func 25) #[] #[.pointer (some ⟨w.heap.size + 1, 0, none⟩), .pointer (some ⟨w.heap.size, 0, none⟩)]] W fun e w' =>
      e = .returned (.tuple #[.int .i64 0, .int .i64 (S.see id s).1]) ∧ Left lb w w' m t tb (S.see id s).2 := by
    rcases hV.cases id with hr | ⟨hr, k, hk, -, hc⟩
    · have hs : S.see id s = (refusal S.l id, S) := by simp [MS.see, hr]
      refine (askint_refused hM hV.s1 id 0 _ hr).mono ?_
      rintro e w' ⟨rfl, hk1⟩
      exact ⟨by rw [hs], hfin _ _ _ hs (Left.same hM hk1)⟩
    · have hg := MS.get_of hV.nodup hk
      have hw : ∀ w1, Keeps [] W w1 → _ := fun w1 (hk1 : Keeps [] W w1) => ask_see k s w1 (hM.keep hk1 (by simp) (by simp) (by simp) (by simp)) (hk1.blk hbs (by simp)) (cellOf (hk1.blk hbm (by simp)) 0 rfl)
      by_cases hm : k.may S.c s = true
      · have hs : S.see id s = (0, S.set id (({ k with s := s } : Kn).counts S.c.room)) := by simp [MS.see, hr, hg, hm]
        refine (askint_yes hM hV.s1 id 0 k hV.nodup hk hc 25 _ (enters_of Try.func25 (by kernel_rfl) rfl) (({ k with s := s } : Kn).counts S.c.room) 0 ?_).mono ?_
        · intro w1 hk1; exact (hw w1 hk1).2 hm
        · rintro e w' ⟨rfl, hk1, hI⟩
          exact ⟨by rw [hs], hfin _ _ _ hs (Left.put hM hV hk hk1 hI)⟩
      · have hm' : k.may S.c s = false := by simpa using hm
        have hs : S.see id s = (2, S) := by simp [MS.see, hr, hg, hm']
        refine (askint_no hM hV.s1 id 0 k hV.nodup hk hc 25 _ (enters_of Try.func25 (by kernel_rfl) rfl) { k with s := s } 0 2 (by decide) ?_).mono ?_
        · intro w1 hk1; exact (hw w1 hk1).1 hm'
        · rintro e w' ⟨rfl, hk1⟩
          exact ⟨by rw [hs], hfin _ _ _ hs (Left.same hM hk1)⟩
  have HK := Lib.hid key
  clear key hfin hbm hbs hM hV h hk0
  subst hW
  go_enter Try.func7, Try.ntmps7
  go_wp2_with (go_at_call 24; refine (HK.out).mono ?_; rintro e w1 ⟨rfl, hk⟩)
  go_ret
  exact ⟨rfl, hk⟩

end Go.Proofs.Ythjghcfnopancaa
