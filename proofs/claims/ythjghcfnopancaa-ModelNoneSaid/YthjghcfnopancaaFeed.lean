/-
  Feed, End, See of a model: contracts.
-/
import Derived.Test.YthjghcfnopancaaState
import Derived.RangeFuncOwn
namespace Go.Proofs.Ythjghcfnopancaa
open Go.RowKit Go.Shelf Go.Maps

set_option maxHeartbeats 400000 in
theorem counts_any (m : Nat) (room : Int) (k : Kn) (w : World) (hc : w.cell? ⟨m, 3, none⟩ = some (.int .i64 room)) :
    Calls Try.prog 26 #[.pointer (some ⟨m, 0, none⟩), k.val] w fun e w' => e = .returned (k.counts room).val ∧ Keeps [] w w' := by
  obtain ⟨a1, x, a2, a3, a4, a5, a6, a7, a8⟩ := k
  have hm : m < w.heap.size := by
    have h := hc
    unfold World.cell? at h
    cases hh : w.heap[m]? with
    | none => simp [hh] at h
    | some o => exact ltOf hh
  go_enter Try.func26, Try.ntmps26
  go_wp2
  go_region
  go_wp2
  exact bodyPost_ret (res_c rfl agg_known rfl rfl (heap_new_at _ (by simp))) rfl ⟨rfl, (by repeat (first | exact Keeps.refl _ _ | assumption | refine Keeps.drew ?_ | refine Keeps.drewN ?_ _ | refine Keeps.alloc ?_ _ | refine Keeps.setCell ?_ (by simp <;> omega) _ | refine Keeps.trans ?_ (by assumption)))⟩

set_option maxHeartbeats 400000 in
theorem feed1_neg (bm bn : Nat) (n : Int) (k : Kn) (w : World) (hn : w.cell? ⟨bn, 0, none⟩ = some (.int .i64 n)) (h : n < 0) (hbn : bn < w.heap.size) :
    Calls Try.prog 37 #[k.val, .pointer (some ⟨bn, 0, none⟩), .pointer (some ⟨bm, 0, none⟩)] w fun e w' => e = .returned (.tuple #[k.val, .int .i64 0, .int .i64 3]) ∧ Keeps [] w w' := by
  obtain ⟨a1, x, a2, a3, a4, a5, a6, a7, a8⟩ := k
  go_enter Try.func37, Try.ntmps37
  go_wp2
  exact bodyPost_ret (res_ctt rfl agg_known rfl rfl rfl rfl (heap_new_at _ (by simp))) rfl ⟨rfl, (by repeat (first | exact Keeps.refl _ _ | assumption | refine Keeps.drew ?_ | refine Keeps.drewN ?_ _ | refine Keeps.alloc ?_ _ | refine Keeps.setCell ?_ (by simp <;> omega) _ | refine Keeps.trans ?_ (by assumption)))⟩

set_option maxHeartbeats 400000 in
theorem feed1_ended (bm bn : Nat) (n : Int) (k : Kn) (w : World) (hn : w.cell? ⟨bn, 0, none⟩ = some (.int .i64 n)) (h : ¬ n < 0) (he : k.ended = true) (hbn : bn < w.heap.size) :
    Calls Try.prog 37 #[k.val, .pointer (some ⟨bn, 0, none⟩), .pointer (some ⟨bm, 0, none⟩)] w fun e w' => e = .returned (.tuple #[k.val, .int .i64 0, .int .i64 20]) ∧ Keeps [] w w' := by
  obtain ⟨a1, x, a2, a3, a4, a5, a6, a7, a8⟩ := k
  simp only at he
  subst he
  go_enter Try.func37, Try.ntmps37
  go_wp2
  exact bodyPost_ret (res_ctt rfl agg_known rfl rfl rfl rfl (heap_new_at _ (by simp))) rfl ⟨rfl, (by repeat (first | exact Keeps.refl _ _ | assumption | refine Keeps.drew ?_ | refine Keeps.drewN ?_ _ | refine Keeps.alloc ?_ _ | refine Keeps.setCell ?_ (by simp <;> omega) _ | refine Keeps.trans ?_ (by assumption)))⟩

set_option maxHeartbeats 800000 in
theorem feed1_yes (bm bn m : Nat) (n room : Int) (k : Kn) (w : World) (hn : w.cell? ⟨bn, 0, none⟩ = some (.int .i64 n)) (hm : w.cell? ⟨bm, 0, none⟩ = some (.pointer (some ⟨m, 0, none⟩)))
    (hr : w.cell? ⟨m, 3, none⟩ = some (.int .i64 room)) (h : ¬ n < 0) (he : k.ended = false) (hbn : bn < w.heap.size) (hbm : bm < w.heap.size) :
    Calls Try.prog 37 #[k.val, .pointer (some ⟨bn, 0, none⟩), .pointer (some ⟨bm, 0, none⟩)] w fun e w' =>
      e = .returned (.tuple #[(({ k with came := wrap64 (k.came + min n k.s.free) } : Kn).counts room).val, .int .i64 (min n k.s.free), .int .i64 0]) ∧ Keeps [] w w' := by
  obtain ⟨a1, x, a2, a3, a4, a5, a6, a7, a8⟩ := k
  simp only at he
  subst he
  go_enter Try.func37, Try.ntmps37
  go_wp2_with fail
  refine (counts_any m room ⟨wrap64 (a1 + min n a5), false, ⟨a2, a3, a4, a5, a6, a7, a8⟩⟩ _ ?_).mono ?_
  · exact (((Keeps.refl [] _).alloc _).alloc _).cell hr (by simp)
  · rintro e w1 ⟨rfl, hk⟩
    obtain ⟨b0, b1, hk⟩ := hk.new2 (by simp) (by simp)
    have hb1 := Lib.hid b1
    obtain ⟨r0, r1, r2, r3, r4, r5, r6, r7, r8⟩ := cells9 b1
    have fr := frees b1
    clear b0 b1
    go_wp2
    exact bodyPost_ret (res_ctt rfl agg_known rfl rfl rfl rfl (stored9 hb1.out)) rfl ⟨rfl, hk.store9 (fun h => by omega)⟩


/-- What a call leaves of a model. -/
def Left (lb : Nat) (w w' : World) (m t tb : Nat) (S : MS) : Prop := Keeps [lb] w w' ∧ ModelAt w' m t tb lb S

theorem Left.same {lb : Nat} {w w' : World} {m t tb : Nat} {S : MS} (h : ModelAt w m t tb lb S) (hk : Keeps [] w w') : Left lb w w' m t tb S :=
  ⟨hk.mono (by simp), h.keep hk (by simp) (by simp) (by simp) (by simp)⟩
theorem Left.put {lb : Nat} {w w' : World} {m t tb : Nat} {S : MS} (h : ModelAt w m t tb lb S) (hV : Valid S) {id : Int} {k k' : Kn} (hk : (id, k) ∈ S.live) (hK : Keeps [lb] w w') (hI : IMap w' lb (put (lmap S.live) id k'.val)) :
    Left lb w w' m t tb (S.set id k') := by
  rw [put_lmap hV.nodup (List.mem_map.2 ⟨_, hk, rfl⟩)] at hI
  have h1 := map_ne h.blk h.live
  have h2 := map_ne h.tbl.blk h.live
  exact ⟨hK, hK.blk h.blk (by simpa using h1), h.tbl.keep hK (by simpa using h2) (by simpa using h.ne), hI, h.ne⟩

set_option maxHeartbeats 800000 in
theorem feed_any {m t tb lb : Nat} {S : MS} {w : World} (h : ModelAt w m t tb lb S) (hV : Valid S) (id n : Int) :
    Calls Try.prog 20 #[.pointer (some ⟨m, 0, none⟩), .int .i64 id, .int .i64 n] w fun e w' =>
      e = .returned (.tuple #[.int .i64 (S.feed id n).1, .int .i64 (S.feed id n).2.1]) ∧ Left lb w w' m t tb (S.feed id n).2.2 := by
  obtain ⟨W, hW⟩ : ∃ W, (w.alloc (.cells #[.pointer (some ⟨m, 0, none⟩)] 22)).alloc (.cells #[.int .i64 n] 3) = W := ⟨_, rfl⟩
  have hk0 : Keeps [] w W := by rw [← hW]; exact ((Keeps.refl _ _).alloc _).alloc _
  have hM := h.keep hk0 (by simp) (by simp) (by simp) (by simp)
  have hsz : W.heap.size = w.heap.size + 2 := by rw [← hW]; simp
  have hbm : W.heap[w.heap.size]? = some (.cells #[.pointer (some ⟨m, 0, none⟩)] 22 (0, 0)) := by rw [← hW]; exact (Below.heap_alloc _ _ _ (by simp)).trans (heap_new _ _)
  have hbn : W.heap[w.heap.size + 1]? = some (.cells #[.int .i64 n] 3 (0, 0)) := by rw [← hW]; exact heap_new_at _ (by simp)
  have hfin : ∀ (x e : Int) (S' : MS) (w' : World), S.feed id n = (x, e, S') → Left lb W w' m t tb S' → Left lb w w' m t tb (S.feed id n).2.2 := by
    intro x e S' w' hs hl
    rw [hs]
    exact ⟨(hk0.mono (by simp)).trans hl.1, hl.2⟩
  have key : Calls Try.prog 24 #[.pointer (some ⟨m, 0, none⟩), .int .i64 id, .int .i64 0, .func (.func 37) #[] #[.pointer (some ⟨w.heap.size + 1, 0, none⟩), .pointer (some ⟨w.heap.size, 0, none⟩)]] W fun e w' =>
      e = .returned (.tuple #[.int .i64 (S.feed id n).1, .int .i64 (S.feed id n).2.1]) ∧ Left lb w w' m t tb (S.feed id n).2.2 := by
    rcases hV.cases id with hr | ⟨hr, k, hk, -, hc⟩
    · have hs : S.feed id n = (0, refusal S.l id, S) := by simp [MS.feed, hr]
      refine (askint_refused hM hV.s1 id 0 _ hr).mono ?_
      rintro e w' ⟨rfl, hk1⟩
      exact ⟨by rw [hs], hfin _ _ _ _ hs (Left.same hM hk1)⟩
    · have hg := MS.get_of hV.nodup hk
      by_cases hn : n < 0
      · have hs : S.feed id n = (0, 3, S) := by simp [MS.feed, hr, hg, hn]
        refine (askint_no hM hV.s1 id 0 k hV.nodup hk hc 37 _ (enters_of Try.func37 (by kernel_rfl) rfl) k 0 3 (by decide) ?_).mono ?_
        · intro w1 hk1
          exact feed1_neg _ _ n k w1 (cellOf (hk1.blk hbn (by simp)) 0 rfl) hn (ltOf (hk1.blk hbn (by simp)))
        · rintro e w' ⟨rfl, hk1⟩
          exact ⟨by rw [hs], hfin _ _ _ _ hs (Left.same hM hk1)⟩
      · by_cases he : k.ended = true
        · have hs : S.feed id n = (0, 20, S) := by simp [MS.feed, hr, hg, hn, he]
          refine (askint_no hM hV.s1 id 0 k hV.nodup hk hc 37 _ (enters_of Try.func37 (by kernel_rfl) rfl) k 0 20 (by decide) ?_).mono ?_
          · intro w1 hk1
            exact feed1_ended _ _ n k w1 (cellOf (hk1.blk hbn (by simp)) 0 rfl) hn he (ltOf (hk1.blk hbn (by simp)))
          · rintro e w' ⟨rfl, hk1⟩
            exact ⟨by rw [hs], hfin _ _ _ _ hs (Left.same hM hk1)⟩
        · have he' : k.ended = false := by simpa using he
          have hs : S.feed id n = (min n k.s.free, 0, S.set id (({ k with came := wrap64 (k.came + min n k.s.free) } : Kn).counts S.c.room)) := by simp [MS.feed, hr, hg, hn, he']
          refine (askint_yes hM hV.s1 id 0 k hV.nodup hk hc 37 _ (enters_of Try.func37 (by kernel_rfl) rfl) (({ k with came := wrap64 (k.came + min n k.s.free) } : Kn).counts S.c.room) (min n k.s.free) ?_).mono ?_
          · intro w1 hk1
            have hM1 := hM.keep hk1 (by simp) (by simp) (by simp) (by simp)
            exact feed1_yes _ _ m n S.c.room k w1 (cellOf (hk1.blk hbn (by simp)) 0 rfl) (cellOf (hk1.blk hbm (by simp)) 0 rfl) (cellOf hM1.blk 3 rfl) hn he' (ltOf (hk1.blk hbn (by simp))) (ltOf (hk1.blk hbm (by simp)))
          · rintro e w' ⟨rfl, hk1, hI⟩
            exact ⟨by rw [hs], hfin _ _ _ _ hs (Left.put hM hV hk hk1 hI)⟩
  have HK := Lib.hid key
  clear key hfin hbm hbn hM hV h
  subst hW
  go_enter Try.func20, Try.ntmps20
  go_wp2_with (go_at_call 24; refine (HK.out).mono ?_; rintro e w1 ⟨rfl, hk⟩)
  go_ret2
  exact ⟨rfl, hk⟩

end Go.Proofs.Ythjghcfnopancaa
