/-
  See of a model: contract.
-/
import Derived.Test.YthjghcfnopancaaNew
namespace Go.Proofs.Ythjghcfnopancaa
open Go.RowKit Go.Shelf Go.Maps

theorem neq_status (a b : St) (w : World) : (binOp .neq 27 a.val b.val).run Try.prog w = .ok (.bool (!decide (a = b))) w := by
  obtain ⟨a0, a1, a2, a3, a4, a5, a6⟩ := a
  obtain ⟨b0, b1, b2, b3, b4, b5, b6⟩ := b
  go_simp
  repeat' split
  all_goals simp_all

theorem within_q (n lo hi : Int) (w : World) :
    Calls Try.prog 27 #[.int .i64 n, .int .i64 lo, .int .i64 hi] w fun e w' => e = .returned (.bool (decide (lo ≤ n ∧ n ≤ hi))) ∧ w' = w :=
  (within_any n lo hi w).mono fun _ _ h => ⟨h.1, h.2.symm⟩

end Go.Proofs.Ythjghcfnopancaa
