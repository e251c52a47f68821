/- Which numbers are partitions'. -/
import Derived.Test.YtgljmflcbdhigaaConfC
set_option linter.unusedVariables false
set_option linter.unusedSimpArgs false
namespace Go.Proofs.Ytgljmflcbdhigaa
open Go.RowKit

theorem has_any (f m : Int) (vw vc : Value) (PA : Option Addr) (np pc : Nat) (p : Int) (w : World) (h1 : vw.oneCell' = true) (h2 : vc.oneCell' = true) :
    Calls Try.prog 77 #[.agg #[.int .i64 f, .int .i64 m, vw, .slice PA np pc, vc], .int .i64 p] w fun e w' => e = .returned (.bool (decide (0 ≤ p) && decide (p < np))) ∧ Below w.heap.size w w' := by
  by_cases h : 0 ≤ p
  · go_enter Try.func77, Try.ntmps77
    go_wp2
    go_ret
    exact ⟨ret_b (by simp [h]), (Below.refl _ _).alloc (Nat.le_refl _) _⟩
  · go_enter Try.func77, Try.ntmps77
    go_wp2
    go_ret
    exact ⟨ret_b (by have : ¬ 0 ≤ p := by omega
                     simp [this]), (Below.refl _ _).alloc (Nat.le_refl _) _⟩
end Go.Proofs.Ytgljmflcbdhigaa
