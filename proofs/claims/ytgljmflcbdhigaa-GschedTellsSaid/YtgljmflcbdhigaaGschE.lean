/- The law of no scheduler, walked. -/
import Derived.Test.YtgljmflcbdhigaaGschD
set_option linter.unusedVariables false
set_option linter.unusedSimpArgs false
namespace Go.Proofs.Ytgljmflcbdhigaa
open Go.RowKit

theorem gnew_zero (w : World) : Calls Try.prog 40 #[.agg #[.int .i64 0, .int .i64 0, .slice none 0 0, .slice none 0 0, .slice none 0 0]] w fun e w' => e = .returned (.pointer none) ∧ Below w.heap.size w w' :=
  gnew_no 0 kc0 none 0 none 0 none 0 w ⟨Slc.empty, Slc.empty, Slc.empty⟩ (by decide) (Nat.zero_le _) (by rw [kc0_check]; decide)

set_option maxHeartbeats 2000000 in
theorem gschedNil_any (tick p : Int) (w : World) : Calls Try.prog 9 #[.int .i64 tick, .int .i64 p] w fun e w' => e = .returned (.bool true) ∧ Below w.heap.size w w' := by
  have q3 : ∀ W, (binOp .neq 103 (.agg #[.int .i64 4, .int .i64 (-1), .int .i64 (-1)]) (.agg #[.int .i64 4, .int .i64 (-1), .int .i64 (-1)])).run Try.prog W = .ok (.bool false) W := fun _ => by kernel_rfl
  have hA : ∀ (W : World) o, Below W.heap.size W (W.alloc o) := fun W o => (Below.refl _ _).alloc (Nat.le_refl _) o
  go_enter Try.func9, Try.ntmps9
  go_wp2
  go_loopw [5, 6] (fun s j wr => ((s = .pointer none ∧ j = .int .i64 0) ∨ ∃ (i S : Nat), i ≤ 2 ∧ s = .pointer (some ⟨S, 0, none⟩) ∧ j = .int .i64 i ∧ Blk wr S 121 #[.pointer none, .slice none 0 0]) ∧ Below w.heap.size w wr) (fun _ j _ => 2 - (intOf j).toNat)
  case atStart => exact ⟨.inl ⟨rfl, rfl⟩, Below.refl _ _⟩
  case round =>
    obtain ⟨hs, hb⟩ := hrel
    rcases hs with ⟨rfl, rfl⟩ | ⟨i, S, hi, rfl, rfl, hS⟩
    · go_wp2_with fail
      refine (snext_nil p tick _).mono ?_
      rintro e w1 ⟨rfl, rfl⟩
      go_wp2_with fail
      refine (sat_nil tick _ _).mono ?_
      rintro e w2 ⟨rfl, hb2⟩
      have hb3 := hb.trans (((hA wr (.cells #[.bool true, .bool true] 4)).trans (hb2.mono (hA _ _).size)).mono hb.size)
      go_wp2_with fail
      refine (sdon_nil p _).mono ?_
      rintro e w3 ⟨rfl, rfl⟩
      go_wp2
      go_roundw
      case rel => exact ⟨.inr ⟨1, w2.heap.size, by omega, rfl, rfl, Blk.new _ _ _⟩, hb3.alloc hb3.size _⟩
      case measure => simp [intOf]
    · by_cases hlt : i < 2
      · have hlt2 : (i : Int) < 2 := by omega
        go_wp2_with fail
        refine (snext_zero S _ p tick _ hS).mono ?_
        rintro e w1 ⟨rfl, rfl⟩
        go_wp2_with fail
        refine (sat_zero S _ tick _ _ (hS.alloc _)).mono ?_
        rintro e w2 ⟨rfl, hb2⟩
        have hb20 : Below wr.heap.size wr w2 := (hA wr (.cells #[.bool true, .bool true] 4)).trans (hb2.mono (hA _ _).size)
        have hb3 := hb.trans (hb20.mono hb.size)
        have hS2 := hS.below hb20 hS.lt
        go_wp2_with fail
        refine (sdon_zero S _ p _ hS2).mono ?_
        rintro e w3 ⟨rfl, rfl⟩
        go_wp2
        go_roundw
        case rel => exact ⟨.inr ⟨i + 1, w2.heap.size, by omega, rfl, by go_num, Blk.new _ _ _⟩, hb3.alloc hb3.size _⟩
        case measure => simp [intOf] <;> omega
      · have hlt2 : ¬ (i : Int) < 2 := by omega
        go_wp2_with fail
        refine (knows24_any _).mono ?_
        rintro e w2 ⟨rfl, hb2⟩
        have hb3 := hb.trans (hb2.mono hb.size)
        go_wp2_with fail
        refine (gnew_zero _).mono ?_
        rintro e w3 ⟨rfl, hb4⟩
        have hb5 := hb3.trans (hb4.mono hb3.size)
        go_wp2
        go_ret
        exact ⟨rfl, hb5⟩
end Go.Proofs.Ytgljmflcbdhigaa
