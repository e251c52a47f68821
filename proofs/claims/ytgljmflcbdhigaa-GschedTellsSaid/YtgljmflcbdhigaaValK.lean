/- What must come of valid: two systems that may not be, and one that may. -/
import Derived.Test.YtgljmflcbdhigaaPlainV
import Derived.Test.YtgljmflcbdhigaaCloneB
set_option linter.unusedVariables false
set_option linter.unusedSimpArgs false
namespace Go.Proofs.Ytgljmflcbdhigaa
open Go.RowKit

theorem Row.block {α : Type} {d : Rep α} {e : TypeId} {B : Nat} {w : World} {g : Nat} {cs : Array Value} {xs : List α} (h : Blk w g e cs) (hx : ∀ i x, xs[i]? = some x → ∃ c, d.R B w x c ∧ ∀ j u, c[j]? = some u → cs[i * d.sz + j]? = some u) : Row d e B w (some ⟨g, 0, none⟩) xs := by
  intro _
  refine ⟨_, rfl, h.lt, .inr ⟨cs, h⟩, fun i x hi => ?_⟩
  obtain ⟨c, h1, h2⟩ := hx i x hi
  refine ⟨c, h1, fun j u hj => ?_⟩
  have hadd : (⟨g, 0, none⟩ : Addr).add (i * d.sz + j) = ⟨g, i * d.sz + j, none⟩ := by
    unfold Addr.add
    split <;> simp_all
  rw [hadd]
  exact h.cell _ (h2 j u hj)

/-- Partitions of nothing, as make lays them. -/
def zcells : List Value := [.slice none 0 0, .slice none 0 0, .slice none 0 0, .int .u8 0, .int .u8 0, .int .u8 0]
theorem zero_R (w : World) (B : Nat) : tO.rep.R B w PartD.zero zcells := ⟨none, 0, none, 0, none, 0, rfl, Slc.empty, Slc.empty, Slc.empty⟩
theorem zero_slc {w : World} {g : Nat} {B n : Nat} (hn : n ≤ 20) {cs : Array Value} (h : Blk w g 52 cs) (hc : ∀ i j u, i < n → zcells[j]? = some u → cs[i * 6 + j]? = some u) : Slc tO.rep 52 B w (List.replicate n PartD.zero) (some ⟨g, 0, none⟩) n :=
  ⟨by simp, by unfold maxLen; omega, fun h => (by cases h), Row.block h fun i x hi => by
    have hl := (List.getElem?_eq_some_iff.1 hi).1
    rw [List.length_replicate] at hl
    rw [List.getElem?_replicate, if_pos hl] at hi
    cases hi
    exact ⟨zcells, zero_R w B, fun j u hj => hc i j u hl hj⟩⟩

theorem num6_any (e : Int) (w : World) : Calls Try.prog 39 #[.int .i64 e] w fun r w' => r = .returned (.int .i64 e) ∧ w = w' := by
  go_enter Try.func39, Try.ntmps39
  go_wp2
  go_ret
  exact ⟨rfl, rfl⟩

def kc0 : CfgD := ⟨0, 0, [], [], []⟩
def kc1 : CfgD := ⟨9, 0, [⟨0, 2, 0⟩, ⟨1, 2, 0⟩], List.replicate 1 PartD.zero, []⟩
def kc2 : CfgD := ⟨9, 0, [], List.replicate 2 PartD.zero, []⟩
theorem kc0_check : kc0.check = (20, 0) := by decide
theorem kc1_check : kc1.check = (21, 1) := by decide
theorem kc2_check : kc2.check = (0, 0) := by decide
def kv (f : Int) (vw vp : Value) : Value := .agg #[.int .i64 f, .int .i64 0, vw, vp, .slice none 0 0]
theorem kc0_any (w : World) : Calls Try.prog 37 #[.agg #[.int .i64 0, .int .i64 0, .slice none 0 0, .slice none 0 0, .slice none 0 0]] w fun e w' => e = .returned (.tuple #[.int .i64 20, .int .i64 0]) ∧ Below w.heap.size w w' := by
  have := check_any 0 kc0 none 0 none 0 none 0 w ⟨Slc.empty, Slc.empty, Slc.empty⟩ (by decide) (Nat.zero_le _)
  rwa [kc0_check] at this
theorem kc1_any (w : World) (g1 g2 : Nat) (h1 : Blk w g1 154 #[.int .i64 0, .int .i64 2, .int .i64 0, .int .i64 1, .int .i64 2, .int .i64 0]) (h2 : Blk w g2 52 #[.slice none 0 0, .slice none 0 0, .slice none 0 0, .int .u8 0, .int .u8 0, .int .u8 0]) :
    Calls Try.prog 37 #[.agg #[.int .i64 9, .int .i64 0, .slice (some ⟨g1, 0, none⟩) 2 2, .slice (some ⟨g2, 0, none⟩) 1 1, .slice none 0 0]] w fun e w' => e = .returned (.tuple #[.int .i64 21, .int .i64 1]) ∧ Below w.heap.size w w' := by
  have hW : Slc repW 154 0 w kc1.ws (some ⟨g1, 0, none⟩) 2 := ⟨Nat.le_refl _, by unfold maxLen; omega, fun h => (by cases h), Row.block h1 fun i x hi => by
    rcases i with _ | _ | i
    · cases hi
      exact ⟨_, rfl, fun j u hj => by rcases j with _ | _ | _ | j <;> first | exact hj | simp [WinD.enc] at hj⟩
    · cases hi
      exact ⟨_, rfl, fun j u hj => by rcases j with _ | _ | _ | j <;> first | exact hj | simp [WinD.enc] at hj⟩
    · simp [kc1] at hi⟩
  have hP := zero_slc (B := 0) (n := 1) (by omega) h2 (fun i j u hi hj => by
    obtain rfl : i = 0 := by omega
    rw [Nat.zero_mul, Nat.zero_add]
    rcases j with _ | _ | _ | _ | _ | _ | j <;> first | exact hj | simp [zcells] at hj)
  have := check_any 0 kc1 (some ⟨g1, 0, none⟩) 2 (some ⟨g2, 0, none⟩) 1 none 0 w ⟨hW, hP, Slc.empty⟩ (by decide) (Nat.zero_le _)
  rwa [kc1_check] at this
theorem kc2_any (w : World) (g2 : Nat) (h2 : Blk w g2 52 #[.slice none 0 0, .slice none 0 0, .slice none 0 0, .int .u8 0, .int .u8 0, .int .u8 0, .slice none 0 0, .slice none 0 0, .slice none 0 0, .int .u8 0, .int .u8 0, .int .u8 0]) :
    Calls Try.prog 37 #[.agg #[.int .i64 9, .int .i64 0, .slice none 0 0, .slice (some ⟨g2, 0, none⟩) 2 2, .slice none 0 0]] w fun e w' => e = .returned (.tuple #[.int .i64 0, .int .i64 0]) ∧ Below w.heap.size w w' := by
  have hP := zero_slc (B := 0) (n := 2) (by omega) h2 (fun i j u hi hj => by
    rcases i with _ | _ | i
    · rcases j with _ | _ | _ | _ | _ | _ | j <;> first | exact hj | simp [zcells] at hj
    · rcases j with _ | _ | _ | _ | _ | _ | j <;> first | exact hj | simp [zcells] at hj
    · omega)
  have := check_any 0 kc2 none 0 (some ⟨g2, 0, none⟩) 2 none 0 w ⟨Slc.empty, hP, Slc.empty⟩ (by decide) (Nat.zero_le _)
  rwa [kc2_check] at this

set_option maxHeartbeats 1000000 in
theorem knows6_any (w : World) : Calls Try.prog 36 #[] w fun e w' => e = .returned (.bool true) ∧ Below w.heap.size w w' := by
  have hmk1 : ∀ w, (Instr.makeSlice 68 (.int .i64 1) (.int .i64 1)).run Try.prog w = .ok (.slice (some ⟨w.heap.size, 0, none⟩) 1 1) (w.alloc (.cells #[.slice none 0 0, .slice none 0 0, .slice none 0 0, .int .u8 0, .int .u8 0, .int .u8 0] 52)) := fun _ => by kernel_rfl
  have hmk2 : ∀ w, (Instr.makeSlice 68 (.int .i64 2) (.int .i64 2)).run Try.prog w = .ok (.slice (some ⟨w.heap.size, 0, none⟩) 2 2) (w.alloc (.cells #[.slice none 0 0, .slice none 0 0, .slice none 0 0, .int .u8 0, .int .u8 0, .int .u8 0, .slice none 0 0, .slice none 0 0, .slice none 0 0, .int .u8 0, .int .u8 0, .int .u8 0] 52)) := fun _ => by kernel_rfl
  go_enter Try.func36, Try.ntmps36
  go_wp2_with fail
  refine (kc0_any _).mono ?_
  rintro e w1 ⟨rfl, hb1⟩
  go_wp2_with fail
  refine (kc1_any _ _ _ ((Blk.new _ _ _).alloc _) (Blk.new' _ _ _ _ (by simp))).mono ?_
  rintro e w2 ⟨rfl, hb2⟩
  have hbA : Below w1.heap.size w1 ((w1.alloc (.cells #[.int .i64 0, .int .i64 2, .int .i64 0, .int .i64 1, .int .i64 2, .int .i64 0] 154)).alloc (.cells #[.slice none 0 0, .slice none 0 0, .slice none 0 0, .int .u8 0, .int .u8 0, .int .u8 0] 52)) := ((Below.refl _ _).alloc (Nat.le_refl _) _).alloc (by simp) _
  have hb12 : Below w.heap.size w w2 := hb1.trans ((hbA.trans (hb2.mono hbA.size)).mono hb1.size)
  go_wp2_with fail
  refine (kc2_any _ _ (Blk.new _ _ _)).mono ?_
  rintro e w3 ⟨rfl, hb3⟩
  have hbB : Below w2.heap.size w2 (w2.alloc (.cells #[.slice none 0 0, .slice none 0 0, .slice none 0 0, .int .u8 0, .int .u8 0, .int .u8 0, .slice none 0 0, .slice none 0 0, .slice none 0 0, .int .u8 0, .int .u8 0, .int .u8 0] 52)) := (Below.refl _ _).alloc (Nat.le_refl _) _
  have hb13 : Below w.heap.size w w3 := hb12.trans ((hbB.trans (hb3.mono hbB.size)).mono hb12.size)
  go_wp2_with fail
  refine (num6_any _ _).mono ?_
  rintro e w4 ⟨rfl, rfl⟩
  go_wp2_with fail
  refine (num6_any _ _).mono ?_
  rintro e w4 ⟨rfl, rfl⟩
  go_wp2_with fail
  refine (num6_any _ _).mono ?_
  rintro e w4 ⟨rfl, rfl⟩
  go_wp2
  go_ret
  exact ⟨rfl, hb13⟩
end Go.Proofs.Ytgljmflcbdhigaa
