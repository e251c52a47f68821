/- Donees; of no system; what must come. -/
import Derived.Test.YtgljmflcbdhigaaGschC
import Derived.Test.YtgljmflcbdhigaaValK
set_option linter.unusedVariables false
set_option linter.unusedSimpArgs false
namespace Go.Proofs.Ytgljmflcbdhigaa
open Go.RowKit

def donI (c : CfgD) (p : Int) : List Int := if 0 ≤ p then donD c p else []
theorem sdon_nil (p : Int) (w : World) : Calls Try.prog 44 #[.pointer none, .int .i64 p] w fun e w' => e = .returned (.slice none 0 0) ∧ w = w' := by
  go_enter Try.func44, Try.ntmps44
  go_wp2_with fail
  refine (snone_nil _).mono ?_
  rintro e w1 ⟨rfl, rfl⟩
  go_wp2
  go_ret
  exact ⟨rfl, rfl⟩
theorem sdon_zero (S : Nat) (u : Value) (p : Int) (w : World) (hS : Blk w S 121 #[.pointer none, u]) : Calls Try.prog 44 #[.pointer (some ⟨S, 0, none⟩), .int .i64 p] w fun e w' => e = .returned (.slice none 0 0) ∧ w = w' := by
  go_enter Try.func44, Try.ntmps44
  go_wp2_with fail
  refine (snone_zero S u _ hS).mono ?_
  rintro e w1 ⟨rfl, rfl⟩
  go_wp2
  go_ret
  exact ⟨rfl, rfl⟩
theorem snext_nil (p tick : Int) (w : World) : Calls Try.prog 46 #[.pointer none, .int .i64 p, .int .i64 tick] w fun e w' => e = .returned (.tuple #[.int .i64 0, .bool false]) ∧ w = w' := by
  go_enter Try.func46, Try.ntmps46
  go_wp2_with fail
  refine (snone_nil _).mono ?_
  rintro e w1 ⟨rfl, rfl⟩
  go_wp2
  go_ret2
  exact ⟨rfl, rfl⟩
theorem snext_zero (S : Nat) (u : Value) (p tick : Int) (w : World) (hS : Blk w S 121 #[.pointer none, u]) : Calls Try.prog 46 #[.pointer (some ⟨S, 0, none⟩), .int .i64 p, .int .i64 tick] w fun e w' => e = .returned (.tuple #[.int .i64 0, .bool false]) ∧ w = w' := by
  go_enter Try.func46, Try.ntmps46
  go_wp2_with fail
  refine (snone_zero S u _ hS).mono ?_
  rintro e w1 ⟨rfl, rfl⟩
  go_wp2
  go_ret2
  exact ⟨rfl, rfl⟩

set_option maxHeartbeats 1000000 in
theorem sdon_any (B S : Nat) (c : CfgD) (T : Nat) (DA : Option Addr) (dc : Nat) (p : Int) (w : World) (h : SchR B w S c T DA dc) (hl : c.light = true) (hB : B ≤ w.heap.size) :
    Calls Try.prog 44 #[.pointer (some ⟨S, 0, none⟩), .int .i64 p] w fun e w' => ∃ v, e = .returned v ∧ Own repI 3 0 w.heap.size w' v (donI c p) ∧ Below w.heap.size w w' := by
  have kn := snone_some S T (.slice DA c.ps.length dc) w h.blk
  simp only [CfgD.light, Bool.and_eq_true, decide_eq_true_eq, List.all_eq_true] at hl
  have hblk := h.blk
  have hds := h.ds
  obtain ⟨n, hn⟩ : ∃ n, c.ps.length = n := ⟨_, rfl⟩
  rw [hn] at hblk
  have s1 := hblk.cell 1 rfl
  have Hl := Lib.hid hl
  have Hn := Lib.hid hn
  have KN := Lib.hid kn
  clear hl hn h kn
  by_cases hp : p < 0
  · have e : donI c p = [] := by unfold donI; rw [if_neg (by omega)]
    rw [e]
    clear e
    go_enter Try.func44, Try.ntmps44
    go_wp2_with fail
    refine KN.out.mono ?_
    rintro e w1 ⟨rfl, rfl⟩
    go_wp2
    go_ret
    exact ⟨_, rfl, Own.nil, Below.refl _ _⟩
  obtain ⟨i, rfl⟩ : ∃ i : Nat, p = i := ⟨p.toNat, by omega⟩
  by_cases hi : n ≤ i
  · have hi2 : (n : Int) ≤ (i : Int) := by omega
    have e : donI c i = [] := by
      have hno : c.ps[i]? = none := List.getElem?_eq_none (by rw [Hn.out]; exact hi)
      simp [donI, donD, hno]
    rw [e]
    clear e
    go_enter Try.func44, Try.ntmps44
    go_wp2_with fail
    refine KN.out.mono ?_
    rintro e w1 ⟨rfl, rfl⟩
    go_wp2
    go_ret
    exact ⟨_, rfl, Own.nil, Below.refl _ _⟩
  · have hi2 : (i : Int) < (n : Int) := by omega
    obtain ⟨pt, hpt⟩ : ∃ x, c.ps[i]? = some x := ⟨_, List.getElem?_eq_getElem (by rw [Hn.out]; omega)⟩
    have hpf := Hl.out.2 pt (List.mem_of_getElem? hpt)
    simp only [PartD.few, Bool.and_eq_true, decide_eq_true_eq] at hpf
    have hdd : donI c i = pt.ds := by simp [donI, donD, hpt]
    rw [hdd]
    obtain ⟨ad, cs, rfl, _, _, ⟨DA2, dc2, rfl, d1, d2, d3, d4⟩, hcd⟩ := hds.row.at (i := i) (x := pt.ds) (by rw [List.getElem?_map, hpt]; rfl)
    have g0 : w.cell? (ad.add i) = some (.slice DA2 pt.ds.length dc2) := by have := hcd 0 _ rfl; simpa [repD, Rep.slc] using this
    have kk := clone_I B DA2 dc2 pt.ds w ⟨d1, d2, d3, d4⟩ (by omega) hB
    have KK := Lib.hid kk
    have i3 : (0 : Int) ≤ (i : Int) := by omega
    clear kk hcd hpt hdd hp hi
    go_enter Try.func44, Try.ntmps44
    go_wp2_with fail
    refine KN.out.mono ?_
    rintro e w1 ⟨rfl, rfl⟩
    go_wp2_with fail
    refine KK.out.mono ?_
    rintro e w1 ⟨v, rfl, ho, hb⟩
    go_wp2
    go_ret
    exact ⟨_, rfl, ho, hb⟩

/-! ### what must come -/
def kg : CfgD := ⟨4, 0, [⟨0, 2, 0⟩], [⟨[], [], [2, 1], 0, 0, 0⟩, PartD.zero, PartD.zero], []⟩
theorem kg_check : kg.check.1 = 0 := by decide
theorem kg_at0 : atD kg 0 [false, true, true] = (1, 0, 2) := by decide
theorem kg_at5 : atD kg 5 [true] = (0, 0, 0) := by decide
theorem kg_at3 : atD kg 3 [] = (4, -1, -1) := by decide
theorem kg_don : donI kg 0 = [2, 1] := by decide
def kgcells : Nat → Array Value := fun g => #[.slice none 0 0, .slice none 0 0, .slice (some ⟨g, 0, none⟩) 2 2, .int .u8 0, .int .u8 0, .int .u8 0, .slice none 0 0, .slice none 0 0, .slice none 0 0, .int .u8 0, .int .u8 0, .int .u8 0, .slice none 0 0, .slice none 0 0, .slice none 0 0, .int .u8 0, .int .u8 0, .int .u8 0]
theorem kg_cfg (W : World) (g0 g1 g3 : Nat) (h0 : Blk W g0 154 #[.int .i64 0, .int .i64 2, .int .i64 0]) (h1 : Blk W g1 52 (kgcells g3)) (h3 : Blk W g3 3 #[.int .i64 2, .int .i64 1]) : CfgA tO 0 W kg (some ⟨g0, 0, none⟩) 1 (some ⟨g1, 0, none⟩) 3 none 0 := by
  have hW : Slc repW 154 0 W kg.ws (some ⟨g0, 0, none⟩) 1 := ⟨Nat.le_refl _, by unfold maxLen; omega, fun h => (by cases h), Row.block h0 fun i x hi => by
    rcases i with _ | i
    · cases hi
      exact ⟨_, rfl, fun j u hj => by rcases j with _ | _ | _ | j <;> first | exact hj | simp [WinD.enc] at hj⟩
    · simp [kg] at hi⟩
  have hI : Slc repI 3 0 W [2, 1] (some ⟨g3, 0, none⟩) 2 := ⟨Nat.le_refl _, by unfold maxLen; omega, fun h => (by cases h), Row.block h3 fun i x hi => by
    rcases i with _ | _ | i
    · cases hi
      exact ⟨_, rfl, fun j u hj => by rcases j with _ | j <;> first | exact hj | simp at hj⟩
    · cases hi
      exact ⟨_, rfl, fun j u hj => by rcases j with _ | j <;> first | exact hj | simp at hj⟩
    · simp at hi⟩
  have hP : Slc tO.rep 52 0 W kg.ps (some ⟨g1, 0, none⟩) 3 := ⟨Nat.le_refl _, by unfold maxLen; omega, fun h => (by cases h), Row.block h1 fun i x hi => by
    rcases i with _ | _ | _ | i
    · cases hi
      exact ⟨_, ⟨none, 0, none, 0, some ⟨g3, 0, none⟩, 2, rfl, Slc.empty, Slc.empty, hI⟩, fun j u hj => by rcases j with _ | _ | _ | _ | _ | _ | j <;> first | exact hj | simp at hj⟩
    · cases hi
      exact ⟨_, zero_R W 0, fun j u hj => by rcases j with _ | _ | _ | _ | _ | _ | j <;> first | exact hj | simp [zcells] at hj⟩
    · cases hi
      exact ⟨_, zero_R W 0, fun j u hj => by rcases j with _ | _ | _ | _ | _ | _ | j <;> first | exact hj | simp [zcells] at hj⟩
    · simp [kg] at hi⟩
  exact ⟨hW, hP, Slc.empty⟩
theorem kg_light : kg.light = true := by decide
/-- A row of truths, as it was laid. -/
theorem Row.truths (w : World) (l : List Bool) (g B : Nat) (hg : g = w.heap.size) : Row repB 4 B (w.alloc (.cells ((l.map Value.bool).toArray) 4)) (some ⟨g, 0, none⟩) l := by
  subst hg
  exact Row.block (Blk.new _ _ _) fun i x hi => ⟨[.bool x], rfl, fun j u hj => by
    cases j with
    | succ j => simp at hj
    | zero => simp only [List.getElem?_cons_zero, Option.some.injEq] at hj; subst hj; simp [repB, Rep.flat, hi]⟩
theorem kg_new (W : World) (g0 g1 g3 : Nat) (h0 : Blk W g0 154 #[.int .i64 0, .int .i64 2, .int .i64 0]) (h1 : Blk W g1 52 (kgcells g3)) (h3 : Blk W g3 3 #[.int .i64 2, .int .i64 1]) :
    Calls Try.prog 40 #[.agg #[.int .i64 4, .int .i64 0, .slice (some ⟨g0, 0, none⟩) 1 1, .slice (some ⟨g1, 0, none⟩) 3 3, .slice none 0 0]] W (SchPost kg W) :=
  gnew_yes 0 kg _ _ _ _ _ _ W (kg_cfg W g0 g1 g3 h0 h1 h3) kg_light (Nat.zero_le _) kg_check
theorem kg_at (S T : Nat) (DA : Option Addr) (dc : Nat) (tick : Int) (RA : Option Addr) (rc : Nat) (rs : List Bool) (r1 r2 r3 : Int) (w : World) (h : SchR 0 w S kg T DA dc) (hr : Row repB 4 0 w RA rs) (hrn : rs.length ≤ 1000) (he : atD kg tick rs = (r1, r2, r3)) :
    Calls Try.prog 42 #[.pointer (some ⟨S, 0, none⟩), .int .i64 tick, .slice RA rs.length rc] w fun e w' => e = .returned (.agg #[.int .i64 r1, .int .i64 r2, .int .i64 r3]) ∧ Below w.heap.size w w' := by
  have := sat_any 0 S kg T DA dc tick RA rc rs w h kg_check kg_light hr hrn (Nat.zero_le _)
  rwa [he] at this

set_option maxHeartbeats 2000000 in
theorem knows24_any (w : World) : Calls Try.prog 41 #[] w fun e w' => e = .returned (.bool true) ∧ Below w.heap.size w w' := by
  have hmk3 : ∀ w, (Instr.makeSlice 68 (.int .i64 3) (.int .i64 3)).run Try.prog w = .ok (.slice (some ⟨w.heap.size, 0, none⟩) 3 3) (w.alloc (.cells #[.slice none 0 0, .slice none 0 0, .slice none 0 0, .int .u8 0, .int .u8 0, .int .u8 0, .slice none 0 0, .slice none 0 0, .slice none 0 0, .int .u8 0, .int .u8 0, .int .u8 0, .slice none 0 0, .slice none 0 0, .slice none 0 0, .int .u8 0, .int .u8 0, .int .u8 0] 52)) := fun _ => by kernel_rfl
  have q1 : ∀ W, (binOp .eql 103 (.agg #[.int .i64 1, .int .i64 0, .int .i64 2]) (.agg #[.int .i64 1, .int .i64 0, .int .i64 2])).run Try.prog W = .ok (.bool true) W := fun _ => by kernel_rfl
  have q2 : ∀ W, (binOp .eql 103 (.agg #[.int .i64 0, .int .i64 0, .int .i64 0]) (.agg #[.int .i64 0, .int .i64 0, .int .i64 0])).run Try.prog W = .ok (.bool true) W := fun _ => by kernel_rfl
  have q3 : ∀ W, (binOp .eql 103 (.agg #[.int .i64 4, .int .i64 (-1), .int .i64 (-1)]) (.agg #[.int .i64 4, .int .i64 (-1), .int .i64 (-1)])).run Try.prog W = .ok (.bool true) W := fun _ => by kernel_rfl
  go_enter Try.func41, Try.ntmps41
  go_wp2_with fail
  generalize hW : World.alloc _ _ = W1
  have hb1 : Below w.heap.size w W1 := by rw [← hW]; exact ((((Below.refl _ _).alloc (Nat.le_refl _) _).alloc (by simp) _).alloc (by simp <;> omega) _).alloc (by simp <;> omega) _
  have h0 : Blk W1 w.heap.size 154 #[.int .i64 0, .int .i64 2, .int .i64 0] := by rw [← hW]; exact (((Blk.new _ _ _).alloc _).alloc _).alloc _
  have h1 : Blk W1 (w.heap.size + 1) 52 (kgcells (w.heap.size + 3)) := by rw [← hW]; exact ((Blk.new' _ _ _ _ (by simp)).alloc _).alloc _
  have h3 : Blk W1 (w.heap.size + 3) 3 #[.int .i64 2, .int .i64 1] := by rw [← hW]; exact Blk.new' _ _ _ _ (by simp)
  clear hW hmk3
  refine (kg_new W1 _ _ _ h0 h1 h3).mono ?_
  rintro e w2 ⟨S, T, DA, dc, rfl, hS, hb2⟩
  have hb2' := hb1.trans (hb2.mono hb1.size)
  clear h0 h1 h3 hb1 hb2
  have hA : ∀ (W : World) o, Below W.heap.size W (W.alloc o) := fun W o => (Below.refl _ _).alloc (Nat.le_refl _) o
  go_wp2_with fail
  refine (kg_at S T DA dc 0 _ 3 [false, true, true] 1 0 2 _ (hS.below (hA _ _) (Nat.le_refl _)) (Row.truths _ [false, true, true] _ _ rfl) (by simp) kg_at0).mono ?_
  rintro e w3 ⟨rfl, hb3⟩
  have hb3' : Below w2.heap.size w2 w3 := (hA w2 (.cells ([false, true, true].map Value.bool).toArray 4)).trans (hb3.mono (hA _ _).size)
  have hS3 := hS.below hb3' (Nat.le_refl _)
  have hb4 := hb2'.trans (hb3'.mono hb2'.size)
  clear hS hb2' hb3 hb3'
  go_wp2_with fail
  refine (kg_at S T DA dc 5 _ 1 [true] 0 0 0 _ (hS3.below (hA _ _) (Nat.le_refl _)) (Row.truths _ [true] _ _ rfl) (by simp) kg_at5).mono ?_
  rintro e w4 ⟨rfl, hb5⟩
  have hb5' : Below w3.heap.size w3 w4 := (hA w3 (.cells ([true].map Value.bool).toArray 4)).trans (hb5.mono (hA _ _).size)
  have hS4 := hS3.below hb5' (Nat.le_refl _)
  have hb6 := hb4.trans (hb5'.mono hb4.size)
  clear hS3 hb4 hb5 hb5'
  go_wp2_with fail
  refine (kg_at S T DA dc 3 none 0 [] 4 (-1) (-1) _ hS4 Row.nil (by simp) kg_at3).mono ?_
  rintro e w5 ⟨rfl, hb7⟩
  have hS5 := hS4.below hb7 (Nat.le_refl _)
  have hb8 := hb6.trans (hb7.mono hb6.size)
  clear hS4 hb6 hb7
  have kd := sdon_any 0 S kg T DA dc 0 w5 hS5 kg_light (Nat.zero_le _)
  rw [kg_don] at kd
  go_wp2_with fail
  refine kd.mono ?_
  rintro e w6 ⟨v, rfl, ho, hb9⟩
  obtain ⟨A, cc, rfl, _⟩ := ho.slc
  have hb10 := hb8.trans (hb9.mono hb8.size)
  go_wp2
  go_ret
  exact ⟨rfl, hb10⟩
end Go.Proofs.Ytgljmflcbdhigaa
