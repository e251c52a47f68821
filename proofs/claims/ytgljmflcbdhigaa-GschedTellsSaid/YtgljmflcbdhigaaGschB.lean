/- gsched.New: of a system. -/
import Derived.Test.YtgljmflcbdhigaaGschA
set_option linter.unusedVariables false
set_option linter.unusedSimpArgs false
namespace Go.Proofs.Ytgljmflcbdhigaa
open Go.RowKit

def repD : Rep (List Int) := Rep.slc 3 repI
theorem info_D : (Try.prog.info? 42).map (fun i => (i.zero, i.size, i.bytes)) = some (some (.slice none 0 0), 1, 24) := by kernel_rfl
/-- A scheduler in memory. -/
structure SchR (B : Nat) (w : World) (S : Nat) (c : CfgD) (T : Nat) (DA : Option Addr) (dc : Nat) : Prop where
  blk : Blk w S 121 #[.pointer (some ⟨T, 0, none⟩), .slice DA c.ps.length dc]
  tab : TabR B w T c.tab
  ds : Slc repD 42 B w (c.ps.map PartD.ds) DA dc
theorem SchR.below {B D : Nat} {w w' : World} {S : Nat} {c : CfgD} {T : Nat} {DA : Option Addr} {dc : Nat} (h : SchR B w S c T DA dc) (hb : Below D w w') (hD : w.heap.size ≤ D) : SchR B w' S c T DA dc :=
  ⟨h.blk.below hb (Nat.lt_of_lt_of_le h.blk.lt hD), h.tab.below hb hD, h.ds.below hb hD⟩
def SchPost (c : CfgD) (w : World) (e : Ending) (w' : World) : Prop := ∃ S T DA dc, e = .returned (.pointer (some ⟨S, 0, none⟩)) ∧ SchR 0 w' S c T DA dc ∧ Below w.heap.size w w'

theorem TabR.grown {w w' : World} {T : Nat} {t : TabD} {row : Option Nat} (h : TabR 0 w T t) (hg : w.grownBy w' row) (hr : ∀ g, row = some g → ∃ cells, w.heap[g]? = some (.cells cells 42 (0, 0))) : TabR 0 w' T t := by
  obtain ⟨cs, WA, wc, h1, h2⟩ := h
  have hne : ∀ (q : Nat) (cells : Array Value) (ty : TypeId), w.heap[q]? = some (.cells cells ty (0, 0)) → ty ≠ 42 → w'.heap[q]? = w.heap[q]? := fun q cells ty hq hty => hg.block q (Array.getElem?_eq_some_iff.1 hq).1 (fun e => by
    obtain ⟨c2, hh⟩ := hr q e.symm
    rw [hq] at hh
    injection hh with hh
    injection hh with _ ht
    exact hty ht)
  refine ⟨cs, WA, wc, h1.keep (hne T cs _ h1 (by decide)), h2.keep fun q _ hq => ?_⟩
  rcases hq with hq | ⟨cells, ty, ht, hh⟩
  · omega
  · exact hne q cells ty hh (by rcases ht with ht | ht <;> rw [ht] <;> decide)
theorem TabR.setB {w : World} {T S : Nat} {t : TabD} {cells : Array Value} {ty : TypeId} (h : TabR 0 w T t) (hS : Blk w S ty cells) (h1 : ty ≠ 232) (h2 : ty ≠ 154) (h3 : ty ≠ 3) (i : Nat) (u : Value) : TabR 0 (w.setCell ⟨S, i, none⟩ u) T t := by
  obtain ⟨cs, WA, wc, k1, k2⟩ := h
  refine ⟨cs, WA, wc, k1.far (p := ⟨S, i, none⟩) (fun e => (k1.ne hS (fun e => h1 e.symm)) e) u, k2.keep fun q _ hq => ?_⟩
  rcases hq with hq | ⟨cells, ty', ht, hh⟩
  · omega
  · refine Below.heap_setCell _ _ _ _ (fun e => ?_)
    have e : q = S := e
    rw [e] at hh
    unfold Blk at hS
    rw [hS] at hh
    injection hh with hh
    injection hh with _ ht2
    rcases ht with ht | ht <;> rw [ht] at ht2
    · exact h2 ht2
    · exact h3 ht2

section
variable (B : Nat) (c : CfgD) (WA : Option Addr) (wc : Nat) (PA : Option Addr) (pc : Nat) (CA : Option Addr) (cc : Nat) (w : World)
set_option maxHeartbeats 1000000 in
theorem gnew_no (h : CfgA tO B w c WA wc PA pc CA cc) (hl : c.light = true) (hB : B ≤ w.heap.size) (hk : c.check.1 ≠ 0) :
    Calls Try.prog 40 #[.agg #[.int .i64 c.frame, .int .i64 c.margin, .slice WA c.ws.length wc, .slice PA c.ps.length pc, .slice CA c.cs.length cc]] w fun e w' => e = .returned (.pointer none) ∧ Below w.heap.size w w' := by
  have hA : ∀ o, Below w.heap.size w (w.alloc o) := fun o => (Below.refl _ _).alloc (Nat.le_refl _) o
  have hck := fun o => table_no B c WA wc PA pc CA cc (w.alloc o) (h.below (hA o) (Nat.le_refl _)) hl (Nat.le_trans hB (hA o).size) hk
  have HC := Lib.hid hck
  clear hck
  go_enter Try.func40, Try.ntmps40
  go_wp2_with fail
  refine (HC.out _).mono ?_
  rintro e w1 ⟨rfl, hb⟩
  have hb1 := (hA _).trans (hb.mono (hA _).size)
  go_wp2
  go_ret
  exact ⟨rfl, hb1⟩

set_option maxRecDepth 100000 in
set_option maxHeartbeats 2000000 in
theorem gnew_yes (h : CfgA tO B w c WA wc PA pc CA cc) (hl : c.light = true) (hB : B ≤ w.heap.size) (hk : c.check.1 = 0) :
    Calls Try.prog 40 #[.agg #[.int .i64 c.frame, .int .i64 c.margin, .slice WA c.ws.length wc, .slice PA c.ps.length pc, .slice CA c.cs.length cc]] w (SchPost c w) := by
  have hA : ∀ o, Below w.heap.size w (w.alloc o) := fun o => (Below.refl _ _).alloc (Nat.le_refl _) o
  have hck := fun o => table_yes B c WA wc PA pc CA cc (w.alloc o) (h.below (hA o) (Nat.le_refl _)) hl (Nat.le_trans hB (hA o).size) hk
  have hps := h.ps
  simp only [CfgD.light, Bool.and_eq_true, decide_eq_true_eq, List.all_eq_true] at hl
  obtain ⟨⟨⟨l1, l2⟩, l3⟩, l4⟩ := hl
  obtain ⟨n, hn⟩ : ∃ n, c.ps.length = n := ⟨_, rfl⟩
  rw [hn] at hck l2 ⊢
  have HC := Lib.hid hck
  have Hn := Lib.hid hn
  have L4 := Lib.hid l4
  clear hck hn h hk l4
  go_enter Try.func40, Try.ntmps40
  go_wp2_with fail
  refine (HC.out _).mono ?_
  rintro e w1 ⟨T, rfl, hT, hTl, hb⟩
  have hbx := (Blk.new w 71 #[.int .i64 c.frame, .int .i64 c.margin, .slice WA c.ws.length wc, .slice PA n pc, .slice CA c.cs.length cc]).below hb (by simp)
  have hb1 := (hA (.cells #[.int .i64 c.frame, .int .i64 c.margin, .slice WA c.ws.length wc, .slice PA n pc, .slice CA c.cs.length cc] 71)).trans (hb.mono (hA _).size)
  have x3 := hbx.cell 3 rfl
  have lw := hbx.lt
  clear hb hTl
  go_wp2
  generalize hW : World.alloc _ _ = W2
  have hb2 : Below w.heap.size w W2 := by rw [← hW]; exact hb1.alloc hb1.size _
  have hS2 : Blk W2 w1.heap.size 121 #[.pointer (some ⟨T, 0, none⟩), .slice none 0 0] := by rw [← hW]; exact Blk.new _ _ _
  have hT2 : TabR 0 W2 T c.tab := by rw [← hW]; exact hT.below ((Below.refl _ _).alloc (Nat.le_refl _) _) (Nat.le_refl _)
  have hsz := hb1.size
  clear hW hT hbx x3
  go_loopw [17] (fun j wr => ∃ (k : Nat) (v : Value), k ≤ n ∧ j = .int .i64 k ∧ Own repD 42 0 w.heap.size wr v ((c.ps.take k).map PartD.ds) ∧ Blk wr w1.heap.size 121 #[.pointer (some ⟨T, 0, none⟩), v] ∧ TabR 0 wr T c.tab ∧ Below w.heap.size w wr) (fun j _ => n - (intOf j).toNat)
  case atStart => exact ⟨0, _, Nat.zero_le _, rfl, Own.nil, hS2, hT2, hb2⟩
  case round =>
    clear hS2 hT2 hb2
    obtain ⟨k, v, hk, rfl, ho, hS, hT, hb⟩ := hrel
    by_cases hlt : k < n
    · have hk2 : (k : Int) < (n : Int) := by omega
      obtain ⟨ad, p, TA, tc, SA, sc, DA, dc, rfl, hbk, hx, c0, c1, c2, c3, c4, c5, s1, s2, s3⟩ := at_P (hps.row.keep fun j hj _ => hb.block j hj) (k := k) (by rw [Hn.out]; omega)
      have hpf := L4.out p (List.mem_of_getElem? hx)
      simp only [PartD.few, Bool.and_eq_true, decide_eq_true_eq] at hpf
      have hlen : ((c.ps.take k).map PartD.ds).length ≤ 20 := by rw [List.length_map, List.length_take, Hn.out]; omega
      have htk : (c.ps.take (k + 1)).map PartD.ds = (c.ps.take k).map PartD.ds ++ [p.ds] := by rw [take_snoc' hx, List.map_append]; rfl
      have Htk := Lib.hid htk
      clear htk hx
      have kI := fun W (hW : Below wr.heap.size wr W) => clone_I B DA dc p.ds W (s3.below hW (Nat.le_refl _)) (by omega) (by have := hb.size; have := hW.size; omega)
      have KI := Lib.hid kI
      clear kI s1 s2 s3
      have hszr := hb.size
      go_wp2
      generalize hW : World.alloc _ _ = W3
      have hb3 : Below wr.heap.size wr W3 := by rw [← hW]; exact (Below.refl _ _).alloc (Nat.le_refl _) _
      have hbp : Blk W3 wr.heap.size 52 #[.slice TA p.ts.length tc, .slice SA p.ss.length sc, .slice DA p.ds.length dc, .int .u8 p.a0, .int .u8 p.a1, .int .u8 p.a2] := by rw [← hW]; exact Blk.new _ _ _
      have hS3 := hS.below hb3 hS.lt
      have ho3 := ho.below hb3 (Nat.le_refl _)
      have hT3 := hT.below hb3 (Nat.le_refl _)
      have y1 := hS3.cell 1 rfl
      have y2 := hbp.cell 2 rfl
      have z1 : Below W3.heap.size W3 W3.drew := (Below.refl _ _).drew
      have lS := hS3.lt
      have lp := hbp.lt
      have hb30 : Below w.heap.size w W3 := hb.trans (hb3.mono hszr)
      clear hW c0 c1 c2 c3 c4 c5 hS ho hT
      go_region_law (first | (refine step_append_row rfl (.tmp 25) (.tmp 29) 119 rfl repD 42 0 w.heap.size (by kernel_rfl) info_D (by decide) (by decide) (by decide) v ((c.ps.take k).map PartD.ds) ?_ (ho4.alloc _) (some ⟨w4.heap.size, 0, none⟩) 1 [p.ds] ?_ (fun h => by cases h) (Nat.le_refl _) (Row.one HR.out (Nat.zero_le _)) (Nat.zero_le _) ?_ ?_ ?_ ?_; (· rfl); (· rfl); (· simp only [List.length_singleton]; omega); (· simp only [List.length_singleton]; omega); (· have q1 := hb30.size; have q2 := z4.size; simp; omega); intro v' w7 hown' hg hat; obtain ⟨A', n', c', rfl⟩ : ∃ A' n' c', v' = Value.slice A' n' c' := (by obtain ⟨A', c', hv', _⟩ := hown'.row; exact ⟨_, _, _, hv'⟩); have hg2 : w4.grownBy w7 v.ownBlock := (World.grownBy_alloc w4 _ _).trans hg; have hS7 := hS4.grown hg2 (ho4.ne_blk hS4 (by decide)); have q7 := hS7.cell 1 rfl; have fr7 := hS7.free 1) | (go_simp; go_at_call 90; refine (KI.out _ (hb3.trans (z1.mono hb3.size))).mono ?_; rintro e w4 ⟨vd, rfl, od, b4⟩; obtain ⟨g3, c3, rfl, sl3, gb3⟩ := od.gslc; have z4 := z1.trans (b4.mono z1.size); have hS4 := hS3.below z4 hS3.lt; have ho4 := ho3.below z4 (Nat.le_refl _); have y4 := hS4.cell 1 rfl; have l4' := hS4.lt; have hR : repD.R 0 w4 p.ds [.slice (hd g3) p.ds.length c3] := ⟨_, _, rfl, sl3.le, sl3.cap, sl3.nil, sl3.row⟩; have HR := Lib.hid hR; clear hR))
      all_goals
        have hb4 := hb30.trans (z4.mono hb30.size)
        have hT8 := ((hT3.below z4 (Nat.le_refl _)).grown hg2 (fun g hg => (ho4.block g hg).2.2)).setB hS7 (by decide) (by decide) (by decide) 1 (.slice A' n' c')
        have hS8 := hS7.set 1 (.slice A' n' c')
        have ho8 := hown'.setO hS7 (by decide) (by decide) 1 (.slice A' n' c')
        have hb8 := (hb4.grown hg2 hb4.size (fun g hg => (ho4.block g hg).1)).setCell (p := ⟨w1.heap.size, 1, none⟩) hsz (.slice A' n' c')
        rw [← Htk.out] at ho8
        clear q7 fr7 y4 hS7 hown'
        go_wp2
        go_roundw
      all_goals first
        | exact ⟨k + 1, _, by omega, by go_num, ho8, hS8, hT8, hb8⟩
        | (simp [intOf] <;> omega)
    · have hk2 : ¬ (k : Int) < (n : Int) := by omega
      have e : c.ps.take k = c.ps := List.take_of_length_le (by rw [Hn.out]; omega)
      rw [e] at ho
      clear e
      obtain ⟨A, dc, rfl, hs⟩ := ho.slc
      have hl : (c.ps.map PartD.ds).length = c.ps.length := List.length_map _
      rw [hl] at hS
      go_wp2
      go_ret
      exact ⟨_, T, A, dc, rfl, ⟨hS, hT, hs⟩, hb⟩
end
end Go.Proofs.Ytgljmflcbdhigaa
