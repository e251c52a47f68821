/- law03: few of all; a system of the document turned into one of the program's. -/
import Derived.Test.YtgljmflcbdhigaaCloneB
set_option linter.unusedVariables false
set_option linter.unusedSimpArgs false
namespace Go.Proofs.Ytgljmflcbdhigaa
open Go.RowKit

theorem few_any (TA SA DA : Option Addr) (tc sc dc : Nat) (p : PartD) (w : World) :
    Calls Try.prog 63 #[.agg #[.slice TA p.ts.length tc, .slice SA p.ss.length sc, .slice DA p.ds.length dc, .int .u8 p.a0, .int .u8 p.a1, .int .u8 p.a2]] w fun e w' => e = .returned (.bool p.few) ∧ Below w.heap.size w w' := by
  unfold PartD.few
  obtain ⟨n1, h1⟩ : ∃ n, p.ts.length = n := ⟨_, rfl⟩
  obtain ⟨n2, h2⟩ : ∃ n, p.ss.length = n := ⟨_, rfl⟩
  obtain ⟨n3, h3⟩ : ∃ n, p.ds.length = n := ⟨_, rfl⟩
  rw [h1, h2, h3]
  clear h1 h2 h3
  by_cases q1 : n1 ≤ 20
  · have q1' : (n1 : Int) ≤ 20 := by omega
    by_cases q2 : n2 ≤ 20
    · have q2' : (n2 : Int) ≤ 20 := by omega
      go_enter Try.func63, Try.ntmps63
      go_wp2
      go_ret
      exact ⟨ret_b (by simp [q1, q2]; omega), (Below.refl _ _).alloc (Nat.le_refl _) _⟩
    · have q2' : ¬ (n2 : Int) ≤ 20 := by omega
      go_enter Try.func63, Try.ntmps63
      go_wp2
      go_ret
      exact ⟨ret_b (by simp [q1, q2]), (Below.refl _ _).alloc (Nat.le_refl _) _⟩
  · have q1' : ¬ (n1 : Int) ≤ 20 := by omega
    go_enter Try.func63, Try.ntmps63
    go_wp2
    go_ret
    exact ⟨ret_b (by simp [q1]), (Below.refl _ _).alloc (Nat.le_refl _) _⟩

set_option maxHeartbeats 1000000 in
theorem light_any (B : Nat) (c : CfgD) (WA : Option Addr) (wc : Nat) (PA : Option Addr) (pc : Nat) (CA : Option Addr) (cc : Nat) (w : World) (h : CfgA tR B w c WA wc PA pc CA cc) :
    Calls Try.prog 22 #[.agg #[.int .i64 c.frame, .int .i64 c.margin, .slice WA c.ws.length wc, .slice PA c.ps.length pc, .slice CA c.cs.length cc]] w fun e w' => e = .returned (.bool c.light) ∧ Below w.heap.size w w' := by
  obtain ⟨f, m, ws, ps, cs⟩ := c
  have hps := h.ps
  simp only [CfgD.light] at hps ⊢
  clear h
  obtain ⟨n1, h1⟩ : ∃ n, ws.length = n := ⟨_, rfl⟩
  obtain ⟨n2, h2⟩ : ∃ n, ps.length = n := ⟨_, rfl⟩
  obtain ⟨n3, h3⟩ : ∃ n, cs.length = n := ⟨_, rfl⟩
  rw [h1, h2, h3]
  have H2 := Lib.hid h2
  clear h1 h2 h3
  by_cases q1 : 60 < n1
  · have q1' : (60 : Int) < n1 := by omega
    go_enter Try.func22, Try.ntmps22
    go_wp2
    go_ret
    exact ⟨ret_b (by simp; omega), (Below.refl _ _).alloc (Nat.le_refl _) _⟩
  have q1' : ¬ (60 : Int) < n1 := by omega
  by_cases q2 : 20 < n2
  · have q2' : (20 : Int) < n2 := by omega
    go_enter Try.func22, Try.ntmps22
    go_wp2
    go_ret
    exact ⟨ret_b (by simp; omega), (Below.refl _ _).alloc (Nat.le_refl _) _⟩
  have q2' : ¬ (20 : Int) < n2 := by omega
  by_cases q3 : 30 < n3
  · have q3' : (30 : Int) < n3 := by omega
    go_enter Try.func22, Try.ntmps22
    go_wp2
    go_ret
    exact ⟨ret_b (by simp; omega), (Below.refl _ _).alloc (Nat.le_refl _) _⟩
  have q3' : ¬ (30 : Int) < n3 := by omega
  obtain ⟨r, hr⟩ : ∃ r, ps.all PartD.few = r := ⟨_, rfl⟩
  have hres : (decide (n1 ≤ 60) && decide (n2 ≤ 20) && decide (n3 ≤ 30) && ps.all PartD.few) = r := by rw [← hr]; simp; omega
  rw [hres]
  have Hr := Lib.hid hr
  clear hr hres
  have hb0 : Below w.heap.size w (w.alloc (.cells #[.int .i64 f, .int .i64 m, .slice WA n1 wc, .slice PA n2 pc, .slice CA n3 cc] 64)) := (Below.refl _ _).alloc (Nat.le_refl _) _
  go_enter Try.func22, Try.ntmps22
  go_wp2
  go_loopw [3] (fun j wr => ∃ k : Nat, k ≤ n2 ∧ j = .int .i64 k ∧ (ps.drop k).all PartD.few = r ∧ Blk wr w.heap.size 64 #[.int .i64 f, .int .i64 m, .slice WA n1 wc, .slice PA n2 pc, .slice CA n3 cc] ∧ Below w.heap.size w wr) (fun j _ => n2 - (intOf j).toNat)
  case atStart => exact ⟨0, Nat.zero_le _, rfl, Hr.out, Blk.new _ _ _, hb0⟩
  case round =>
    obtain ⟨k, hk, rfl, he, hbx, hb⟩ := hrel
    have x3 := hbx.cell 3 rfl
    by_cases hlt : k < n2
    · have hk2 : (k : Int) < (n2 : Int) := by omega
      obtain ⟨ad, p, TA, tc, SA, sc, DA, dc, rfl, hbk, hx, c0, c1, c2, c3, c4, c5, s1, s2, s3⟩ := at_P (hps.row.keep fun j hj _ => hb.block j hj) (k := k) (by rw [H2.out]; omega)
      rw [drop_cons' hx, List.all_cons] at he
      obtain ⟨b, hbf⟩ : ∃ b, p.few = b := ⟨_, rfl⟩
      have hc := fun W => few_any TA SA DA tc sc dc p W
      rw [hbf] at he hc
      have He := Lib.hid he
      have HC := Lib.hid hc
      clear he hc hbf hx
      go_wp2_with fail
      refine (HC.out _).mono ?_
      rintro e w1 ⟨rfl, hb1⟩
      have hb2 : Below w.heap.size w w1 := hb.trans (hb1.mono hb.size)
      have hbx1 := hbx.below hb1 hbx.lt
      clear c0 c1 c2 c3 c4 c5 x3 hbx
      cases b with
      | false =>
        have e : r = false := by rw [← He.out]; rfl
        subst e
        go_wp2
        go_ret
        exact ⟨rfl, hb2⟩
      | true =>
        go_wp2
        go_roundw
        case rel => exact ⟨k + 1, by omega, by go_num, by have := He.out; simpa using this, hbx1, hb2⟩
        case measure => simp [intOf] <;> omega
    · have hk2 : ¬ (k : Int) < (n2 : Int) := by omega
      have e : r = true := by rw [← he, List.drop_of_length_le (by rw [H2.out]; omega)]; rfl
      subst e
      clear he
      go_wp2
      go_ret
      exact ⟨rfl, hb⟩

/-! ### Config -/
theorem Own.setO {α : Type} {d : Rep α} {e t : TypeId} {B O : Nat} {w : World} {v : Value} {xs : List α} {cs : Array Value} (h : Own d e 0 B w v xs) (hO : Blk w O t cs) (h1 : e ≠ t) (h2 : t ∉ d.E) (i : Nat) (u : Value) : Own d e 0 B (w.setCell ⟨O, i, none⟩ u) v xs :=
  h.others (fun k hk => Below.heap_setCell _ _ _ _ (hO.not hk)) h1 h2
theorem Own.grow2 {α β : Type} {d : Rep α} {e : TypeId} {B : Nat} {w w' : World} {v : Value} {xs : List α} {d' : Rep β} {e' : TypeId} {B' : Nat} {v' : Value} {ys : List β} (h : Own d e 0 B w v xs) (h' : Own d' e' 0 B' w v' ys) (hg : w.grownBy w' v'.ownBlock) (hne : e ≠ e') (he : e' ∉ d.E) : Own d e 0 B w' v xs :=
  h.grown hg (fun g hg => ⟨Nat.zero_le _, (h'.block g hg).2.2⟩) he (fun g hg e => h.ne_own h' hne g e hg)

theorem _root_.Go.World.grownBy.drew_left {w w' : World} {row : Option Nat} (h : w.drew.grownBy w' row) : w.grownBy w' row := by
  obtain ⟨g1, g2, g3, g4, g5⟩ := h
  exact ⟨g1, g2, g3, g4, g5⟩
structure CfI (w : World) (f m : Int) (vA : Array Value) (O : Nat) (v1 v2 v3 : Value) (wl : List WinD) (pl : List PartD) (cl : List ChanD) (W : World) : Prop where
  box : Blk W w.heap.size 64 vA
  res : Blk W (w.heap.size + 1) 71 #[.int .i64 0, .int .i64 0, .slice none 0 0, .slice none 0 0, .slice none 0 0]
  out : Blk W O 71 #[.int .i64 f, .int .i64 m, v1, v2, v3]
  hO : w.heap.size + 1 < O
  ow : Own repW 154 0 w.heap.size W v1 wl
  op : Own tO.rep 52 0 w.heap.size W v2 pl
  oc : Own repC 157 0 w.heap.size W v3 cl
  b : Below w.heap.size w W

section
variable {w : World} {f m : Int} {vA : Array Value} {O : Nat} {v1 v2 v3 : Value} {wl : List WinD} {pl : List PartD} {cl : List ChanD} {W w3 : World} {v' : Value}
theorem CfI.below (h : CfI w f m vA O v1 v2 v3 wl pl cl W) (hb : Below W.heap.size W w3) : CfI w f m vA O v1 v2 v3 wl pl cl w3 :=
  { box := h.box.below hb h.box.lt, res := h.res.below hb h.res.lt, out := h.out.below hb h.out.lt, hO := h.hO, ow := h.ow.below hb (Nat.le_refl _), op := h.op.below hb (Nat.le_refl _), oc := h.oc.below hb (Nat.le_refl _), b := h.b.trans (hb.mono h.b.size) }
theorem CfI.stepW {x : WinD} (h : CfI w f m vA O v1 v2 v3 wl pl cl W) (ho : Own repW 154 0 w.heap.size w3 v' (wl ++ [x])) (hg : W.grownBy w3 v1.ownBlock) :
    (w3.cell? ⟨O, 2, none⟩ = some v1 ∧ w3.frozen? ⟨O, 2, none⟩ = false) ∧ CfI w f m vA O v' v2 v3 (wl ++ [x]) pl cl (w3.setCell ⟨O, 2, none⟩ v') := by
  have bO := h.out.grown hg (h.ow.ne_blk h.out (by decide))
  have bR := h.res.grown hg (h.ow.ne_blk h.res (by decide))
  have bB := h.box.grown hg (h.ow.ne_blk h.box (by decide))
  have hO := h.hO
  refine ⟨⟨bO.cell 2 rfl, bO.free 2⟩, ?_⟩
  exact
    { box := bB.far (by show w.heap.size ≠ O; omega) _, res := bR.far (by show w.heap.size + 1 ≠ O; omega) _, out := bO.set 2 _, hO := hO
      ow := ho.setO bO (by decide) (by decide) _ _
      op := (h.op.grow2 h.ow hg (by decide) (by decide)).setO bO (by decide) (by decide) _ _
      oc := (h.oc.grow2 h.ow hg (by decide) (by decide)).setO bO (by decide) (by decide) _ _
      b := (h.b.grown hg h.b.size (fun g hg => (h.ow.block g hg).1)).setCell (p := ⟨O, 2, none⟩) (by show w.heap.size ≤ O; omega) _ }
theorem CfI.stepP {x : PartD} (h : CfI w f m vA O v1 v2 v3 wl pl cl W) (ho : Own tO.rep 52 0 w.heap.size w3 v' (pl ++ [x])) (hg : W.grownBy w3 v2.ownBlock) :
    (w3.cell? ⟨O, 3, none⟩ = some v2 ∧ w3.frozen? ⟨O, 3, none⟩ = false) ∧ CfI w f m vA O v1 v' v3 wl (pl ++ [x]) cl (w3.setCell ⟨O, 3, none⟩ v') := by
  have bO := h.out.grown hg (h.op.ne_blk h.out (by decide))
  have bR := h.res.grown hg (h.op.ne_blk h.res (by decide))
  have bB := h.box.grown hg (h.op.ne_blk h.box (by decide))
  have hO := h.hO
  refine ⟨⟨bO.cell 3 rfl, bO.free 3⟩, ?_⟩
  exact
    { box := bB.far (by show w.heap.size ≠ O; omega) _, res := bR.far (by show w.heap.size + 1 ≠ O; omega) _, out := bO.set 3 _, hO := hO
      ow := (h.ow.grow2 h.op hg (by decide) (by decide)).setO bO (by decide) (by decide) _ _
      op := ho.setO bO (by decide) (by decide) _ _
      oc := (h.oc.grow2 h.op hg (by decide) (by decide)).setO bO (by decide) (by decide) _ _
      b := (h.b.grown hg h.b.size (fun g hg => (h.op.block g hg).1)).setCell (p := ⟨O, 3, none⟩) (by show w.heap.size ≤ O; omega) _ }
theorem CfI.stepC {x : ChanD} (h : CfI w f m vA O v1 v2 v3 wl pl cl W) (ho : Own repC 157 0 w.heap.size w3 v' (cl ++ [x])) (hg : W.grownBy w3 v3.ownBlock) :
    (w3.cell? ⟨O, 4, none⟩ = some v3 ∧ w3.frozen? ⟨O, 4, none⟩ = false) ∧ CfI w f m vA O v1 v2 v' wl pl (cl ++ [x]) (w3.setCell ⟨O, 4, none⟩ v') := by
  have bO := h.out.grown hg (h.oc.ne_blk h.out (by decide))
  have bR := h.res.grown hg (h.oc.ne_blk h.res (by decide))
  have bB := h.box.grown hg (h.oc.ne_blk h.box (by decide))
  have hO := h.hO
  refine ⟨⟨bO.cell 4 rfl, bO.free 4⟩, ?_⟩
  exact
    { box := bB.far (by show w.heap.size ≠ O; omega) _, res := bR.far (by show w.heap.size + 1 ≠ O; omega) _, out := bO.set 4 _, hO := hO
      ow := (h.ow.grow2 h.oc hg (by decide) (by decide)).setO bO (by decide) (by decide) _ _
      op := (h.op.grow2 h.oc hg (by decide) (by decide)).setO bO (by decide) (by decide) _ _
      oc := ho.setO bO (by decide) (by decide) _ _
      b := (h.b.grown hg h.b.size (fun g hg => (h.oc.block g hg).1)).setCell (p := ⟨O, 4, none⟩) (by show w.heap.size ≤ O; omega) _ }
end
def CfgPost (c : CfgD) (w : World) (e : Ending) (w' : World) : Prop :=
  ∃ vw vp vc, e = .returned (.agg #[.int .i64 c.frame, .int .i64 c.margin, vw, vp, vc]) ∧ Own repW 154 0 w.heap.size w' vw c.ws ∧ Own tO.rep 52 0 w.heap.size w' vp c.ps ∧ Own repC 157 0 w.heap.size w' vc c.cs ∧ Below w.heap.size w w'

set_option maxRecDepth 100000 in
set_option maxHeartbeats 4000000 in
theorem config_any (B : Nat) (c : CfgD) (WA : Option Addr) (wc : Nat) (PA : Option Addr) (pc : Nat) (CA : Option Addr) (cc : Nat) (w : World) (h : CfgA tR B w c WA wc PA pc CA cc) (hl : c.light = true) (hB : B ≤ w.heap.size) :
    Calls Try.prog 24 #[.agg #[.int .i64 c.frame, .int .i64 c.margin, .slice WA c.ws.length wc, .slice PA c.ps.length pc, .slice CA c.cs.length cc]] w (CfgPost c w) := by
  simp only [CfgD.light, Bool.and_eq_true, decide_eq_true_eq, List.all_eq_true] at hl
  obtain ⟨⟨⟨l1, l2⟩, l3⟩, l4⟩ := hl
  obtain ⟨f, m, ws, ps, cs⟩ := c
  obtain ⟨hws, hps, hcs⟩ := h
  simp only at l1 l2 l3 l4 hws hps hcs ⊢
  obtain ⟨n1, h1⟩ : ∃ n, ws.length = n := ⟨_, rfl⟩
  obtain ⟨n2, h2⟩ : ∃ n, ps.length = n := ⟨_, rfl⟩
  obtain ⟨n3, h3⟩ : ∃ n, cs.length = n := ⟨_, rfl⟩
  rw [h1] at l1
  rw [h2] at l2
  rw [h3] at l3
  rw [h1, h2, h3]
  have H1 := Lib.hid h1
  have H2 := Lib.hid h2
  have H3 := Lib.hid h3
  have L4 := Lib.hid l4
  clear h1 h2 h3 l4
  go_enter Try.func24, Try.ntmps24
  go_wp2
  generalize hW : World.alloc _ _ = W1
  have hI : CfI w f m #[.int .i64 f, .int .i64 m, .slice WA n1 wc, .slice PA n2 pc, .slice CA n3 cc] (w.heap.size + 2) (.slice none 0 0) (.slice none 0 0) (.slice none 0 0) [] [] [] W1 := by
    rw [← hW]
    exact { box := ((Blk.new _ _ _).alloc _).alloc _, res := (Blk.new' _ _ _ _ (by simp)).alloc _, out := Blk.new' _ _ _ _ (by simp), hO := by omega, ow := Own.nil, op := Own.nil, oc := Own.nil, b := (((Below.refl _ _).alloc (Nat.le_refl _) _).alloc (by simp) _).alloc (by simp <;> omega) _ }
  clear hW
  go_loopw [4] (fun j wr => ∃ (k : Nat) (v1 : Value), k ≤ n1 ∧ j = .int .i64 k ∧ CfI w f m #[.int .i64 f, .int .i64 m, .slice WA n1 wc, .slice PA n2 pc, .slice CA n3 cc] (w.heap.size + 2) v1 (.slice none 0 0) (.slice none 0 0) (ws.take k) [] [] wr) (fun j _ => n1 - (intOf j).toNat)
  case atStart => exact ⟨0, _, Nat.zero_le _, rfl, hI⟩
  case round =>
    clear hI
    obtain ⟨k, v1, hk, rfl, hI⟩ := hrel
    have x2 := hI.box.cell 2 rfl
    by_cases hlt : k < n1
    · have hk2 : (k : Int) < (n1 : Int) := by omega
      obtain ⟨ad, x, rfl, hbk, hx, c0, c1, c2⟩ := at_W (hws.row.keep fun j hj _ => hI.b.block j hj) (k := k) (by rw [H1.out]; omega)
      have o2 := hI.out.cell 2 rfl
      have hsn : ws.take (k + 1) = ws.take k ++ [x] := take_snoc' hx
      have hlen : (ws.take k).length ≤ 60 := by rw [List.length_take, H1.out]; omega
      have Hsn := Lib.hid hsn
      clear hsn hx
      have qb1 := World.block_lt_of_cell? wr _ c0
      have qb2 := hI.out.lt
      have qb3 := hI.box.lt
      have hsz := hI.b.size
      have HI := Lib.hid hI
      clear hI
      go_wp2
      go_region_law (refine step_append_row rfl (.tmp 20) (.tmp 26) 67 rfl repW 154 0 w.heap.size (by kernel_rfl) info_W (by decide) (by decide) (by decide) v1 (ws.take k) ?_ (HI.out.ow.drew.alloc _) (some ⟨wr.heap.size, 0, none⟩) 1 [x] ?_ (fun h => by cases h) (Nat.le_refl _) (Row.one (w := wr.drew) rfl (Nat.zero_le _)) (Nat.zero_le _) ?_ ?_ ?_ ?_; (· rfl); (· rfl); (· simp only [List.length_singleton]; omega); (· simp only [List.length_singleton]; omega); (· simp; omega); intro v' w3 hown' hg hat; obtain ⟨A', n', c', rfl⟩ : ∃ A' n' c', v' = Value.slice A' n' c' := (by obtain ⟨A', c', hv', _⟩ := hown'.row; exact ⟨_, _, _, hv'⟩); have hS3 := HI.out.stepW hown' ((World.grownBy_alloc wr.drew _ _).trans hg).drew_left; have c3 := hS3.1.1; have f3 := hS3.1.2)
      all_goals (go_wp2; go_roundw)
      all_goals first
        | exact ⟨k + 1, _, by omega, by go_num, by rw [Hsn.out]; exact hS3.2⟩
        | (simp [intOf] <;> omega)
    · have hk2 : ¬ (k : Int) < (n1 : Int) := by omega
      have e : ws.take k = ws := List.take_of_length_le (by rw [H1.out]; omega)
      rw [e] at hI
      clear e
      go_wp2
      go_loopw [5] (fun j wr => ∃ (k : Nat) (v2 : Value), k ≤ n2 ∧ j = .int .i64 k ∧ CfI w f m #[.int .i64 f, .int .i64 m, .slice WA n1 wc, .slice PA n2 pc, .slice CA n3 cc] (w.heap.size + 2) v1 v2 (.slice none 0 0) ws (ps.take k) [] wr) (fun j _ => n2 - (intOf j).toNat)
      case atStart => exact ⟨0, _, Nat.zero_le _, rfl, hI⟩
      case round =>
        clear hI x2
        obtain ⟨k, v2, hk, rfl, hI⟩ := hrel
        have x3 := hI.box.cell 3 rfl
        by_cases hlt : k < n2
        · have hk2 : (k : Int) < (n2 : Int) := by omega
          obtain ⟨ad, p, TA, tc, SA, sc, DA, dc, rfl, hbk, hx, c0, c1, c2, c3, c4, c5, s1, s2, s3⟩ := at_P (hps.row.keep fun j hj _ => hI.b.block j hj) (k := k) (by rw [H2.out]; omega)
          have hpf := L4.out p (List.mem_of_getElem? hx)
          simp only [PartD.few, Bool.and_eq_true, decide_eq_true_eq] at hpf
          have o3 := hI.out.cell 3 rfl
          have hsn : ps.take (k + 1) = ps.take k ++ [p] := take_snoc' hx
          have hlen : (ps.take k).length ≤ 20 := by rw [List.length_take, H2.out]; omega
          have Hsn := Lib.hid hsn
          clear hsn hx
          have qb1 := World.block_lt_of_cell? wr _ c0
          have qb2 := hI.out.lt
          have qb3 := hI.box.lt
          have hsz := hI.b.size
          have kP := fun W (hW : Below wr.heap.size wr W) => part_any B TA SA DA tc sc dc p W (s1.row.keep fun j hj _ => hW.block j hj) (s2.row.keep fun j hj _ => hW.block j hj) (s3.row.keep fun j hj _ => hW.block j hj) s3.le s3.nil (by have := hW.size; omega) (by omega) (by omega) (by omega)
          have KP := Lib.hid kP
          have HI := Lib.hid hI
          have z1 : Below wr.heap.size wr wr.drew := (Below.refl _ _).drew
          clear hI kP s1 s2 s3
          go_wp2
          go_region_law (first | (refine step_append_row rfl (.tmp 37) (.tmp 44) 68 rfl tO.rep 52 0 w.heap.size (by kernel_rfl) info_P (by decide) (by decide) (by decide) v2 (ps.take k) ?_ (hI2.op.alloc _) (some ⟨w2.heap.size, 0, none⟩) 1 [p] ?_ (fun h => by cases h) (Nat.le_refl _) (Row.one HR.out (Nat.zero_le _)) (Nat.zero_le _) ?_ ?_ ?_ ?_; (· rfl); (· rfl); (· simp only [List.length_singleton]; omega); (· simp only [List.length_singleton]; omega); (· have := hI2.b.size; simp; omega); intro v' w3 hown' hg hat; obtain ⟨A', n', c', rfl⟩ : ∃ A' n' c', v' = Value.slice A' n' c' := (by obtain ⟨A', c', hv', _⟩ := hown'.row; exact ⟨_, _, _, hv'⟩); have hS3 := hI2.stepP hown' ((World.grownBy_alloc w2 _ _).trans hg); have c3 := hS3.1.1; have f3 := hS3.1.2) | (go_simp; go_at_call 20; refine (KP.out _ z1).mono ?_; rintro e w2 ⟨vt, vs, vd, rfl, ot, os, od, b2⟩; obtain ⟨A1, c1', rfl, sl1⟩ := ot.slc; obtain ⟨A2, c2', rfl, sl2⟩ := os.slc; obtain ⟨A3, c3', rfl, sl3⟩ := od.slc; have hI2 := HI.out.below (z1.trans (b2.mono z1.size)); have o3' := hI2.out.cell 3 rfl; have x3' := hI2.box.cell 3 rfl; have qb4 := hI2.out.lt; have qb5 := hI2.box.lt; have qb6 := (show w.heap.size + 1 + 1 < w2.heap.size from qb4); have hR : tO.rep.R 0 w2 p [.slice A1 p.ts.length c1', .slice A2 p.ss.length c2', .slice A3 p.ds.length c3', .int .u8 p.a0, .int .u8 p.a1, .int .u8 p.a2] := ⟨A1, c1', A2, c2', A3, c3', rfl, sl1, sl2, sl3⟩; have HR := Lib.hid hR; clear hR))
          all_goals (go_wp2; go_roundw)
          all_goals first
            | exact ⟨k + 1, _, by omega, by go_num, by rw [Hsn.out]; exact hS3.2⟩
            | (simp [intOf] <;> omega)
        · have hk2 : ¬ (k : Int) < (n2 : Int) := by omega
          have e : ps.take k = ps := List.take_of_length_le (by rw [H2.out]; omega)
          rw [e] at hI
          clear e
          go_wp2
          go_loopw [6] (fun j wr => ∃ (k : Nat) (v3 : Value), k ≤ n3 ∧ j = .int .i64 k ∧ CfI w f m #[.int .i64 f, .int .i64 m, .slice WA n1 wc, .slice PA n2 pc, .slice CA n3 cc] (w.heap.size + 2) v1 v2 v3 ws ps (cs.take k) wr) (fun j _ => n3 - (intOf j).toNat)
          case atStart => exact ⟨0, _, Nat.zero_le _, rfl, hI⟩
          case round =>
            clear hI x3
            obtain ⟨k, v3, hk, rfl, hI⟩ := hrel
            have x4 := hI.box.cell 4 rfl
            by_cases hlt : k < n3
            · have hk2 : (k : Int) < (n3 : Int) := by omega
              obtain ⟨ad, x, rfl, hbk, hx, c0, c1, c2, c3'⟩ := at_C (hcs.row.keep fun j hj _ => hI.b.block j hj) (k := k) (by rw [H3.out]; omega)
              have o4 := hI.out.cell 4 rfl
              have hsn : cs.take (k + 1) = cs.take k ++ [x] := take_snoc' hx
              have hlen : (cs.take k).length ≤ 60 := by rw [List.length_take, H3.out]; omega
              have Hsn := Lib.hid hsn
              clear hsn hx
              have qb1 := World.block_lt_of_cell? wr _ c0
              have qb2 := hI.out.lt
              have qb3 := hI.box.lt
              have hsz := hI.b.size
              have HI := Lib.hid hI
              clear hI
              go_wp2
              go_region_law (refine step_append_row rfl (.tmp 55) (.tmp 61) 69 rfl repC 157 0 w.heap.size (by kernel_rfl) info_C (by decide) (by decide) (by decide) v3 (cs.take k) ?_ (HI.out.oc.drew.alloc _) (some ⟨wr.heap.size, 0, none⟩) 1 [x] ?_ (fun h => by cases h) (Nat.le_refl _) (Row.one (w := wr.drew) rfl (Nat.zero_le _)) (Nat.zero_le _) ?_ ?_ ?_ ?_; (· rfl); (· rfl); (· simp only [List.length_singleton]; omega); (· simp only [List.length_singleton]; omega); (· simp; omega); intro v' w3 hown' hg hat; obtain ⟨A', n', c', rfl⟩ : ∃ A' n' c', v' = Value.slice A' n' c' := (by obtain ⟨A', c', hv', _⟩ := hown'.row; exact ⟨_, _, _, hv'⟩); have hS3 := HI.out.stepC hown' ((World.grownBy_alloc wr.drew _ _).trans hg).drew_left; have c3 := hS3.1.1; have f3 := hS3.1.2)
              all_goals (go_wp2; go_roundw)
              all_goals first
                | exact ⟨k + 1, _, by omega, by go_num, by rw [Hsn.out]; exact hS3.2⟩
                | (simp [intOf] <;> omega)
            · have hk2 : ¬ (k : Int) < (n3 : Int) := by omega
              have e : cs.take k = cs := List.take_of_length_le (by rw [H3.out]; omega)
              rw [e] at hI
              clear e
              obtain ⟨A1, q1, c1, rfl⟩ : ∃ A n c, v1 = Value.slice A n c := (by obtain ⟨A', c', hv', _⟩ := hI.ow.row; exact ⟨_, _, _, hv'⟩)
              obtain ⟨A2, q2, c2, rfl⟩ : ∃ A n c, v2 = Value.slice A n c := (by obtain ⟨A', c', hv', _⟩ := hI.op.row; exact ⟨_, _, _, hv'⟩)
              obtain ⟨A3, q3, c3, rfl⟩ : ∃ A n c, v3 = Value.slice A n c := (by obtain ⟨A', c', hv', _⟩ := hI.oc.row; exact ⟨_, _, _, hv'⟩)
              have y0 := hI.out.cell 0 rfl
              have y1 := hI.out.cell 1 rfl
              have y2 := hI.out.cell 2 rfl
              have y3 := hI.out.cell 3 rfl
              have y4 := hI.out.cell 4 rfl
              have r0 := hI.res.cell 0 rfl
              have r1 := hI.res.cell 1 rfl
              have r2 := hI.res.cell 2 rfl
              have r3 := hI.res.cell 3 rfl
              have r4 := hI.res.cell 4 rfl
              have g0 := hI.res.free 0
              have g1 := hI.res.free 1
              have g2 := hI.res.free 2
              have g3 := hI.res.free 3
              have g4 := hI.res.free 4
              have hRf := ((((hI.res.set 0 (.int .i64 f)).set 1 (.int .i64 m)).set 2 (.slice A1 q1 c1)).set 3 (.slice A2 q2 c2)).set 4 (.slice A3 q3 c3)
              have p0 := hRf.cell 0 rfl
              have p1 := hRf.cell 1 rfl
              have p2 := hRf.cell 2 rfl
              have p3 := hRf.cell 3 rfl
              have p4 := hRf.cell 4 rfl
              have hkeep : ∀ k : Nat, (∀ cells : Array Value, wr.heap[k]? ≠ some (Obj.cells cells 71 (0, 0))) → (((((wr.setCell ⟨w.heap.size + 1, 0, none⟩ (.int .i64 f)).setCell ⟨w.heap.size + 1, 1, none⟩ (.int .i64 m)).setCell ⟨w.heap.size + 1, 2, none⟩ (.slice A1 q1 c1)).setCell ⟨w.heap.size + 1, 3, none⟩ (.slice A2 q2 c2)).setCell ⟨w.heap.size + 1, 4, none⟩ (.slice A3 q3 c3)).heap[k]? = wr.heap[k]? := fun k hk => by
                have n1 := hI.res.not hk
                rw [Below.heap_setCell _ _ _ _ n1, Below.heap_setCell _ _ _ _ n1, Below.heap_setCell _ _ _ _ n1, Below.heap_setCell _ _ _ _ n1, Below.heap_setCell _ _ _ _ n1]
              have Hkeep := Lib.hid hkeep
              have HI := Lib.hid hI
              clear hkeep hI
              go_wp2
              refine bodyPost_ret (v := .agg #[.int .i64 f, .int .i64 m, .slice A1 q1 c1, .slice A2 q2 c2, .slice A3 q3 c3]) ?_ rfl ?_
              · simp [results, Try.results24, go_sem, p0, p1, p2, p3, p4]
              · have hk := Hkeep.out
                exact ⟨_, _, _, rfl, HI.out.ow.others hk (by decide) (by decide), HI.out.op.others hk (by decide) (by decide), HI.out.oc.others hk (by decide) (by decide),
                  ((((HI.out.b.setCell (p := ⟨w.heap.size + 1, 0, none⟩) (Nat.le_succ _) _).setCell (p := ⟨w.heap.size + 1, 1, none⟩) (Nat.le_succ _) _).setCell (p := ⟨w.heap.size + 1, 2, none⟩) (Nat.le_succ _) _).setCell (p := ⟨w.heap.size + 1, 3, none⟩) (Nat.le_succ _) _).setCell (p := ⟨w.heap.size + 1, 4, none⟩) (Nat.le_succ _) _⟩
end Go.Proofs.Ytgljmflcbdhigaa
