/- Arguments of these laws, as they are read. -/
import Derived.Test.YtgljmflcbdhigaaCfg
import Derived.Test.YtgljmflcbdhigaaOpen
set_option linter.unusedVariables false
namespace Go.Proofs.Ytgljmflcbdhigaa
open Go.ChangeShapes Go.WideShapes Go.RowKit

theorem piece_int {H : Type} {enc : TypeId × Value → H} {P : Program} {w : World} {base : Nat} {spare : Nat → Bool} {held : Bool} {fuel : Nat} {cs : List Value} {x : DataW H × List MemPlace} {t : TypeId} (o : Nat) (ht : P.underlying t = some (.int .i64)) (hc : P.cellsOf t = 1)
    (h : DataW.trod enc P w base spare held fuel t ((cs.drop o).take (P.cellsOf t)) = some x) : ∃ n, Big n ∧ cs[o]? = some (.int .i64 n) := by
  obtain ⟨n, h1, _, h2⟩ := DataW.trod_int ht h
  rw [hc] at h1
  exact ⟨n, bounds_i64 h2, cell_of_cut h1⟩
theorem piece_bool {H : Type} {enc : TypeId × Value → H} {P : Program} {w : World} {base : Nat} {spare : Nat → Bool} {held : Bool} {fuel : Nat} {cs : List Value} {x : DataW H × List MemPlace} {t : TypeId} (o : Nat) (ht : P.underlying t = some .bool) (hc : P.cellsOf t = 1)
    (h : DataW.trod enc P w base spare held fuel t ((cs.drop o).take (P.cellsOf t)) = some x) : ∃ b, cs[o]? = some (.bool b) := by
  obtain ⟨b, h1, _⟩ := DataW.trod_bool ht h
  rw [hc] at h1
  exact ⟨b, cell_of_cut h1⟩

def TaskD.big (x : TaskD) : Prop := Big x.t ∧ Big x.d ∧ Big x.v ∧ Big x.lo ∧ Big x.top
def Srv.big (x : Srv) : Prop := Big x.c ∧ Big x.t
theorem opensS : Opens Try.prog 24 repS Srv.big := by
  intro H enc w base spare held fuel cs x h
  obtain ⟨hl, n, hf⟩ := struct_fields Try.underlying24 h
  rw [show Try.prog.cellsOf 24 = 3 by kernel_rfl] at hl
  have hc : Try.prog.cellsOf 3 = 1 := by kernel_rfl
  obtain ⟨y0, h0⟩ := hf 0 _ rfl
  obtain ⟨y1, h1⟩ := hf 1 _ rfl
  obtain ⟨y2, h2⟩ := hf 2 _ rfl
  obtain ⟨n0, c0⟩ := piece_bool 0 Try.underlying4 (by kernel_rfl) h0
  obtain ⟨n1, b1, c1⟩ := piece_int 1 Try.underlying3 hc h1
  obtain ⟨n2, b2, c2⟩ := piece_int 2 Try.underlying3 hc h2
  have e : cs = [.bool n0, .int .i64 n1, .int .i64 n2] := by
    clear h0 h1 h2 hf h
    match cs, hl with
    | [u0, u1, u2], _ =>
      simp at c0 c1 c2
      rw [c0, c1, c2]
  exact ⟨⟨n0, n1, n2⟩, ⟨b1, b2⟩, e⟩

theorem opensT : Opens Try.prog 143 repT TaskD.big := by
  intro H enc w base spare held fuel cs x h
  obtain ⟨hl, n, hf⟩ := struct_fields Try.underlying143 h
  rw [show Try.prog.cellsOf 143 = 6 by kernel_rfl] at hl
  have hc : Try.prog.cellsOf 3 = 1 := by kernel_rfl
  obtain ⟨y0, h0⟩ := hf 0 _ rfl
  obtain ⟨y1, h1⟩ := hf 1 _ rfl
  obtain ⟨y2, h2⟩ := hf 2 _ rfl
  obtain ⟨y3, h3⟩ := hf 3 _ rfl
  obtain ⟨y4, h4⟩ := hf 4 _ rfl
  obtain ⟨y5, h5⟩ := hf 5 _ rfl
  obtain ⟨n0, c0⟩ := piece_bool 0 Try.underlying4 (by kernel_rfl) h0
  obtain ⟨n1, b1, c1⟩ := piece_int 1 Try.underlying3 hc h1
  obtain ⟨n2, b2, c2⟩ := piece_int 2 Try.underlying3 hc h2
  obtain ⟨n3, b3, c3⟩ := piece_int 3 Try.underlying3 hc h3
  obtain ⟨n4, b4, c4⟩ := piece_int 4 Try.underlying3 hc h4
  obtain ⟨n5, b5, c5⟩ := piece_int 5 Try.underlying3 hc h5
  have e : cs = [.bool n0, .int .i64 n1, .int .i64 n2, .int .i64 n3, .int .i64 n4, .int .i64 n5] := by
    clear h0 h1 h2 h3 h4 h5 hf h
    match cs, hl with
    | [u0, u1, u2, u3, u4, u5], _ =>
      simp at c0 c1 c2 c3 c4 c5
      rw [c0, c1, c2, c3, c4, c5]
  exact ⟨⟨n0, n1, n2, n3, n4, n5⟩, ⟨b1, b2, b3, b4, b5⟩, e⟩

theorem opensW : Opens Try.prog 155 repW (fun x => Big x.at_ ∧ Big x.len ∧ Big x.part) := by
  intro H enc w base spare held fuel cs x h
  obtain ⟨hl, n, hf⟩ := struct_fields Try.underlying155 h
  rw [show Try.prog.cellsOf 155 = 3 by kernel_rfl] at hl
  have hc : Try.prog.cellsOf 3 = 1 := by kernel_rfl
  obtain ⟨y0, h0⟩ := hf 0 _ rfl
  obtain ⟨y1, h1⟩ := hf 1 _ rfl
  obtain ⟨y2, h2⟩ := hf 2 _ rfl
  obtain ⟨n0, b0, c0⟩ := piece_int 0 Try.underlying3 hc h0
  obtain ⟨n1, b1, c1⟩ := piece_int 1 Try.underlying3 hc h1
  obtain ⟨n2, b2, c2⟩ := piece_int 2 Try.underlying3 hc h2
  have e : cs = [.int .i64 n0, .int .i64 n1, .int .i64 n2] := by
    clear h0 h1 h2 hf h
    match cs, hl with
    | [u0, u1, u2], _ =>
      simp at c0 c1 c2
      rw [c0, c1, c2]
  exact ⟨⟨n0, n1, n2⟩, ⟨b0, b1, b2⟩, e⟩
theorem opensC : Opens Try.prog 158 repC (fun x => Big x.frm ∧ Big x.to_ ∧ Big x.size) := by
  intro H enc w base spare held fuel cs x h
  obtain ⟨hl, n, hf⟩ := struct_fields Try.underlying158 h
  rw [show Try.prog.cellsOf 158 = 4 by kernel_rfl] at hl
  have hc : Try.prog.cellsOf 3 = 1 := by kernel_rfl
  obtain ⟨y0, h0⟩ := hf 0 _ rfl
  obtain ⟨y1, h1⟩ := hf 1 _ rfl
  obtain ⟨y2, h2⟩ := hf 2 _ rfl
  obtain ⟨y3, h3⟩ := hf 3 _ rfl
  obtain ⟨n0, c0⟩ := piece_bool 0 Try.underlying4 (by kernel_rfl) h0
  obtain ⟨n1, b1, c1⟩ := piece_int 1 Try.underlying3 hc h1
  obtain ⟨n2, b2, c2⟩ := piece_int 2 Try.underlying3 hc h2
  obtain ⟨n3, b3, c3⟩ := piece_int 3 Try.underlying3 hc h3
  have e : cs = [.bool n0, .int .i64 n1, .int .i64 n2, .int .i64 n3] := by
    clear h0 h1 h2 h3 hf h
    match cs, hl with
    | [u0, u1, u2, u3], _ =>
      simp at c0 c1 c2 c3
      rw [c0, c1, c2, c3]
  exact ⟨⟨n0, n1, n2, n3⟩, ⟨b1, b2, b3⟩, e⟩

structure PartD.Big' (p : PartD) : Prop where
  ts : ∀ x ∈ p.ts, x.big
  ss : ∀ x ∈ p.ss, x.big
  ds : ∀ x ∈ p.ds, Big x
  a0 : 0 ≤ p.a0 ∧ p.a0 ≤ 255
  a1 : 0 ≤ p.a1 ∧ p.a1 ≤ 255
  a2 : 0 ≤ p.a2 ∧ p.a2 ≤ 255
/-- A partition. -/
theorem opensP : Opens Try.prog 45 (repP 143 24 3) PartD.Big' := by
  intro H enc w base spare held fuel cs x h
  obtain ⟨hl, n, hf⟩ := struct_fields Try.underlying45 h
  rw [show Try.prog.cellsOf 45 = 6 by kernel_rfl] at hl
  obtain ⟨y0, g0⟩ := hf 0 _ rfl
  have h0 : DataW.trod enc Try.prog w base spare held n 40 ((cs.drop 0).take (Try.prog.cellsOf 40)) = some y0 := g0
  rw [show Try.prog.cellsOf 40 = 1 by kernel_rfl] at h0
  obtain ⟨y1, g1⟩ := hf 1 _ rfl
  have h1 : DataW.trod enc Try.prog w base spare held n 41 ((cs.drop 1).take (Try.prog.cellsOf 41)) = some y1 := g1
  rw [show Try.prog.cellsOf 41 = 1 by kernel_rfl] at h1
  obtain ⟨y2, g2⟩ := hf 2 _ rfl
  have h2 : DataW.trod enc Try.prog w base spare held n 42 ((cs.drop 2).take (Try.prog.cellsOf 42)) = some y2 := g2
  rw [show Try.prog.cellsOf 42 = 1 by kernel_rfl] at h2
  obtain ⟨y3, g3⟩ := hf 3 _ rfl
  have h3 : DataW.trod enc Try.prog w base spare held n 43 ((cs.drop 3).take (Try.prog.cellsOf 43)) = some y3 := g3
  rw [show Try.prog.cellsOf 43 = 3 by kernel_rfl] at h3
  clear g0 g1 g2 g3
  obtain ⟨ts, bt, TA, tc, e0, l0, m0, z0, r0⟩ := (opensT.slice Try.underlying40 (by kernel_rfl) (by decide)) h0
  obtain ⟨ss, bs, SA, sc, e1, l1, m1, z1, r1⟩ := (opensS.slice Try.underlying41 (by kernel_rfl) (by decide)) h1
  obtain ⟨ds, bd, DA, dc, e2, l2, m2, z2, r2⟩ := (Opens.slice (d := repI) (Q := Big) Try.underlying42 (by kernel_rfl) (by decide) (Opens.int Try.underlying3)) h2
  obtain ⟨xs, m, _, _, ha, hxl, hx⟩ := DataW.trod_array Try.underlying43 h3
  have hel : ∀ i, i < 3 → ∃ a, (0 ≤ a ∧ a ≤ 255) ∧ cs[3 + i]? = some (.int .u8 a) := fun i hi => by
    have h4 := hx i hi
    rw [List.getElem?_eq_getElem (show i < xs.length by omega)] at h4
    obtain ⟨a, h5, _, h7⟩ := DataW.trod_int Try.underlying5 h4
    rw [show Try.prog.cellsOf 5 = 1 by kernel_rfl] at h5
    have h6 := cell_of_cut h5
    rw [Nat.mul_one, List.getElem?_take_of_lt (by omega), List.getElem?_drop] at h6
    exact ⟨a, bounds_u8 h7, h6⟩
  obtain ⟨a0, b0, c3⟩ := hel 0 (by omega)
  obtain ⟨a1, b1, c4⟩ := hel 1 (by omega)
  obtain ⟨a2, b2, c5⟩ := hel 2 (by omega)
  have c0 := cell_of_cut e0
  have c1 := cell_of_cut e1
  have c2 := cell_of_cut e2
  refine ⟨⟨ts, ss, ds, a0, a1, a2⟩, ⟨bt, bs, bd, b0, b1, b2⟩, TA, tc, SA, sc, DA, dc, ?_, ⟨l0, m0, z0, r0⟩, ⟨l1, m1, z1, r1⟩, ⟨l2, m2, z2, r2⟩⟩
  clear h0 h1 h2 h3 hf h hx hel e0 e1 e2 ha
  match cs, hl with
  | [u0, u1, u2, u3, u4, u5], _ =>
    simp at c0 c1 c2 c3 c4 c5
    rw [c0, c1, c2, c3, c4, c5]

structure CfgD.Big' (c : CfgD) : Prop where
  frame : Big c.frame
  margin : Big c.margin
  ws : ∀ x ∈ c.ws, Big x.at_ ∧ Big x.len ∧ Big x.part
  ps : ∀ p ∈ c.ps, p.Big'
  cs : ∀ x ∈ c.cs, Big x.frm ∧ Big x.to_ ∧ Big x.size
/-- A system. -/
theorem opensCfg : Opens Try.prog 64 (repCfg tR) CfgD.Big' := by
  intro H enc w base spare held fuel cs x h
  obtain ⟨hl, n, hf⟩ := struct_fields Try.underlying64 h
  rw [show Try.prog.cellsOf 64 = 5 by kernel_rfl] at hl
  have hc : Try.prog.cellsOf 3 = 1 := by kernel_rfl
  obtain ⟨y0, h0⟩ := hf 0 _ rfl
  obtain ⟨y1, h1⟩ := hf 1 _ rfl
  obtain ⟨y2, g2⟩ := hf 2 _ rfl
  have h2 : DataW.trod enc Try.prog w base spare held n 60 ((cs.drop 2).take (Try.prog.cellsOf 60)) = some y2 := g2
  rw [show Try.prog.cellsOf 60 = 1 by kernel_rfl] at h2
  obtain ⟨y3, g3⟩ := hf 3 _ rfl
  have h3 : DataW.trod enc Try.prog w base spare held n 61 ((cs.drop 3).take (Try.prog.cellsOf 61)) = some y3 := g3
  rw [show Try.prog.cellsOf 61 = 1 by kernel_rfl] at h3
  obtain ⟨y4, g4⟩ := hf 4 _ rfl
  have h4 : DataW.trod enc Try.prog w base spare held n 62 ((cs.drop 4).take (Try.prog.cellsOf 62)) = some y4 := g4
  rw [show Try.prog.cellsOf 62 = 1 by kernel_rfl] at h4
  clear g2 g3 g4
  obtain ⟨n0, b0, c0⟩ := piece_int 0 Try.underlying3 hc h0
  obtain ⟨n1, b1, c1⟩ := piece_int 1 Try.underlying3 hc h1
  obtain ⟨ws, bw, WA, wc, e2, l2, m2, z2, r2⟩ := (opensW.slice Try.underlying60 (by kernel_rfl) (by decide)) h2
  obtain ⟨ps, bp, PA, pc, e3, l3, m3, z3, r3⟩ := (opensP.slice Try.underlying61 (by kernel_rfl) (by decide)) h3
  obtain ⟨hs, bh, CA, cc, e4, l4, m4, z4, r4⟩ := (opensC.slice Try.underlying62 (by kernel_rfl) (by decide)) h4
  have c2 := cell_of_cut e2
  have c3 := cell_of_cut e3
  have c4 := cell_of_cut e4
  refine ⟨⟨n0, n1, ws, ps, hs⟩, ⟨b0, b1, bw, bp, bh⟩, WA, wc, PA, pc, CA, cc, ?_, ⟨l2, m2, z2, r2⟩, ⟨l3, m3, z3, r3⟩, ⟨l4, m4, z4, r4⟩⟩
  clear h0 h1 h2 h3 h4 hf h e2 e3 e4
  match cs, hl with
  | [u0, u1, u2, u3, u4], _ =>
    simp at c0 c1 c2 c3 c4
    rw [c0, c1, c2, c3, c4]
end Go.Proofs.Ytgljmflcbdhigaa
