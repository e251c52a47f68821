/- Arguments of these laws, as they are read. -/
import Derived.Test.YtgljmflcbdhigaaAuditR
import Derived.Test.YtgljmflcbdhigaaOpen
set_option linter.unusedVariables false
namespace Go.Proofs.Ytgljmflcbdhigaa
open Go.ChangeShapes Go.WideShapes Go.RowKit

theorem piece_int {H : Type} {enc : TypeId × Value → H} {P : Program} {w : World} {base : Nat} {spare : Nat → Bool} {held : Bool} {fuel : Nat} {cs : List Value} {x : DataW H × List MemPlace} {t : TypeId} (o : Nat) (ht : P.underlying t = some (.int .i64)) (hc : P.cellsOf t = 1)
    (h : DataW.trod enc P w base spare held fuel t ((cs.drop o).take (P.cellsOf t)) = some x) : ∃ n, Big n ∧ cs[o]? = some (.int .i64 n) := by
  obtain ⟨n, h1, _, h2⟩ := DataW.trod_int ht h
  rw [hc] at h1
  exact ⟨n, bounds_i64 h2, cell_of_cut h1⟩
theorem piece_bool {H : Type} {enc : TypeId × Value → H} {P : Program} {w : World} {base : Nat} {spare : Nat → Bool} {held : Bool} {fuel : Nat} {cs : List Value} {x : DataW H × List MemPlace} {t : TypeId} (o : Nat) (ht : P.underlying t = some .bool) (hc : P.cellsOf t = 1)
    (h : DataW.trod enc P w base spare held fuel t ((cs.drop o).take (P.cellsOf t)) = some x) : ∃ b, cs[o]? = some (.bool b) := by
  obtain ⟨b, h1, _⟩ := DataW.trod_bool ht h
  rw [hc] at h1
  exact ⟨b, cell_of_cut h1⟩

theorem opensE : Opens Try.prog 132 repE (fun _ => True) := by
  intro H enc w base spare held fuel cs x h
  obtain ⟨hl, n, hf⟩ := struct_fields Try.underlying132 h
  rw [show Try.prog.cellsOf 132 = 4 by kernel_rfl] at hl
  have hc : Try.prog.cellsOf 3 = 1 := by kernel_rfl
  obtain ⟨y0, h0⟩ := hf 0 _ rfl
  obtain ⟨y1, h1⟩ := hf 1 _ rfl
  obtain ⟨y2, h2⟩ := hf 2 _ rfl
  obtain ⟨y3, h3⟩ := hf 3 _ rfl
  obtain ⟨n0, _, c0⟩ := piece_int 0 Try.underlying3 hc h0
  obtain ⟨n1, _, c1⟩ := piece_int 1 Try.underlying3 hc h1
  obtain ⟨n2, _, c2⟩ := piece_int 2 Try.underlying3 hc h2
  obtain ⟨n3, _, c3⟩ := piece_int 3 Try.underlying3 hc h3
  have e : cs = [.int .i64 n0, .int .i64 n1, .int .i64 n2, .int .i64 n3] := by
    clear h0 h1 h2 h3 hf h
    match cs, hl with
    | [u0, u1, u2, u3], _ =>
      simp at c0 c1 c2 c3
      rw [c0, c1, c2, c3]
  exact ⟨⟨n0, n1, n2, n3⟩, trivial, e⟩
theorem opensS : Opens Try.prog 24 repS (fun _ => True) := by
  intro H enc w base spare held fuel cs x h
  obtain ⟨hl, n, hf⟩ := struct_fields Try.underlying24 h
  rw [show Try.prog.cellsOf 24 = 3 by kernel_rfl] at hl
  have hc : Try.prog.cellsOf 3 = 1 := by kernel_rfl
  obtain ⟨y0, h0⟩ := hf 0 _ rfl
  obtain ⟨y1, h1⟩ := hf 1 _ rfl
  obtain ⟨y2, h2⟩ := hf 2 _ rfl
  obtain ⟨n0, c0⟩ := piece_bool 0 Try.underlying4 (by kernel_rfl) h0
  obtain ⟨n1, _, c1⟩ := piece_int 1 Try.underlying3 hc h1
  obtain ⟨n2, _, c2⟩ := piece_int 2 Try.underlying3 hc h2
  have e : cs = [.bool n0, .int .i64 n1, .int .i64 n2] := by
    clear h0 h1 h2 hf h
    match cs, hl with
    | [u0, u1, u2], _ =>
      simp at c0 c1 c2
      rw [c0, c1, c2]
  exact ⟨⟨n0, n1, n2⟩, trivial, e⟩

theorem opensT : Opens Try.prog 143 repT (fun _ => True) := by
  intro H enc w base spare held fuel cs x h
  obtain ⟨hl, n, hf⟩ := struct_fields Try.underlying143 h
  rw [show Try.prog.cellsOf 143 = 6 by kernel_rfl] at hl
  have hc : Try.prog.cellsOf 3 = 1 := by kernel_rfl
  obtain ⟨y0, h0⟩ := hf 0 _ rfl
  obtain ⟨y1, h1⟩ := hf 1 _ rfl
  obtain ⟨y2, h2⟩ := hf 2 _ rfl
  obtain ⟨y3, h3⟩ := hf 3 _ rfl
  obtain ⟨y4, h4⟩ := hf 4 _ rfl
  obtain ⟨y5, h5⟩ := hf 5 _ rfl
  obtain ⟨n0, c0⟩ := piece_bool 0 Try.underlying4 (by kernel_rfl) h0
  obtain ⟨n1, _, c1⟩ := piece_int 1 Try.underlying3 hc h1
  obtain ⟨n2, _, c2⟩ := piece_int 2 Try.underlying3 hc h2
  obtain ⟨n3, _, c3⟩ := piece_int 3 Try.underlying3 hc h3
  obtain ⟨n4, _, c4⟩ := piece_int 4 Try.underlying3 hc h4
  obtain ⟨n5, _, c5⟩ := piece_int 5 Try.underlying3 hc h5
  have e : cs = [.bool n0, .int .i64 n1, .int .i64 n2, .int .i64 n3, .int .i64 n4, .int .i64 n5] := by
    clear h0 h1 h2 h3 h4 h5 hf h
    match cs, hl with
    | [u0, u1, u2, u3, u4, u5], _ =>
      simp at c0 c1 c2 c3 c4 c5
      rw [c0, c1, c2, c3, c4, c5]
  exact ⟨⟨n0, n1, n2, n3, n4, n5⟩, trivial, e⟩
/-- A partition. -/
theorem opensP {H : Type} {enc : TypeId × Value → H} {w : World} {base : Nat} {spare : Nat → Bool} {held : Bool} {fuel : Nat} {cs : List Value} {x : DataW H × List MemPlace} (h : DataW.trod enc Try.prog w base spare held fuel 45 cs = some x) :
    ∃ (TA SA DA : Option Addr) (tc sc dc : Nat) (ts : List TaskD) (ss : List Srv) (ds : List Int) (a0 a1 a2 : Int), cs = [.slice TA ts.length tc, .slice SA ss.length sc, .slice DA ds.length dc, .int .u8 a0, .int .u8 a1, .int .u8 a2] ∧
      Row repT 143 w.heap.size w TA ts ∧ Row repS 24 w.heap.size w SA ss ∧ Row repI 3 w.heap.size w DA ds ∧ ds.length ≤ dc ∧ (DA = none → dc = 0) := by
  obtain ⟨hl, n, hf⟩ := struct_fields Try.underlying45 h
  rw [show Try.prog.cellsOf 45 = 6 by kernel_rfl] at hl
  obtain ⟨y0, g0⟩ := hf 0 _ rfl
  have h0 : DataW.trod enc Try.prog w base spare held n 40 ((cs.drop 0).take (Try.prog.cellsOf 40)) = some y0 := g0
  rw [show Try.prog.cellsOf 40 = 1 by kernel_rfl] at h0
  obtain ⟨y1, g1⟩ := hf 1 _ rfl
  have h1 : DataW.trod enc Try.prog w base spare held n 41 ((cs.drop 1).take (Try.prog.cellsOf 41)) = some y1 := g1
  rw [show Try.prog.cellsOf 41 = 1 by kernel_rfl] at h1
  obtain ⟨y2, g2⟩ := hf 2 _ rfl
  have h2 : DataW.trod enc Try.prog w base spare held n 42 ((cs.drop 2).take (Try.prog.cellsOf 42)) = some y2 := g2
  rw [show Try.prog.cellsOf 42 = 1 by kernel_rfl] at h2
  obtain ⟨y3, g3⟩ := hf 3 _ rfl
  have h3 : DataW.trod enc Try.prog w base spare held n 43 ((cs.drop 3).take (Try.prog.cellsOf 43)) = some y3 := g3
  rw [show Try.prog.cellsOf 43 = 3 by kernel_rfl] at h3
  clear g0 g1 g2 g3
  obtain ⟨ts, _, TA, tc, e0, _, _, _, r0⟩ := (opensT.slice Try.underlying40 (by kernel_rfl) (by decide)) h0
  obtain ⟨ss, _, SA, sc, e1, _, _, _, r1⟩ := (opensS.slice Try.underlying41 (by kernel_rfl) (by decide)) h1
  obtain ⟨ds, _, DA, dc, e2, l2, _, z2, r2⟩ := (Opens.slice (d := repI) (Q := Big) Try.underlying42 (by kernel_rfl) (by decide) (Opens.int Try.underlying3)) h2
  obtain ⟨xs, m, _, _, ha, hxl, hx⟩ := DataW.trod_array Try.underlying43 h3
  have hel : ∀ i, i < 3 → ∃ a, cs[3 + i]? = some (.int .u8 a) := fun i hi => by
    have h4 := hx i hi
    rw [List.getElem?_eq_getElem (show i < xs.length by omega)] at h4
    obtain ⟨a, h5, _, _⟩ := DataW.trod_int Try.underlying5 h4
    rw [show Try.prog.cellsOf 5 = 1 by kernel_rfl] at h5
    have h6 := cell_of_cut h5
    rw [Nat.mul_one, List.getElem?_take_of_lt (by omega), List.getElem?_drop] at h6
    exact ⟨a, h6⟩
  obtain ⟨a0, c3⟩ := hel 0 (by omega)
  obtain ⟨a1, c4⟩ := hel 1 (by omega)
  obtain ⟨a2, c5⟩ := hel 2 (by omega)
  have c0 := cell_of_cut e0
  have c1 := cell_of_cut e1
  have c2 := cell_of_cut e2
  refine ⟨TA, SA, DA, tc, sc, dc, ts, ss, ds, a0, a1, a2, ?_, r0, r1, r2, l2, z2⟩
  clear h0 h1 h2 h3 hf h hx hel e0 e1 e2 ha
  match cs, hl with
  | [u0, u1, u2, u3, u4, u5], _ =>
    simp at c0 c1 c2 c3 c4 c5
    rw [c0, c1, c2, c3, c4, c5]
end Go.Proofs.Ytgljmflcbdhigaa
