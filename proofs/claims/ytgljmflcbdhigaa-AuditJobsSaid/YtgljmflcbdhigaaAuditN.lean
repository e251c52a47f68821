/- The report's jobs of a log of up to 100 entries are the document's; words and waits agree too: the law AuditJobs returns true for every input, and each argument reads as it did. -/
import Derived.Test.YtgljmflcbdhigaaRows
import Derived.Test.YtgljmflcbdhigaaAuditM
import Derived.Test.YtgljmflcbdhigaaOpen
import Derived.WalkKit
import Derived.ProofKit
import Derived.OpenShut
import Derived.ShutString
import Derived.ChangeOld
import Derived.Below
namespace Go.Proofs.Ytgljmflcbdhigaa
open Go.ChangeShapes Go.WideShapes Go.ChangeAt Go.RowKit
set_option linter.unusedVariables false

theorem piece_int {H : Type} {enc : TypeId × Value → H} {P : Program} {w : World} {base : Nat} {spare : Nat → Bool} {held : Bool} {fuel : Nat} {cs : List Value} {x : DataW H × List MemPlace} {t : TypeId} (o : Nat) (ht : P.underlying t = some (.int .i64)) (hc : P.cellsOf t = 1)
    (h : DataW.trod enc P w base spare held fuel t ((cs.drop o).take (P.cellsOf t)) = some x) : ∃ n, Big n ∧ cs[o]? = some (.int .i64 n) := by
  obtain ⟨n, h1, _, h2⟩ := DataW.trod_int ht h
  rw [hc] at h1
  exact ⟨n, bounds_i64 h2, cell_of_cut h1⟩
theorem piece_bool {H : Type} {enc : TypeId × Value → H} {P : Program} {w : World} {base : Nat} {spare : Nat → Bool} {held : Bool} {fuel : Nat} {cs : List Value} {x : DataW H × List MemPlace} {t : TypeId} (o : Nat) (ht : P.underlying t = some .bool) (hc : P.cellsOf t = 1)
    (h : DataW.trod enc P w base spare held fuel t ((cs.drop o).take (P.cellsOf t)) = some x) : ∃ b, cs[o]? = some (.bool b) := by
  obtain ⟨b, h1, _⟩ := DataW.trod_bool ht h
  rw [hc] at h1
  exact ⟨b, cell_of_cut h1⟩

theorem opensE : Opens Try.prog 132 repE (fun _ => True) := by
  intro H enc w base spare held fuel cs x h
  obtain ⟨hl, n, hf⟩ := struct_fields Try.underlying132 h
  rw [show Try.prog.cellsOf 132 = 4 by kernel_rfl] at hl
  have hc : Try.prog.cellsOf 3 = 1 := by kernel_rfl
  obtain ⟨y0, h0⟩ := hf 0 _ rfl
  obtain ⟨y1, h1⟩ := hf 1 _ rfl
  obtain ⟨y2, h2⟩ := hf 2 _ rfl
  obtain ⟨y3, h3⟩ := hf 3 _ rfl
  obtain ⟨n0, _, c0⟩ := piece_int 0 Try.underlying3 hc h0
  obtain ⟨n1, _, c1⟩ := piece_int 1 Try.underlying3 hc h1
  obtain ⟨n2, _, c2⟩ := piece_int 2 Try.underlying3 hc h2
  obtain ⟨n3, _, c3⟩ := piece_int 3 Try.underlying3 hc h3
  have e : cs = [.int .i64 n0, .int .i64 n1, .int .i64 n2, .int .i64 n3] := by
    clear h0 h1 h2 h3 hf h
    match cs, hl with
    | [u0, u1, u2, u3], _ =>
      simp at c0 c1 c2 c3
      rw [c0, c1, c2, c3]
  exact ⟨⟨n0, n1, n2, n3⟩, trivial, e⟩
theorem opensS : Opens Try.prog 24 repS (fun _ => True) := by
  intro H enc w base spare held fuel cs x h
  obtain ⟨hl, n, hf⟩ := struct_fields Try.underlying24 h
  rw [show Try.prog.cellsOf 24 = 3 by kernel_rfl] at hl
  have hc : Try.prog.cellsOf 3 = 1 := by kernel_rfl
  obtain ⟨y0, h0⟩ := hf 0 _ rfl
  obtain ⟨y1, h1⟩ := hf 1 _ rfl
  obtain ⟨y2, h2⟩ := hf 2 _ rfl
  obtain ⟨n0, c0⟩ := piece_bool 0 Try.underlying4 (by kernel_rfl) h0
  obtain ⟨n1, _, c1⟩ := piece_int 1 Try.underlying3 hc h1
  obtain ⟨n2, _, c2⟩ := piece_int 2 Try.underlying3 hc h2
  have e : cs = [.bool n0, .int .i64 n1, .int .i64 n2] := by
    clear h0 h1 h2 hf h
    match cs, hl with
    | [u0, u1, u2], _ =>
      simp at c0 c1 c2
      rw [c0, c1, c2]
  exact ⟨⟨n0, n1, n2⟩, trivial, e⟩

namespace auditJobs
theorem own : ownKnob Try.prog.godebug = none := by kernel_rfl
theorem laidOut : laidOutB Try.prog = true := by kernel_rfl

set_option maxRecDepth 100000 in
theorem lifted (os : Os) (started : os.Started) (H : Type) (enc : TypeId × Value → H) :
    ReturnsInHanded {} Try.checked os 3 .any (Rows.auditJobsSpec.pre6 enc Try.prog Try.f3 Rows.auditJobsRow.domain false) (Rows.auditJobsSpec.post enc Try.prog Try.f3 false true false false) := by
  refine returnsInHanded_of_change (C := Try.checked) own started (by kernel_rfl) Try.func3
    (ChangeSpec.witness6 (enc := enc) (C := Try.checked) false ⟨#[], #[.slice none 0 0, .int .i64 0, .agg #[.bool false, .int .i64 0, .int .i64 0], .int .i64 0], []⟩ 8 (by kernel_rfl) (by kernel_rfl) (by kernel_rfl) (by kernel_rfl)) ?_
  intro W base args ds gs before hval0 hW hcnd _
  have hval : ∀ (j : Nat) t v, Try.f3.params[j]? = some t → args[j]? = some v → Value.okWide Try.prog W .any base t v := hval0
  have hW' := hW
  obtain ⟨p, q, hA0, hV, rfl, hfz, hnd⟩ := hW
  have hA : DataW.TrodAll enc Try.prog W 0 (fun _ => true) true Try.f3.params.toList args.toList ds p := hA0
  rw [Try.params3] at hA hval
  obtain ⟨v0, vs0, d0, ds0, p0, q0, hargs, rfl, rfl, h0, r0⟩ := trodAll_cons hA
  obtain ⟨v1, vs1, d1, ds1, p1, q1, rfl, rfl, rfl, h1, r1⟩ := trodAll_cons r0
  obtain ⟨v2, vs2, d2, ds2, p2, q2, rfl, rfl, rfl, h2, r2⟩ := trodAll_cons r1
  obtain ⟨v3, vs3, d3, ds3, p3, q3, rfl, rfl, rfl, h3, r3⟩ := trodAll_cons r2
  obtain ⟨rfl, rfl, rfl⟩ := trodAll_nil r3
  obtain rfl : args = #[v0, v1, v2, v3] := by cases args; simp_all
  obtain ⟨rfl, rfl⟩ := trodVars_none hV
  have k0 := h0
  have lt0 : ∀ x ∈ p0, x.block < W.heap.size := by obtain ⟨m, hm⟩ := k0; exact DataW.trod_lt m _ _ _ hm
  have k1 := h1
  have lt1 : ∀ x ∈ p1, x.block < W.heap.size := by obtain ⟨m, hm⟩ := k1; exact DataW.trod_lt m _ _ _ hm
  have k2 := h2
  have lt2 : ∀ x ∈ p2, x.block < W.heap.size := by obtain ⟨m, hm⟩ := k2; exact DataW.trod_lt m _ _ _ hm
  have k3 := h3
  have lt3 : ∀ x ∈ p3, x.block < W.heap.size := by obtain ⟨m, hm⟩ := k3; exact DataW.trod_lt m _ _ _ hm
  obtain ⟨a0, len0, cap0, rfl⟩ := okWide_slice Try.underlying22 (hval 0 22 v0 rfl rfl)
  obtain ⟨a1, rfl⟩ := okWide_int Try.underlying3 (hval 1 3 v1 rfl rfl)
  obtain ⟨a2, rfl, _⟩ := okWide_struct Try.underlying24 (hval 2 24 v2 rfl rfl)
  obtain ⟨a3, rfl⟩ := okWide_int Try.underlying3 (hval 3 3 v3 rfl rfl)
  obtain ⟨f0, hf0⟩ := h0
  obtain ⟨f2, hf2⟩ := h2
  obtain ⟨l, _, A, c, hcs, _, _, _, hl⟩ := (opensE.slice Try.underlying22 (by kernel_rfl) (by decide)) hf0
  obtain ⟨rfl, rfl, rfl⟩ := slice_cells hcs
  obtain ⟨s, _, hs⟩ := opensS hf2
  have hs' : a2.toList = [.bool s.refill, .int .i64 s.c, .int .i64 s.t] := hs
  obtain rfl : a2 = #[.bool s.refill, .int .i64 s.c, .int .i64 s.t] := by rw [← Array.toArray_toList (xs := a2), hs']
  clear hA0 hval0
  refine (auditJobs_any W.heap.size a0 cap0 l a1 s a3 W hl).mono fun e W' ⟨he, bel⟩ => ?_
  subst he
  exact ⟨_, rfl, _, _, _, [], _, [], hW', trodAll_mk1 (shut_bool Try.underlying4 _), (trodAll_cons_mk (Below.trod laidOut (by kernel_rfl) (of_decide_eq_true (by kernel_rfl)) k0 bel lt0) (trodAll_cons_mk (Below.trod laidOut (by kernel_rfl) (of_decide_eq_true (by kernel_rfl)) k1 bel lt1) (trodAll_cons_mk (Below.trod laidOut (by kernel_rfl) (of_decide_eq_true (by kernel_rfl)) k2 bel lt2) (trodAll_cons_mk (Below.trod laidOut (by kernel_rfl) (of_decide_eq_true (by kernel_rfl)) k3 bel lt3) trodAll_mk0)))), rfl, bel.frame _, fun h => by cases h⟩

theorem over : Rows.auditJobsRow.holds Try.pinned (OpenSpec.ofChange Rows.auditJobsSpec) :=
  OpenClaim.holds_of_wide 3 Try.f3 rfl rfl rfl rfl rfl rfl rfl ⟨rfl, rfl, rfl, rfl, rfl⟩ rfl rfl rfl rfl rfl (by kernel_rfl) Try.func3 (by kernel_rfl)
    (of_decide_eq_true (by kernel_rfl)) (by unfold Func.isWrapper; first | (rw [if_pos (by decide +kernel)]; kernel_rfl) | (rw [if_neg (by decide +kernel)]; exact ⟨rfl, rfl⟩))
    (fun os started H enc _ => lifted os started H enc)

/-- The statement. -/
theorem proved : Rows.AuditJobsSaid := over
#print axioms proved
end auditJobs
end Go.Proofs.Ytgljmflcbdhigaa
