/- Rows of tasks; what was in the audit's texts and is of use elsewhere. -/
import Derived.Test.YtgljmflcbdhigaaNum
import Derived.Test.YtgljmflcbdhigaaMap
import Derived.Deep.RegionLaw
import Derived.Deep.DeepCutAuto
import Derived.Deep.RegionHeld3
set_option linter.unusedVariables false
namespace Go.Proofs.Ytgljmflcbdhigaa
open Go.RowKit

theorem Own.low {α : Type} {d : Rep α} {e : TypeId} {B0 B B1 : Nat} {w : World} {v : Value} {xs : List α} (h : Own d e B0 B w v xs) (hB : B1 ≤ B) : Own d e B0 B1 w v xs := by
  obtain ⟨inner, ho, hx⟩ := h
  exact ⟨inner, ⟨ho.1, ho.2.imp id fun ⟨g, cap, cur, h1, h2, h3⟩ => ⟨g, cap, cur, h1, Nat.le_trans hB h2, h3⟩⟩, hx⟩
theorem info_I : (Try.prog.info? 3).map (fun i => (i.zero, i.size, i.bytes)) = some (some (.int .i64 0), 1, 8) := by kernel_rfl

structure TaskD where
  hi : Bool
  t : Int
  d : Int
  v : Int
  lo : Int
  top : Int
def TaskD.enc (x : TaskD) : List Value := [.bool x.hi, .int .i64 x.t, .int .i64 x.d, .int .i64 x.v, .int .i64 x.lo, .int .i64 x.top]
def repT : Rep TaskD := Rep.flat 6 TaskD.enc (fun _ => rfl) (fun x u hu => by simp [TaskD.enc] at hu; rcases hu with rfl | rfl | rfl | rfl | rfl | rfl <;> rfl)
theorem at_T {e B : Nat} {w : World} {A : Option Addr} {l : List TaskD} (h : Row repT e B w A l) {k : Nat} (hk : k < l.length) : ∃ ad x, A = some ad ∧ (ad.add (k * 6)).block < w.heap.size ∧ l[k]? = some x ∧ w.cell? (ad.add (k * 6)) = some (.bool x.hi) ∧
    w.cell? ⟨(ad.add (k * 6)).block, (ad.add (k * 6)).off + 1, none⟩ = some (.int .i64 x.t) ∧ w.cell? ⟨(ad.add (k * 6)).block, (ad.add (k * 6)).off + 2, none⟩ = some (.int .i64 x.d) ∧ w.cell? ⟨(ad.add (k * 6)).block, (ad.add (k * 6)).off + 3, none⟩ = some (.int .i64 x.v) ∧
    w.cell? ⟨(ad.add (k * 6)).block, (ad.add (k * 6)).off + 4, none⟩ = some (.int .i64 x.lo) ∧ w.cell? ⟨(ad.add (k * 6)).block, (ad.add (k * 6)).off + 5, none⟩ = some (.int .i64 x.top) := by
  obtain ⟨ad, cs, hA, hlt, _, hr, hc⟩ := h.at (List.getElem?_eq_getElem hk)
  have hr : cs = TaskD.enc _ := hr
  subst hr
  refine ⟨ad, _, hA, by rw [addr_add_block]; exact hlt, List.getElem?_eq_getElem hk, hc 0 _ rfl, ?_, ?_, ?_, ?_, ?_⟩ <;> rw [addr_field _ _ _ (by decide)]
  · exact hc 1 _ rfl
  · exact hc 2 _ rfl
  · exact hc 3 _ rfl
  · exact hc 4 _ rfl
  · exact hc 5 _ rfl

end Go.Proofs.Ytgljmflcbdhigaa
