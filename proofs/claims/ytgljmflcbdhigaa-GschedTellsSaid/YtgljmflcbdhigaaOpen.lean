/- Arguments as they are read, turned into rows of my kinds. No program is named here. -/
import Derived.Test.YtgljmflcbdhigaaNum
import Derived.Deep.Slices
import Derived.OpenShut
set_option linter.unusedVariables false
namespace Go.Proofs.Ytgljmflcbdhigaa
open Go.RowKit Go.ChangeShapes Go.WideShapes

/-- What is read as type t is data of kind d, with property Q. -/
def Opens {α : Type} (P : Program) (t : TypeId) (d : Rep α) (Q : α → Prop) : Prop :=
  ∀ {H : Type} {enc : TypeId × Value → H} {w : World} {base : Nat} {spare : Nat → Bool} {held : Bool} {fuel : Nat} {cs : List Value} {x : DataW H × List MemPlace},
    DataW.trod enc P w base spare held fuel t cs = some x → ∃ y, Q y ∧ d.R w.heap.size w y cs

def Big (n : Int) : Prop := -9223372036854775808 ≤ n ∧ n ≤ 9223372036854775807
theorem Opens.int {P : Program} {t : TypeId} (ht : P.underlying t = some (.int .i64)) : Opens P t repI Big := by
  intro H enc w base spare held fuel cs x h
  obtain ⟨n, rfl, _, hw⟩ := DataW.trod_int ht h
  exact ⟨n, bounds_i64 hw, rfl⟩
def repB : Rep Bool := Rep.flat 1 (fun b => [.bool b]) (fun _ => rfl) (fun x u hu => by rw [List.mem_singleton.1 hu]; rfl)
theorem Opens.bool {P : Program} {t : TypeId} (ht : P.underlying t = some .bool) : Opens P t repB (fun _ => True) := by
  intro H enc w base spare held fuel cs x h
  obtain ⟨b, rfl, _⟩ := DataW.trod_bool ht h
  exact ⟨b, trivial, rfl⟩

theorem cells?_get {w : World} {base n : Nat} {a : Addr} {cs : List Value} (h : w.cells? base a n = some cs) : cs.length = n ∧ ∀ j u, cs[j]? = some u → w.cell? (a.add j) = some u := by
  unfold World.cells? at h
  split at h
  · have hl := mapM_some_length h
    rw [List.length_range] at hl
    refine ⟨hl, fun j u hj => ?_⟩
    have hj' := (List.getElem?_eq_some_iff.1 hj).1
    have := mapM_some_get h j j (by rw [List.getElem?_range (by omega)])
    rw [hj] at this
    exact this
  · cases h
theorem list_of {α : Type} {p : Nat → α → Prop} : ∀ n : Nat, (∀ i, i < n → ∃ x, p i x) → ∃ xs : List α, xs.length = n ∧ ∀ i x, xs[i]? = some x → p i x
  | 0, _ => ⟨[], rfl, fun i x h => by simp at h⟩
  | n + 1, h => by
    obtain ⟨xs, hl, hx⟩ := list_of n (fun i hi => h i (by omega))
    obtain ⟨y, hy⟩ := h n (by omega)
    refine ⟨xs ++ [y], by simp [hl], fun i x hi => ?_⟩
    by_cases hin : i < n
    · rw [List.getElem?_append_left (by omega)] at hi
      exact hx i x hi
    · have hlt := (List.getElem?_eq_some_iff.1 hi).1
      rw [List.length_append, List.length_singleton] at hlt
      have e : i = n := by omega
      subst e
      rw [List.getElem?_append_right (by omega), show i - xs.length = 0 by omega] at hi
      cases hi
      exact hy

/-- A slice. -/
theorem Opens.slice {α : Type} {P : Program} {t e : TypeId} {d : Rep α} {Q : α → Prop} (ht : P.underlying t = some (.slice e)) (hc : P.cellsOf e = d.sz) (hp : 0 < d.sz) (ho : Opens P e d Q) : Opens P t (Rep.slc e d) (fun xs => ∀ x ∈ xs, Q x) := by
  intro H enc w base spare held fuel cs x h
  rcases Go.Deep.open_slice ht h with ⟨rfl, _⟩ | ⟨a, len, cap, m, n, D, Pl, rfl, hb, hl, hm, hmm, rfl, hx⟩
  · exact ⟨[], by simp, none, 0, rfl, Nat.le_refl _, Nat.zero_le _, fun _ => rfl, Row.nil⟩
  have hle : len ≤ m := by rw [hmm]; split <;> omega
  have hex : ∀ i, i < len → ∃ y : α, Q y ∧ ∃ cs', d.R w.heap.size w y cs' ∧ ∀ j u, cs'[j]? = some u → w.cell? (a.add (i * d.sz + j)) = some u := fun i hi => by
    obtain ⟨cs', h1, h2⟩ := hx i (by omega)
    obtain ⟨y, h3, h4⟩ := ho h2
    refine ⟨y, h3, cs', h4, fun j u hj => ?_⟩
    have := (cells?_get h1).2 j u hj
    rwa [hc, addr_add_add] at this
  obtain ⟨xs, hxl, hxs⟩ := list_of len hex
  refine ⟨xs, fun y hy => ?_, some a, cap, by rw [hxl], by rw [hxl]; exact hl, hm, fun h => (by cases h), fun hne => ?_⟩
  · obtain ⟨i, hi⟩ := List.getElem?_of_mem hy
    exact (hxs i y hi).1
  · have hlt : a.block < w.heap.size := by
      cases hxe : xs with
      | nil => exact absurd hxe hne
      | cons y r =>
        obtain ⟨_, cs', hr, hcs⟩ := hxs 0 y (by rw [hxe]; rfl)
        have hcl := d.len hr
        obtain ⟨u, hu⟩ : ∃ u, cs'[0]? = some u := ⟨cs'[0]'(by omega), List.getElem?_eq_getElem (by omega)⟩
        have := World.block_lt_of_cell? w _ (hcs 0 u hu)
        rwa [addr_add_block] at this
    exact ⟨a, rfl, hlt, .inl hlt, fun i y hi => (hxs i y hi).2⟩

/-- What is read of a struct, field by field. -/
theorem struct_fields {H : Type} {enc : TypeId × Value → H} {P : Program} {w : World} {base : Nat} {spare : Nat → Bool} {held : Bool} {fuel : Nat} {cs : List Value} {x : DataW H × List MemPlace} {t : TypeId} {fs : Array Field}
    (ht : P.underlying t = some (.struct fs)) (h : DataW.trod enc P w base spare held fuel t cs = some x) :
    cs.length = P.cellsOf t ∧ ∃ n, ∀ (i : Nat) (f : Field), fs[i]? = some f → ∃ y, DataW.trod enc P w base spare held n f.type ((cs.drop f.offset).take (P.cellsOf f.type)) = some y := by
  obtain ⟨xs, n, _, _, hl, hxl, hf⟩ := DataW.trod_struct ht h
  refine ⟨hl, n, fun i f hi => ?_⟩
  have hlt := (Array.getElem?_eq_some_iff.1 hi).1
  rw [hf i f hi]
  exact ⟨_, List.getElem?_eq_getElem (by omega)⟩
/-- The value of an argument. -/
theorem slice_cells {A : Option Addr} {n c : Nat} {a : Option Addr} {len cap : Nat} (h : (Value.slice a len cap).cells.toList = [.slice A n c]) : a = A ∧ len = n ∧ cap = c := by
  simp [Value.cells] at h
  exact h
end Go.Proofs.Ytgljmflcbdhigaa
