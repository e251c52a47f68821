/- An element of a row of the call's own is written whole. -/
import Derived.Test.YtgljmflcbdhigaaCloneB
set_option linter.unusedVariables false
namespace Go.Proofs.Ytgljmflcbdhigaa
open Go.RowKit

def World.over (w : World) (g : Nat) : Nat → List Value → World
  | _, [] => w
  | p, u :: r => World.over (w.setCell ⟨g, p, none⟩ u) g (p + 1) r
def overC (cur : Array Value) : Nat → List Value → Array Value
  | _, [] => cur
  | p, u :: r => overC (cur.setIfInBounds p u) (p + 1) r

theorem over_other (g : Nat) : ∀ (cs : List Value) (p : Nat) (w : World) (k : Nat), k ≠ g → (World.over w g p cs).heap[k]? = w.heap[k]?
  | [], p, w, k, h => rfl
  | u :: r, p, w, k, h => by
    show (World.over (w.setCell ⟨g, p, none⟩ u) g (p + 1) r).heap[k]? = _
    rw [over_other g r (p + 1) _ k h]
    exact Below.heap_setCell _ _ _ _ h
theorem over_below {B : Nat} (g : Nat) (hg : B ≤ g) : ∀ (cs : List Value) (p : Nat) (w0 w : World), Below B w0 w → Below B w0 (World.over w g p cs)
  | [], p, w0, w, h => h
  | u :: r, p, w0, w, h => over_below g hg r (p + 1) w0 _ (h.setCell (p := ⟨g, p, none⟩) hg u)
theorem over_at (g : Nat) (t : TypeId) : ∀ (cs : List Value) (p : Nat) (w : World) (cur : Array Value), w.heap[g]? = some (.cells cur t (0, 0)) → (World.over w g p cs).heap[g]? = some (.cells (overC cur p cs) t (0, 0))
  | [], p, w, cur, h => h
  | u :: r, p, w, cur, h => over_at g t r (p + 1) _ _ (by simp [World.setCell, Array.getElem?_modify, h])
theorem overC_size : ∀ (cs : List Value) (p : Nat) (cur : Array Value), (overC cur p cs).size = cur.size
  | [], p, cur => rfl
  | u :: r, p, cur => by
    show (overC (cur.setIfInBounds p u) (p + 1) r).size = _
    rw [overC_size r, Array.size_setIfInBounds]
theorem overC_get : ∀ (cs : List Value) (p : Nat) (cur : Array Value) (j : Nat), p + cs.length ≤ cur.size → (overC cur p cs)[j]? = if p ≤ j ∧ j < p + cs.length then cs[j - p]? else cur[j]?
  | [], p, cur, j, _ => by simp [overC]; omega
  | u :: r, p, cur, j, h => by
    show (overC (cur.setIfInBounds p u) (p + 1) r)[j]? = _
    rw [List.length_cons] at h ⊢
    rw [overC_get r (p + 1) _ j (by rw [Array.size_setIfInBounds]; omega)]
    by_cases h1 : p + 1 ≤ j ∧ j < p + 1 + r.length
    · rw [if_pos h1, if_pos ⟨by omega, by omega⟩, show j - p = (j - (p + 1)) + 1 by omega, List.getElem?_cons_succ]
    · rw [if_neg h1, Array.getElem?_setIfInBounds]
      by_cases h2 : p = j
      · subst h2
        rw [if_pos rfl, if_pos (by omega), if_pos ⟨by omega, by omega⟩]
        simp
      · rw [if_neg h2, if_neg (by omega)]

theorem Own.over {α : Type} {d : Rep α} {e : TypeId} {B : Nat} {w : World} {g n cap : Nat} {xs : List α} (h : Own d e 0 B w (.slice (some ⟨g, 0, none⟩) n cap) xs) (i : Nat) (hi : i < xs.length) (y : α) (cs : List Value) (hy : d.R 0 w y cs) (he : e ∉ d.E) :
    Own d e 0 B (World.over w g (i * d.sz) cs) (.slice (some ⟨g, 0, none⟩) n cap) (xs.set i y) := by
  have hkeep : ∀ {x : α} {c : List Value}, d.R 0 w x c → d.R 0 (World.over w g (i * d.sz) cs) x c := fun hx => d.keep (fun k _ h2 => over_other g cs _ w k (fun e' => by
    rcases h2 with h2 | ⟨c, t, ht, h5⟩
    · omega
    · obtain ⟨_, _, cells, hh⟩ := h.block g rfl
      rw [e', hh] at h5
      injection h5 with h5
      injection h5 with _ h6
      exact he (h6 ▸ ht))) hx
  obtain ⟨inner, ⟨hin, hr⟩, hx⟩ := h
  rcases hr with ⟨h0, _⟩ | ⟨g', cap', cur, hv, hB, hh, hn, hc, hs, htk⟩
  · cases h0
  simp only [Value.slice.injEq, Option.some.injEq, Addr.mk.injEq, and_true] at hv
  obtain ⟨rfl, rfl, rfl⟩ := hv
  have hcl := d.len hy
  have hpos : i * d.sz + d.sz ≤ xs.length * d.sz := by
    have : (i + 1) * d.sz ≤ xs.length * d.sz := Nat.mul_le_mul_right _ hi
    rwa [Nat.succ_mul] at this
  have hcur : xs.length * d.sz ≤ cur.size := by rw [hs]; exact Nat.mul_le_mul_right _ hn
  have hget : ∀ j, j < xs.length * d.sz → ((overC cur (i * d.sz) cs).toList.take (xs.length * d.sz))[j]? = if i * d.sz ≤ j ∧ j < i * d.sz + cs.length then cs[j - i * d.sz]? else inner[j]? := fun j hj => by
    rw [List.getElem?_take_of_lt hj, Array.getElem?_toList, overC_get cs _ cur j (by omega), ← htk, List.getElem?_take_of_lt hj]
    simp only [Array.getElem?_toList]
  refine ⟨(overC cur (i * d.sz) cs).toList.take (xs.length * d.sz), ⟨?_, .inr ⟨g, cap, overC cur (i * d.sz) cs, by rw [List.length_set], hB, over_at g e cs _ w cur hh, by rw [List.length_set]; exact hn, hc, ?_, ?_⟩⟩, fun k z hk => ?_⟩
  · have hz := overC_size cs (i * d.sz) cur
    simp only [List.length_take, Array.length_toList, hz, List.length_set]
    omega
  · rw [overC_size, hs]
  · rw [List.length_set]
  · have hkl : k < xs.length := by have := (List.getElem?_eq_some_iff.1 hk).1; rwa [List.length_set] at this
    have hkd : ∀ j, j < d.sz → k * d.sz + j < xs.length * d.sz := fun j hj => by
      have : (k + 1) * d.sz ≤ xs.length * d.sz := Nat.mul_le_mul_right _ hkl
      rw [Nat.succ_mul] at this
      omega
    by_cases hki : k = i
    · subst hki
      rw [List.getElem?_set_self hi] at hk
      cases hk
      refine ⟨cs, hkeep hy, fun j u hj => ?_⟩
      have hjl := (List.getElem?_eq_some_iff.1 hj).1
      rw [hget _ (hkd j (by omega)), if_pos ⟨by omega, by omega⟩, show k * d.sz + j - k * d.sz = j by omega]
      exact hj
    · rw [List.getElem?_set_ne (fun e => hki e.symm)] at hk
      obtain ⟨c, hc1, hc2⟩ := hx k z hk
      refine ⟨c, hkeep hc1, fun j u hj => ?_⟩
      have hjl : j < d.sz := by rw [← d.len hc1]; exact (List.getElem?_eq_some_iff.1 hj).1
      rw [hget _ (hkd j hjl), if_neg, hc2 j u hj]
      intro h2
      rcases Nat.lt_or_gt_of_ne hki with hlt | hgt
      · have : (k + 1) * d.sz ≤ i * d.sz := Nat.mul_le_mul_right _ hlt
        rw [Nat.succ_mul] at this
        omega
      · have : (i + 1) * d.sz ≤ k * d.sz := Nat.mul_le_mul_right _ hgt
        rw [Nat.succ_mul] at this
        omega
theorem Own.cellAt {α : Type} {d : Rep α} {e : TypeId} {B0 B : Nat} {w : World} {g n cap : Nat} {xs : List α} (h : Own d e B0 B w (.slice (some ⟨g, 0, none⟩) n cap) xs) {i : Nat} {x : α} (hi : xs[i]? = some x) : ∃ cs, d.R B0 w x cs ∧ ∀ j u, cs[j]? = some u → w.cell? ⟨g, i * d.sz + j, none⟩ = some u := by
  obtain ⟨inner, ho, hx⟩ := h
  obtain ⟨cs, hcs, hc⟩ := hx i x hi
  refine ⟨cs, hcs, fun j u hj => ?_⟩
  have := ho.cells (g := g) (by simp [Value.ownBlock]) _ u (hc j u hj)
  have hadd : (⟨g, 0, none⟩ : Addr).add (i * d.sz + j) = ⟨g, i * d.sz + j, none⟩ := by
    unfold Addr.add
    split <;> simp_all
  rwa [hadd] at this
end Go.Proofs.Ytgljmflcbdhigaa
