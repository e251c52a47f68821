/- What a check comes to, in plain words: a system may be just if each part of it may. -/
import Derived.Test.YtgljmflcbdhigaaValC
set_option linter.unusedVariables false
namespace Go.Proofs.Ytgljmflcbdhigaa

theorem partsFrom_ok (n : Nat) : ∀ (l : List PartD) (k : Nat), (partsFrom n k l).1 = 0 ↔ ∀ i p, l[i]? = some p → p.rights = 0 ∧ namesD n ((k + i : Nat) : Int) p.ds = true
  | [], k => by simp [partsFrom]
  | p :: r, k => by
    unfold partsFrom
    by_cases h1 : p.rights = 0
    · rw [if_neg (by simpa using h1)]
      by_cases h2 : namesD n k p.ds = false
      · rw [if_pos h2]
        constructor
        · intro h; simp at h
        · intro h
          have := (h 0 p rfl).2
          rw [Nat.add_zero] at this
          rw [this] at h2
          cases h2
      · rw [if_neg h2, partsFrom_ok n r (k + 1)]
        constructor
        · intro h i q hq
          cases i with
          | zero => cases hq; exact ⟨h1, by rw [Nat.add_zero]; simpa using h2⟩
          | succ i =>
            have := h i q (by simpa using hq)
            rw [show k + (i + 1) = k + 1 + i by omega]
            exact this
        · intro h i q hq
          have := h (i + 1) q (by simpa using hq)
          rw [show k + 1 + i = k + (i + 1) by omega]
          exact this
    · rw [if_pos h1]
      constructor
      · intro h; exact absurd h h1
      · intro h; exact absurd (h 0 p rfl).1 h1

theorem check_ok (c : CfgD) : c.check.1 = 0 ↔ sizeE c.frame c.margin c.ps.length = 0 ∧ (winE c.frame c.ps.length c.ws).1 = 0 ∧ (∀ (i : Nat) (p : PartD), c.ps[i]? = some p → p.rights = 0 ∧ namesD c.ps.length (i : Int) p.ds = true) ∧ (chanE c.ps.length c.cs).1 = 0 := by
  have hp := partsFrom_ok c.ps.length c.ps 0
  simp only [Nat.zero_add] at hp
  rw [← hp]
  unfold CfgD.check
  by_cases h1 : sizeE c.frame c.margin c.ps.length = 0
  · rw [if_neg (by simpa using h1)]
    by_cases h2 : (winE c.frame c.ps.length c.ws).1 = 0
    · rw [if_neg (by simpa using h2)]
      by_cases h3 : (partsFrom c.ps.length 0 c.ps).1 = 0
      · rw [if_neg (by simpa using h3)]
        by_cases h4 : (chanE c.ps.length c.cs).1 = 0
        · rw [if_neg (by simpa using h4)]; simp [h1, h2, h3, h4]
        · rw [if_pos h4]; simp [h1, h2, h3, h4]
      · rw [if_pos h3]; simp [h1, h2, h3]
    · rw [if_pos h2]; simp [h1, h2]
  · rw [if_pos h1]; simp [h1]

/-- A partition of nothing. -/
def PartD.zero : PartD := ⟨[], [], [], 0, 0, 0⟩
theorem zero_rights : PartD.zero.rights = 0 := by decide
theorem zero_names (n i : Nat) (h : i < n) : namesD n (i : Int) PartD.zero.ds = true := by
  simp [namesD, hasD, PartD.zero, namesFrom, h]

/-- All partitions but one, up to one, are of nothing. -/
def zeroTo (i k : Nat) (l : List PartD) : List PartD := l.mapIdx fun j p => if j < k ∧ j ≠ i then PartD.zero else p
theorem zeroTo_len (i k : Nat) (l : List PartD) : (zeroTo i k l).length = l.length := by simp [zeroTo]
theorem zeroTo_zero (i : Nat) (l : List PartD) : zeroTo i 0 l = l := by
  apply List.ext_getElem?
  intro j
  simp [zeroTo, List.getElem?_mapIdx]
theorem zeroTo_same (i : Nat) (l : List PartD) : zeroTo i (i + 1) l = zeroTo i i l := by
  apply List.ext_getElem?
  intro j
  simp only [zeroTo, List.getElem?_mapIdx]
  congr 1
  funext p
  by_cases h : j < i
  · rw [if_pos ⟨by omega, by omega⟩, if_pos ⟨h, by omega⟩]
  · by_cases h2 : j = i
    · rw [if_neg (by omega), if_neg (by omega)]
    · rw [if_neg (by omega), if_neg (by omega)]
theorem zeroTo_set (i k : Nat) (l : List PartD) (h : k ≠ i) (hk : k < l.length) : zeroTo i (k + 1) l = (zeroTo i k l).set k PartD.zero := by
  apply List.ext_getElem?
  intro j
  by_cases hj : j = k
  · subst hj
    rw [List.getElem?_set_self (by rw [zeroTo_len]; exact hk)]
    simp only [zeroTo, List.getElem?_mapIdx, List.getElem?_eq_getElem hk, Option.map_some]
    rw [if_pos ⟨by omega, h⟩]
  · rw [List.getElem?_set_ne (fun e => hj e.symm)]
    simp only [zeroTo, List.getElem?_mapIdx]
    congr 1
    funext p
    by_cases h1 : j < k ∧ j ≠ i
    · rw [if_pos ⟨by omega, h1.2⟩, if_pos h1]
    · rw [if_neg (by omega), if_neg h1]
theorem zeroTo_few (i k : Nat) (l : List PartD) (h : ∀ p ∈ l, p.few = true) : ∀ p ∈ zeroTo i k l, p.few = true := by
  intro p hp
  obtain ⟨j, hj⟩ := List.getElem?_of_mem hp
  simp only [zeroTo, List.getElem?_mapIdx, Option.map_eq_some_iff] at hj
  obtain ⟨q, hq, rfl⟩ := hj
  split
  · rfl
  · exact h q (List.mem_of_getElem? hq)

/-- One of the systems into which the law parts a system. -/
def CfgD.only (c : CfgD) (i : Nat) : CfgD :=
  if i < c.ps.length then { c with ws := [], ps := zeroTo i c.ps.length c.ps, cs := [] } else { c with ps := zeroTo i c.ps.length c.ps }
def CfgD.allTo (c : CfgD) : Nat → Bool
  | 0 => true
  | i + 1 => CfgD.allTo c i && decide ((c.only i).check.1 = 0)

theorem allTo_iff (c : CfgD) : ∀ i, c.allTo i = true ↔ ∀ j, j < i → (c.only j).check.1 = 0
  | 0 => by simp [CfgD.allTo]
  | i + 1 => by
    simp only [CfgD.allTo, Bool.and_eq_true, decide_eq_true_eq, allTo_iff c i]
    constructor
    · rintro ⟨h1, h2⟩ j hj
      by_cases e : j = i
      · rw [e]; exact h2
      · exact h1 j (by omega)
    · exact fun h => ⟨fun j hj => h j (by omega), h i (by omega)⟩

theorem only_check (c : CfgD) (i : Nat) (hi : i < c.ps.length) : (c.only i).check.1 = 0 ↔ sizeE c.frame c.margin c.ps.length = 0 ∧ ∀ p, c.ps[i]? = some p → p.rights = 0 ∧ namesD c.ps.length (i : Int) p.ds = true := by
  unfold CfgD.only
  rw [if_pos hi, check_ok]
  simp only [zeroTo_len]
  constructor
  · rintro ⟨h1, _, h2, _⟩
    refine ⟨h1, fun p hp => h2 i p ?_⟩
    simp only [zeroTo, List.getElem?_mapIdx, hp, Option.map_some]
    rw [if_neg (by omega)]
  · rintro ⟨h1, h2⟩
    refine ⟨h1, by simp [winE, winFrom], fun j p hp => ?_, by simp [chanE, indexD]⟩
    simp only [zeroTo, List.getElem?_mapIdx, Option.map_eq_some_iff] at hp
    obtain ⟨q, hq, rfl⟩ := hp
    have hj := (List.getElem?_eq_some_iff.1 hq).1
    by_cases e : j = i
    · subst e
      rw [if_neg (by omega)]
      exact h2 q hq
    · rw [if_pos ⟨hj, e⟩]
      exact ⟨zero_rights, zero_names _ _ hj⟩
theorem last_check (c : CfgD) : (c.only c.ps.length).check.1 = 0 ↔ sizeE c.frame c.margin c.ps.length = 0 ∧ (winE c.frame c.ps.length c.ws).1 = 0 ∧ (chanE c.ps.length c.cs).1 = 0 := by
  unfold CfgD.only
  rw [if_neg (by omega), check_ok]
  simp only [zeroTo_len]
  constructor
  · rintro ⟨h1, h2, _, h3⟩
    exact ⟨h1, h2, h3⟩
  · rintro ⟨h1, h2, h3⟩
    refine ⟨h1, h2, fun j p hp => ?_, h3⟩
    simp only [zeroTo, List.getElem?_mapIdx, Option.map_eq_some_iff] at hp
    obtain ⟨q, hq, rfl⟩ := hp
    have hj := (List.getElem?_eq_some_iff.1 hq).1
    rw [if_pos ⟨hj, by omega⟩]
    exact ⟨zero_rights, zero_names _ _ hj⟩

/-- The law on partitions, without Go. -/
theorem parts_law (c : CfgD) : decide (c.check.1 = 0) = c.allTo (c.ps.length + 1) := by
  rw [Bool.eq_iff_iff, decide_eq_true_eq, allTo_iff, check_ok]
  constructor
  · rintro ⟨h1, h2, h3, h4⟩ j hj
    by_cases hl : j < c.ps.length
    · rw [only_check c j hl]; exact ⟨h1, fun p hp => h3 j p hp⟩
    · have e : j = c.ps.length := by omega
      rw [e, last_check]; exact ⟨h1, h2, h4⟩
  · intro h
    obtain ⟨h1, h2, h4⟩ := (last_check c).1 (h _ (by omega))
    exact ⟨h1, h2, fun i p hp => ((only_check c i (List.getElem?_eq_some_iff.1 hp).1).1 (h i (by have := (List.getElem?_eq_some_iff.1 hp).1; omega))).2 p hp, h4⟩
end Go.Proofs.Ytgljmflcbdhigaa
