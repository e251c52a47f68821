/- A library of this seat's own: how Go data of the laws read in memory as Lean values; what a call has made; append onto a row of the call's own. No program is named here. -/
import Derived.WalkKit
import Derived.WalkLawsBesides
import Derived.Lib.Hide
import Derived.Maps.AppendAt
import Derived.Deep.Slices
import Derived.Deep.Draws
import Derived.OpenShut
import Derived.BigQuiet
import Derived.Deep.QuietTactic
import Derived.Deep.RegionHeld3
import Derived.Deep.LoopGhost
set_option linter.unusedVariables false
namespace Go.Proofs.Ytgljmflcbdhigaa
open Go.RowKit

/-! ### 1. How data read -/
/-- Blocks that a reading passes through are below B, or typed by one of E. -/
structure Rep (α : Type) where
  sz : Nat
  E : List TypeId
  R : Nat → World → α → List Value → Prop
  len : ∀ {B : Nat} {w : World} {x : α} {cs : List Value}, R B w x cs → cs.length = sz
  one : ∀ {B : Nat} {w : World} {x : α} {cs : List Value}, R B w x cs → ∀ u ∈ cs, u.oneCell' = true
  keep : ∀ {B : Nat} {w w' : World} {x : α} {cs : List Value}, (∀ k, k < w.heap.size → (k < B ∨ ∃ cells t, t ∈ E ∧ w.heap[k]? = some (.cells cells t (0, 0))) → w'.heap[k]? = w.heap[k]?) → R B w x cs → R B w' x cs
  up : ∀ {B B' : Nat} {w : World} {x : α} {cs : List Value}, B ≤ B' → R B w x cs → R B' w x cs

theorem addr_add_add (a : Addr) (i j : Nat) : (a.add i).add j = a.add (i + j) := Go.Deep.add_add a i j
theorem addr_add_block (a : Addr) (n : Nat) : (a.add n).block = a.block := by unfold Addr.add; split <;> rfl
theorem addr_field (a : Addr) (i j : Nat) (hj : j ≠ 0) : (⟨(a.add i).block, (a.add i).off + j, none⟩ : Addr) = a.add (i + j) := by
  rw [← addr_add_add]
  generalize a.add i = b
  simp [Addr.add, hj]

/-- A row of elements of type e. -/
def Row {α : Type} (d : Rep α) (e : TypeId) (B : Nat) (w : World) (A : Option Addr) (xs : List α) : Prop :=
  xs ≠ [] → ∃ ad, A = some ad ∧ ad.block < w.heap.size ∧ (ad.block < B ∨ ∃ cells, w.heap[ad.block]? = some (.cells cells e (0, 0))) ∧
    ∀ i x, xs[i]? = some x → ∃ cs, d.R B w x cs ∧ ∀ j u, cs[j]? = some u → w.cell? (ad.add (i * d.sz + j)) = some u

section
variable {α : Type} {d : Rep α} {e : TypeId} {B B' : Nat} {w w' : World} {A : Option Addr} {xs : List α}
theorem Row.keep (hk : ∀ k, k < w.heap.size → (k < B ∨ ∃ cells t, t ∈ e :: d.E ∧ w.heap[k]? = some (.cells cells t (0, 0))) → w'.heap[k]? = w.heap[k]?) (h : Row d e B w A xs) : Row d e B w' A xs := by
  intro hne
  obtain ⟨ad, rfl, hlt, hb, hx⟩ := h hne
  have hbk : w'.heap[ad.block]? = w.heap[ad.block]? := hk _ hlt (by
    rcases hb with hb | ⟨cells, hb⟩
    · exact .inl hb
    · exact .inr ⟨cells, e, List.mem_cons_self, hb⟩)
  have hlt' : ad.block < w'.heap.size := by
    rw [Array.getElem?_eq_getElem hlt] at hbk
    exact (Array.getElem?_eq_some_iff.1 hbk).1
  refine ⟨ad, rfl, hlt', by rw [hbk]; exact hb, fun i x hi => ?_⟩
  obtain ⟨cs, hr, hc⟩ := hx i x hi
  refine ⟨cs, d.keep (fun k hk1 hk2 => hk k hk1 (hk2.imp id fun ⟨c, t, ht, hh⟩ => ⟨c, t, List.mem_cons_of_mem _ ht, hh⟩)) hr, fun j u hj => ?_⟩
  rw [World.cell?_of_block (w := w) (by rw [addr_add_block]; exact hbk)]
  exact hc j u hj
theorem Row.up (hB : B ≤ B') (h : Row d e B w A xs) : Row d e B' w A xs := by
  intro hne
  obtain ⟨ad, rfl, hlt, hb, hx⟩ := h hne
  exact ⟨ad, rfl, hlt, hb.imp (fun h => Nat.lt_of_lt_of_le h hB) id, fun i x hi => (hx i x hi).imp fun cs ⟨h1, h2⟩ => ⟨d.up hB h1, h2⟩⟩
theorem Row.nil : Row d e B w A [] := fun h => absurd rfl h
/-- An element by its index. -/
theorem Row.at (h : Row d e B w A xs) {i : Nat} {x : α} (hi : xs[i]? = some x) : ∃ ad cs, A = some ad ∧ ad.block < w.heap.size ∧ (ad.block < B ∨ ∃ cells, w.heap[ad.block]? = some (.cells cells e (0, 0))) ∧ d.R B w x cs ∧ ∀ j u, cs[j]? = some u → w.cell? (ad.add (i * d.sz + j)) = some u := by
  obtain ⟨ad, hA, hlt, hb, hx⟩ := h (by rintro rfl; simp at hi)
  obtain ⟨cs, hr, hc⟩ := hx i x hi
  exact ⟨ad, cs, hA, hlt, hb, hr, hc⟩
end

/-! #### kinds -/
/-- Data without memory behind. -/
def Rep.flat {α : Type} (n : Nat) (enc : α → List Value) (hl : ∀ x, (enc x).length = n) (h1 : ∀ x, ∀ u ∈ enc x, u.oneCell' = true) : Rep α where
  sz := n
  E := []
  R := fun _ _ x cs => cs = enc x
  len := fun h => by rw [h]; exact hl _
  one := fun h => by rw [h]; exact h1 _
  keep := fun _ h => h
  up := fun _ h => h

/-- A slice. -/
def Rep.slc {α : Type} (e : TypeId) (d : Rep α) : Rep (List α) where
  sz := 1
  E := e :: d.E
  R := fun B w xs cs => ∃ A c, cs = [.slice A xs.length c] ∧ xs.length ≤ c ∧ c ≤ maxLen ∧ (A = none → c = 0) ∧ Row d e B w A xs
  len := by rintro B w x cs ⟨A, c, rfl, _⟩; rfl
  one := by rintro B w x cs ⟨A, c, rfl, _⟩ u hu; rw [List.mem_singleton.1 hu]; rfl
  keep := by rintro B w w' x cs hk ⟨A, c, h1, h2, h3, h4, h5⟩; exact ⟨A, c, h1, h2, h3, h4, h5.keep hk⟩
  up := by rintro B B' w x cs hB ⟨A, c, h1, h2, h3, h4, h5⟩; exact ⟨A, c, h1, h2, h3, h4, h5.up hB⟩

/-- Two in line. -/
def Rep.pair {α β : Type} (a : Rep α) (b : Rep β) : Rep (α × β) where
  sz := a.sz + b.sz
  E := a.E ++ b.E
  R := fun B w x cs => ∃ c0 c1, cs = c0 ++ c1 ∧ a.R B w x.1 c0 ∧ b.R B w x.2 c1
  len := by rintro B w x cs ⟨c0, c1, rfl, h0, h1⟩; rw [List.length_append, a.len h0, b.len h1]
  one := by
    rintro B w x cs ⟨c0, c1, rfl, h0, h1⟩ u hu
    rcases List.mem_append.1 hu with hu | hu
    · exact a.one h0 u hu
    · exact b.one h1 u hu
  keep := by
    rintro B w w' x cs hk ⟨c0, c1, rfl, h0, h1⟩
    exact ⟨c0, c1, rfl, a.keep (fun k h1 h2 => hk k h1 (h2.imp id fun ⟨c, t, ht, hh⟩ => ⟨c, t, List.mem_append_left _ ht, hh⟩)) h0, b.keep (fun k h1 h2 => hk k h1 (h2.imp id fun ⟨c, t, ht, hh⟩ => ⟨c, t, List.mem_append_right _ ht, hh⟩)) h1⟩
  up := by rintro B B' w x cs hB ⟨c0, c1, rfl, h0, h1⟩; exact ⟨c0, c1, rfl, a.up hB h0, b.up hB h1⟩

/-- A Lean structure by its fields. -/
def Rep.iso {α β : Type} (d : Rep α) (f : β → α) : Rep β where
  sz := d.sz
  E := d.E
  R := fun B w x cs => d.R B w (f x) cs
  len := d.len
  one := d.one
  keep := d.keep
  up := d.up

section
variable {α : Type} {d : Rep α} {B B' : Nat} {w w' : World} {x : α} {cs : List Value}
/-- Behind a call that leaves all old memory as it was. -/
theorem Rep.below {D : Nat} (h : d.R B w x cs) (hb : Below D w w') (hD : w.heap.size ≤ D) : d.R B w' x cs := d.keep (fun k hk _ => hb.block k (Nat.lt_of_lt_of_le hk hD)) h
/-- Behind the writing of one row, whose type is another one. -/
theorem Rep.grown {row : Option Nat} {e : TypeId} (h : d.R B w x cs) (hg : w.grownBy w' row) (hr : ∀ g, row = some g → B ≤ g ∧ ∃ cells, w.heap[g]? = some (.cells cells e (0, 0))) (he : e ∉ d.E) : d.R B w' x cs :=
  d.keep (fun k hk h2 => hg.block k hk (fun ek => by
    obtain ⟨h3, cells, h4⟩ := hr k ek.symm
    rcases h2 with h2 | ⟨c, t, ht, h5⟩
    · omega
    · rw [h4] at h5
      injection h5 with h5
      injection h5 with _ h6
      exact he (h6 ▸ ht))) h
end

/-! ### 2. A row of the call's own -/
def Own {α : Type} (d : Rep α) (e : TypeId) (B0 B : Nat) (w : World) (v : Value) (xs : List α) : Prop :=
  ∃ inner, w.ownsRow B e d.sz v xs.length inner ∧ ∀ i x, xs[i]? = some x → ∃ cs, d.R B0 w x cs ∧ ∀ j u, cs[j]? = some u → inner[i * d.sz + j]? = some u

section
variable {α : Type} {d : Rep α} {e : TypeId} {B0 B : Nat} {w w' : World} {v : Value} {xs : List α}
theorem Own.nil : Own d e B0 B w (.slice none 0 0) [] := ⟨[], World.ownsRow_nil _ _ _ _, fun i x h => by simp at h⟩
theorem Own.block (h : Own d e B0 B w v xs) (g : Nat) (hg : v.ownBlock = some g) : B ≤ g ∧ g < w.heap.size ∧ ∃ cells, w.heap[g]? = some (.cells cells e (0, 0)) := by
  obtain ⟨inner, ho, _⟩ := h
  obtain ⟨h1, h2⟩ := ho.lt g hg
  refine ⟨h1, h2, ?_⟩
  rcases ho.2 with ⟨rfl, _⟩ | ⟨g', cap, cur, rfl, _, hh, _⟩
  · simp [Value.ownBlock] at hg
  · have : g' = g := by simpa [Value.ownBlock] using hg
    subst this
    exact ⟨cur, hh⟩
/-- Behind steps that leave it and what it bears alone. -/
theorem Own.keep (hk : ∀ k, k < w.heap.size → (k < B0 ∨ v.ownBlock = some k ∨ ∃ cells t, t ∈ d.E ∧ w.heap[k]? = some (.cells cells t (0, 0))) → w'.heap[k]? = w.heap[k]?) (h : Own d e B0 B w v xs) : Own d e B0 B w' v xs := by
  have hb := h.block
  obtain ⟨inner, ho, hx⟩ := h
  refine ⟨inner, ⟨ho.1, ?_⟩, fun i x hi => ?_⟩
  · rcases ho.2 with h0 | ⟨g, cap, cur, rfl, hg, hh, r⟩
    · exact .inl h0
    · obtain ⟨_, hlt, _⟩ := hb g (by simp [Value.ownBlock])
      exact .inr ⟨g, cap, cur, rfl, hg, (hk g hlt (.inr (.inl (by simp [Value.ownBlock])))).trans hh, r⟩
  · obtain ⟨cs, hr, hc⟩ := hx i x hi
    exact ⟨cs, d.keep (fun k h1 h2 => hk k h1 (h2.imp id .inr)) hr, hc⟩
theorem Own.below {D : Nat} (h : Own d e B0 B w v xs) (hb : Below D w w') (hD : w.heap.size ≤ D) : Own d e B0 B w' v xs := h.keep fun k hk _ => hb.block k (Nat.lt_of_lt_of_le hk hD)
theorem Own.alloc (h : Own d e B0 B w v xs) (o : Obj) : Own d e B0 B (w.alloc o) v xs := h.keep fun k hk _ => Below.heap_alloc _ _ _ hk
theorem Own.drew (h : Own d e B0 B w v xs) : Own d e B0 B w.drew v xs := Own.keep (w := w) (w' := w.drew) (fun k hk _ => rfl) h
theorem Own.drewN (h : Own d e B0 B w v xs) (n : Nat) : Own d e B0 B (w.drewN n) v xs := Own.keep (w := w) (w' := w.drewN n) (fun k hk _ => rfl) h
theorem Own.slice (h : Own d e B0 B w v xs) : ∃ A c, v = .slice A xs.length c ∧ xs.length ≤ c ∧ c ≤ maxLen ∧ (A = none → c = 0) := by
  obtain ⟨inner, ho, _⟩ := h
  rcases ho.2 with ⟨rfl, h0⟩ | ⟨g, cap, cur, rfl, _, _, h1, h2, _⟩
  · exact ⟨none, 0, by rw [h0], by omega, by unfold maxLen; omega, fun _ => rfl⟩
  · exact ⟨_, cap, rfl, h1, h2, fun h => by cases h⟩
/-- As data that are read. -/
theorem Own.reads (h : Own d e B0 B w v xs) : ((Rep.slc e d).R B0 w xs [v]) := by
  have hb := h.block
  obtain ⟨inner, ho, hx⟩ := h
  rcases ho.2 with ⟨rfl, h0⟩ | ⟨g, cap, cur, rfl, _, hh, h1, h2, h3, h4⟩
  · have : xs = [] := List.eq_nil_of_length_eq_zero h0
    subst this
    exact ⟨none, 0, rfl, by simp, by unfold maxLen; omega, fun _ => rfl, Row.nil⟩
  · refine ⟨some ⟨g, 0, none⟩, cap, rfl, h1, h2, fun h => (by cases h), fun _ => ⟨_, rfl, (hb g (by simp [Value.ownBlock])).2.1, .inr ⟨cur, hh⟩, fun i x hi => ?_⟩⟩
    obtain ⟨cs, hr, hc⟩ := hx i x hi
    exact ⟨cs, hr, fun j u hj => ho.cells (by simp [Value.ownBlock]) _ u (hc j u hj)⟩
/-- An element's cell, of a row that is known by its head. -/
theorem Own.row (h : Own d e B0 B w v xs) : ∃ A c, v = .slice A xs.length c ∧ xs.length ≤ c ∧ c ≤ maxLen ∧ (A = none → c = 0) ∧ Row d e B0 w A xs := by
  obtain ⟨A, c, hv, h1, h2, h3, h4⟩ := h.reads
  have : v = .slice A xs.length c := by simpa using hv
  exact ⟨A, c, this, h1, h2, h3, h4⟩
end

theorem getElem?_snoc_cases {α : Type} {xs ys : List α} {i : Nat} {x : α} (h : (xs ++ ys)[i]? = some x) : (i < xs.length ∧ xs[i]? = some x) ∨ (xs.length ≤ i ∧ ys[i - xs.length]? = some x) := by
  rcases Nat.lt_or_ge i xs.length with hl | hl
  · rw [List.getElem?_append_left hl] at h; exact .inl ⟨hl, h⟩
  · rw [List.getElem?_append_right hl] at h; exact .inr ⟨hl, h⟩

/-- **append onto a row of the call's own, from whatever row.** What is behind: the row with more; what lies elsewhere is as it was. -/
theorem wp_append_row {α : Type} {P : Program} {o : Oper} {a : Act} {w : World} {K : Act → World → Prop} {Q : Exit → Act → World → Prop} (s x : Operand) (t : TypeId)
    (ho : o.op = .call { callee := .builtin .append, args := #[s, x], argTypes := #[t, t] })
    (d : Rep α) (e : TypeId) (B0 B : Nat) (ht : P.underlying t = some (.slice e)) {z : Value} {bytes : Nat} (hi : (P.info? e).map (fun i => (i.zero, i.size, i.bytes)) = some (some z, d.sz, bytes)) (hzs : z.cells.size = d.sz) (hsz : 0 < d.sz) (he : e ∉ d.E)
    (v : Value) (xs : List α) (hs : a.eval s = v) (hown : Own d e B0 B w v xs)
    (A : Option Addr) (c : Nat) (ys : List α) (hx : a.eval x = .slice A ys.length c) (hc : A = none → c = 0) (hlc : ys.length ≤ c) (hys : Row d e B0 w A ys) (hB0 : B0 ≤ B)
    (hbytes : (xs.length + ys.length) * bytes ≤ 140737488355328) (h63 : xs.length + ys.length ≤ 9223372036854775807) (hbase : B ≤ w.heap.size)
    (h : ∀ v' w', Own d e B0 B w' v' (xs ++ ys) → w.grownBy w' v.ownBlock → (v'.ownBlock = v.ownBlock ∨ v'.ownBlock = some w.heap.size) → K (a.put o.dst v') w') : o.wp P a w K Q := by
  obtain ⟨i, hi1, hz, hsize, hby⟩ := info_parts hi
  have hblk := hown.block
  obtain ⟨inner, hin, hxs⟩ := hown
  -- the cells that are appended
  have hnews : ∃ news : List Value, news.length = ys.length * d.sz ∧ (∀ u ∈ news, u.oneCell' = true) ∧ (∀ ad, A = some ad → ∀ j u, news[j]? = some u → w.cell? (ad.add j) = some u) ∧
      ∀ i y, ys[i]? = some y → ∃ cs, d.R B0 w y cs ∧ ∀ j u, cs[j]? = some u → news[i * d.sz + j]? = some u := by
    by_cases hne : ys = []
    · subst hne
      exact ⟨[], by simp, by simp, by simp, fun i y h => by simp at h⟩
    obtain ⟨ad, rfl, hlt, hb, hrow⟩ := hys hne
    clear hys hx
    have key : ∀ (zs : List α) (k : Nat), (∀ i y, zs[i]? = some y → ∃ cs, d.R B0 w y cs ∧ ∀ j u, cs[j]? = some u → w.cell? (ad.add ((k + i) * d.sz + j)) = some u) →
        ∃ news : List Value, news.length = zs.length * d.sz ∧ (∀ u ∈ news, u.oneCell' = true) ∧ (∀ j u, news[j]? = some u → w.cell? (ad.add (k * d.sz + j)) = some u) ∧
          ∀ i y, zs[i]? = some y → ∃ cs, d.R B0 w y cs ∧ ∀ j u, cs[j]? = some u → news[i * d.sz + j]? = some u := by
      intro zs
      induction zs with
      | nil => intro k _; exact ⟨[], by simp, by simp, by simp, fun i y h => by simp at h⟩
      | cons y zs ih =>
        intro k hk
        obtain ⟨cs, hr, hcs⟩ := hk 0 y rfl
        obtain ⟨news, h1, h2, h3, h4⟩ := ih (k + 1) (fun i y' hi' => by
          obtain ⟨cs', hr', hc'⟩ := hk (i + 1) y' hi'
          exact ⟨cs', hr', fun j u hj => by rw [show k + 1 + i = k + (i + 1) by omega]; exact hc' j u hj⟩)
        have hcl := d.len hr
        refine ⟨cs ++ news, by rw [List.length_append, h1, hcl, List.length_cons, Nat.succ_mul]; omega, fun u hu => (List.mem_append.1 hu).elim (d.one hr u) (h2 u), fun j u hj => ?_, fun i y' hi' => ?_⟩
        · rcases getElem?_snoc_cases hj with ⟨_, hj'⟩ | ⟨hge, hj'⟩
          · simpa using hcs j u hj'
          · have := h3 _ u hj'
            rw [hcl] at this hge
            rwa [show (k + 1) * d.sz + (j - d.sz) = k * d.sz + j by rw [Nat.succ_mul]; omega] at this
        · cases i with
          | zero =>
            simp only [List.getElem?_cons_zero, Option.some.injEq] at hi'
            subst hi'
            refine ⟨cs, hr, fun j u hj => ?_⟩
            have hjl : j < cs.length := (List.getElem?_eq_some_iff.1 hj).1
            rw [Nat.zero_mul, Nat.zero_add, List.getElem?_append_left hjl]
            exact hj
          | succ i =>
            obtain ⟨cs', hr', hc'⟩ := h4 i y' (by simpa using hi')
            refine ⟨cs', hr', fun j u hj => ?_⟩
            rw [List.getElem?_append_right (by rw [hcl, Nat.succ_mul]; omega), hcl, show (i + 1) * d.sz + j - d.sz = i * d.sz + j by rw [Nat.succ_mul]; omega]
            exact hc' j u hj
    obtain ⟨news, h1, h2, h3, h4⟩ := key ys 0 (fun i y hi' => by simpa using hrow i y hi')
    exact ⟨news, h1, h2, fun ad' e' j u hj => by cases e'; simpa using h3 j u hj, h4⟩
  obtain ⟨news, hn1, hn2, hn3, hn4⟩ := hnews
  have main : ∃ v' w', (Builtin.append_ #[t, t] o.type #[v, .slice A ys.length c]).run P w = .ok v' w' ∧ w'.ownsRow B e d.sz v' (xs.length + ys.length) (inner ++ news) ∧ w.grownBy w' v.ownBlock ∧
      (v'.ownBlock = v.ownBlock ∨ v'.ownBlock = some w.heap.size) := by
    cases A with
    | some ad =>
      obtain ⟨v', w', h1, h2, h3, _, h5⟩ := run_append_own_at (P := P) w B t o.type e i z d.sz bytes ht hi1 hz hsize hby hzs hsz v xs.length inner hin ad ys.length c news hn1 (hn3 ad rfl) hn2 (by unfold maxLen; omega) hbytes hbase
      exact ⟨v', w', h1, h2, h3, h5⟩
    | none =>
      have h0 : ys = [] := List.eq_nil_of_length_eq_zero (by have := hc rfl; omega)
      subst h0
      have : c = 0 := hc rfl
      subst this
      have hn0 : news = [] := List.eq_nil_of_length_eq_zero (by simpa using hn1)
      subst hn0
      refine ⟨v, w, ?_, by simpa using hin, World.grownBy.refl w _, .inl rfl⟩
      rcases hin.2 with ⟨rfl, h0⟩ | ⟨g, cap, cur, rfl, _, _, hnc, _⟩
      · simp [Builtin.append_, run_underlying ht, sizeOf, typeInfo, hi1, Builtin.lenOf, Builtin.firstCells]
      · simp [Builtin.append_, run_underlying ht, sizeOf, typeInfo, hi1, Builtin.lenOf, Builtin.firstCells, hnc, storeCells]
  obtain ⟨v', w', hr, h2, h3, h5⟩ := main
  unfold Oper.wp execOp
  simp only [ho, resolve, invoke, builtin, Sem.run_bind, Sem.run_pure, Result.andThen_ok, List.map_toArray, List.map_cons, List.map_nil, hs, hx, hr]
  refine h v' w' ?_ h3 h5
  have hkeep : ∀ {y : α} {cs : List Value}, d.R B0 w y cs → d.R B0 w' y cs := fun hy => Rep.grown hy h3 (fun g hg => ⟨Nat.le_trans hB0 (hblk g hg).1, (hblk g hg).2.2⟩) he
  refine ⟨inner ++ news, by rw [List.length_append]; exact h2, fun i y hi' => ?_⟩
  rcases getElem?_snoc_cases hi' with ⟨hl, hi'⟩ | ⟨hl, hi'⟩
  · obtain ⟨cs, hr, hc⟩ := hxs i y hi'
    refine ⟨cs, hkeep hr, fun j u hj => ?_⟩
    have := hc j u hj
    rw [List.getElem?_append_left (List.getElem?_eq_some_iff.1 this).1]
    exact this
  · obtain ⟨cs, hr, hc⟩ := hn4 _ y hi'
    refine ⟨cs, hkeep hr, fun j u hj => ?_⟩
    have hil : inner.length = xs.length * d.sz := hin.1
    have hge : xs.length * d.sz ≤ i * d.sz := Nat.mul_le_mul_right _ hl
    rw [List.getElem?_append_right (by omega), hil, show i * d.sz + j - xs.length * d.sz = (i - xs.length) * d.sz + j by rw [Nat.sub_mul]; omega]
    exact hc j u hj

theorem wpList_append_row {α : Type} {P : Program} {ops : Array Oper} {rest : List Oper} {o : Oper} {a : Act} {w : World} {Q : Exit → Act → World → Prop} (hgd : o.guard = none) (s x : Operand) (t : TypeId)
    (ho : o.op = .call { callee := .builtin .append, args := #[s, x], argTypes := #[t, t] })
    (d : Rep α) (e : TypeId) (B0 B : Nat) (ht : P.underlying t = some (.slice e)) {z : Value} {bytes : Nat} (hi : (P.info? e).map (fun i => (i.zero, i.size, i.bytes)) = some (some z, d.sz, bytes)) (hzs : z.cells.size = d.sz) (hsz : 0 < d.sz) (he : e ∉ d.E)
    (v : Value) (xs : List α) (hs : a.eval s = v) (hown : Own d e B0 B w v xs)
    (A : Option Addr) (c : Nat) (ys : List α) (hx : a.eval x = .slice A ys.length c) (hc : A = none → c = 0) (hlc : ys.length ≤ c) (hys : Row d e B0 w A ys) (hB0 : B0 ≤ B)
    (hbytes : (xs.length + ys.length) * bytes ≤ 140737488355328) (h63 : xs.length + ys.length ≤ 9223372036854775807) (hbase : B ≤ w.heap.size)
    (h : ∀ v' w', Own d e B0 B w' v' (xs ++ ys) → w.grownBy w' v.ownBlock → (v'.ownBlock = v.ownBlock ∨ v'.ownBlock = some w.heap.size) → wpList P ops Q rest (a.put o.dst v') w') :
    wpList P ops Q (o :: rest) a w :=
  wpList_plain hgd fun K hK => wp_append_row s x t ho d e B0 B ht hi hzs hsz he v xs hs hown A c ys hx hc hlc hys hB0 hbytes h63 hbase fun v' w' h1 h2 h3 => hK _ _ (h v' w' h1 h2 h3)
/-- The same where a region draws its order. -/
theorem step_append_row {α : Type} {P : Program} {ops : Array Oper} {o : Oper} {a : Act} {w : World} {K : Act → World → Prop} {Q : Exit → Act → World → Prop} {E : Prop} (hgd : o.guard = none) (s x : Operand) (t : TypeId)
    (ho : o.op = .call { callee := .builtin .append, args := #[s, x], argTypes := #[t, t] })
    (d : Rep α) (e : TypeId) (B0 B : Nat) (ht : P.underlying t = some (.slice e)) {z : Value} {bytes : Nat} (hi : (P.info? e).map (fun i => (i.zero, i.size, i.bytes)) = some (some z, d.sz, bytes)) (hzs : z.cells.size = d.sz) (hsz : 0 < d.sz) (he : e ∉ d.E)
    (v : Value) (xs : List α) (hs : a.eval s = v) (hown : Own d e B0 B w v xs)
    (A : Option Addr) (c : Nat) (ys : List α) (hx : a.eval x = .slice A ys.length c) (hc : A = none → c = 0) (hlc : ys.length ≤ c) (hys : Row d e B0 w A ys) (hB0 : B0 ≤ B)
    (hbytes : (xs.length + ys.length) * bytes ≤ 140737488355328) (h63 : xs.length + ys.length ≤ 9223372036854775807) (hbase : B ≤ w.heap.size)
    (h : ∀ v' w', Own d e B0 B w' v' (xs ++ ys) → w.grownBy w' v.ownBlock → (v'.ownBlock = v.ownBlock ∨ v'.ownBlock = some w.heap.size) → K (a.put o.dst v') w') :
    if Region.wanted o (yielded ops a.tmps) = true then Oper.wp P o a w K Q else E := by
  have hw : Region.wanted o (yielded ops a.tmps) = true := by simp [Region.wanted, hgd]
  rw [if_pos hw]
  exact wp_append_row s x t ho d e B0 B ht hi hzs hsz he v xs hs hown A c ys hx hc hlc hys hB0 hbytes h63 hbase h

/-- One element, laid in a block of its own for an append. -/
theorem Row.one {α : Type} {d : Rep α} {e : TypeId} {B : Nat} {w : World} {x : α} {cs : List Value} (h : d.R B w x cs) (hb : B ≤ w.heap.size) : Row d e B (w.alloc (.cells cs.toArray e)) (some ⟨w.heap.size, 0, none⟩) [x] := by
  intro _
  refine ⟨_, rfl, by simp, .inr ⟨cs.toArray, heap_alloc_new w _⟩, fun i y hi => ?_⟩
  cases i with
  | succ i => simp at hi
  | zero =>
    simp only [List.getElem?_cons_zero, Option.some.injEq] at hi
    subst hi
    refine ⟨cs, d.keep (fun k hk _ => Below.heap_alloc _ _ _ hk) h, fun j u hj => ?_⟩
    have hadd : (⟨w.heap.size, 0, none⟩ : Addr).add (0 * d.sz + j) = ⟨w.heap.size, j, none⟩ := by unfold Addr.add; split <;> simp_all
    rw [hadd, cell_of_row _ _ _ cs.toArray e (0, 0) (heap_alloc_new w _)]
    simpa using hj

/-- **'append(out, x)', one element.** -/
theorem wpList_append_one {α : Type} {P : Program} {ops : Array Oper} {rest : List Oper} {o : Oper} {a : Act} {w : World} {Q : Exit → Act → World → Prop} (hgd : o.guard = none) (s x : Operand) (t : TypeId)
    (ho : o.op = .call { callee := .builtin .append, args := #[s, x], argTypes := #[t, t] })
    (d : Rep α) (e : TypeId) (B0 B : Nat) (ht : P.underlying t = some (.slice e)) {z : Value} {bytes : Nat} (hi : (P.info? e).map (fun i => (i.zero, i.size, i.bytes)) = some (some z, d.sz, bytes)) (hzs : z.cells.size = d.sz) (hsz : 0 < d.sz) (he : e ∉ d.E)
    (v : Value) (xs : List α) (hs : a.eval s = v) (hown : Own d e B0 B w v xs)
    (y : α) (cs : List Value) (hy : d.R B0 w y cs) (hx : a.eval x = .slice (some ⟨w.heap.size, 0, none⟩) 1 1) (hB0 : B0 ≤ B)
    (hbytes : (xs.length + 1) * bytes ≤ 140737488355328) (h63 : xs.length + 1 ≤ 9223372036854775807) (hbase : B ≤ w.heap.size)
    (h : ∀ v' w', Own d e B0 B w' v' (xs ++ [y]) → w.grownBy w' v.ownBlock → (v'.ownBlock = v.ownBlock ∨ v'.ownBlock = some (w.heap.size + 1)) → wpList P ops Q rest (a.put o.dst v') w') :
    wpList P ops Q (o :: rest) a (w.alloc (.cells cs.toArray e)) := by
  refine wpList_append_row hgd s x t ho d e B0 B ht hi hzs hsz he v xs hs (hown.alloc _) (some ⟨w.heap.size, 0, none⟩) 1 [y] hx (fun h => by cases h) (by simp) (Row.one hy (Nat.le_trans hB0 hbase)) hB0 hbytes h63 (by simp; omega) fun v' w' h1 h2 h3 => h v' w' h1 ?_ (by simpa using h3)
  exact (World.grownBy_alloc _ _ _).trans h2

theorem ret_i {k : IntKind} {a b : Int} (h : a = b) : Ending.returned (.int k a) = .returned (.int k b) := by rw [h]
theorem ret_b {a b : Bool} (h : a = b) : Ending.returned (.bool a) = .returned (.bool b) := by rw [h]
theorem ret_s {a b : ByteArray} (h : a = b) : Ending.returned (.string a) = .returned (.string b) := by rw [h]

theorem cell_alloc_lit (w : World) (cs : Array Value) (t : TypeId) (i : Nat) (v : Value) (h : cs[i]? = some v) : (w.alloc (.cells cs t)).cell? ⟨w.heap.size, i, none⟩ = some v := by
  rw [cell_of_row _ _ _ cs t (0, 0) (heap_alloc_new w _)]
  exact h
/-- A cell that was there reads as it did behind a new block. -/
@[go_sem] theorem cell_alloc_old (w : World) (o : Obj) (p : Addr) (h : p.block < w.heap.size) : (w.alloc o).cell? p = w.cell? p := World.cell?_of_block (Below.heap_alloc _ _ _ h)
theorem cb {w w1 : World} (h : Below w.heap.size w w1) {a : Addr} {v : Value} (hc : w.cell? a = some v) : w1.cell? a = some v := (h.cell (World.block_lt_of_cell? w a hc)).trans hc
theorem cbd {w w1 : World} (h : Below w.drew.heap.size w.drew w1) {a : Addr} {v : Value} (hc : w.cell? a = some v) : w1.cell? a = some v := cb (w := w.drew) h hc
theorem undrew {B : Nat} {w w1 : World} (h : Below B w.drew w1) : Below B w w1 := ⟨h.os, h.tape, h.output, h.size, h.block⟩
theorem undrewN {B n : Nat} {w w1 : World} (h : Below B (w.drewN n) w1) : Below B w w1 := ⟨h.os, h.tape, h.output, h.size, h.block⟩
theorem drop_cons' {α : Type} {l : List α} {k : Nat} {y : α} (h : l[k]? = some y) : l.drop k = y :: l.drop (k + 1) := by
  obtain ⟨hk, he⟩ := List.getElem?_eq_some_iff.1 h
  rw [List.drop_eq_getElem_cons hk, he]
theorem modify_of_get {α : Type} {l : List α} {j : Nat} {y : α} (h : l[j]? = some y) (f : α → α) : l.modify j f = l.set j (f y) := by
  apply List.ext_getElem?
  intro i
  rw [List.getElem?_modify, List.getElem?_set]
  by_cases hij : j = i
  · subst hij
    have := (List.getElem?_eq_some_iff.1 h).1
    rw [h, if_pos rfl, if_pos this]
    simp
  · simp [hij]
theorem take_snoc' {α : Type} {l : List α} {k : Nat} {x : α} (h : l[k]? = some x) : l.take (k + 1) = l.take k ++ [x] := by
  rw [List.take_add_one, h]; rfl
/-- The old world, some orders having been drawn. -/
structure Drawn (w w' : World) : Prop where
  out : ∃ n, w' = w.drewN n
theorem Drawn.refl (w : World) : Drawn w w := ⟨0, rfl⟩
theorem Drawn.drewN {w w' : World} (h : Drawn w w') (n : Nat) : Drawn w (w'.drewN n) := by
  obtain ⟨m, rfl⟩ := h.out
  exact ⟨⟨_, World.drewN_drewN _ _ _⟩⟩
theorem Drawn.drew {w w' : World} (h : Drawn w w') : Drawn w w'.drew := h.drewN 1
theorem Drawn.trans {a b c : World} (h : Drawn a b) (k : Drawn b c) : Drawn a c := by
  obtain ⟨m, rfl⟩ := k.out
  exact h.drewN m
theorem Drawn.heap {w w' : World} (h : Drawn w w') : w'.heap = w.heap := by
  obtain ⟨n, rfl⟩ := h.out
  rfl
theorem Drawn.below {w w' : World} (h : Drawn w w') (B : Nat) : Below B w w' := by
  obtain ⟨n, rfl⟩ := h.out
  exact ⟨rfl, rfl, rfl, Nat.le_refl _, fun _ _ => rfl⟩
theorem Row.drawn {α : Type} {d : Rep α} {e : TypeId} {B : Nat} {w w' : World} {A : Option Addr} {xs : List α} (h : Row d e B w A xs) (hw : Drawn w w') : Row d e B w' A xs := h.keep fun k _ _ => by rw [hw.heap]
theorem Rep.drawn {α : Type} {d : Rep α} {B : Nat} {w w' : World} {x : α} {cs : List Value} (h : d.R B w x cs) (hw : Drawn w w') : d.R B w' x cs := d.keep (fun k _ _ => by rw [hw.heap]) h

/-! #### a block that is known whole -/
def Blk (w : World) (g : Nat) (t : TypeId) (cs : Array Value) : Prop := w.heap[g]? = some (.cells cs t (0, 0))
section
variable {w w' : World} {g : Nat} {t : TypeId} {cs : Array Value}
theorem Blk.lt (h : Blk w g t cs) : g < w.heap.size := (Array.getElem?_eq_some_iff.1 h).1
theorem Blk.cell (h : Blk w g t cs) (i : Nat) {v : Value} (hv : cs[i]? = some v) : w.cell? ⟨g, i, none⟩ = some v := (cell_of_row w g i cs t (0, 0) h).trans hv
theorem Blk.free (h : Blk w g t cs) (i : Nat) : w.frozen? ⟨g, i, none⟩ = false := by
  unfold Blk at h
  simp [World.frozen?, h]
theorem Blk.new (w : World) (t : TypeId) (cs : Array Value) : Blk (w.alloc (.cells cs t)) w.heap.size t cs := heap_alloc_new w _
theorem Blk.new' (w : World) (g : Nat) (t : TypeId) (cs : Array Value) (hg : g = w.heap.size) : Blk (w.alloc (.cells cs t)) g t cs := hg ▸ heap_alloc_new w _
theorem Blk.keep (h : Blk w g t cs) (hk : w'.heap[g]? = w.heap[g]?) : Blk w' g t cs := hk.trans h
theorem Blk.drew (h : Blk w g t cs) : Blk w.drew g t cs := h
theorem Blk.drewN (h : Blk w g t cs) (n : Nat) : Blk (w.drewN n) g t cs := h
theorem Blk.drawn (h : Blk w g t cs) (hd : Drawn w w') : Blk w' g t cs := h.keep (by rw [hd.heap])
theorem Blk.alloc (h : Blk w g t cs) (o : Obj) : Blk (w.alloc o) g t cs := h.keep (Below.heap_alloc w o g h.lt)
theorem Blk.below {B : Nat} (h : Blk w g t cs) (hb : Below B w w') (hg : g < B) : Blk w' g t cs := h.keep (hb.block g hg)
theorem Blk.grown {row : Option Nat} (h : Blk w g t cs) (hg : w.grownBy w' row) (hr : some g ≠ row) : Blk w' g t cs := h.keep (hg.block g h.lt hr)
theorem Blk.far (h : Blk w g t cs) {p : Addr} (hp : g ≠ p.block) (u : Value) : Blk (w.setCell p u) g t cs := h.keep (Below.heap_setCell w p u g hp)
theorem Blk.set (h : Blk w g t cs) (i : Nat) (u : Value) : Blk (w.setCell ⟨g, i, none⟩ u) g t (cs.setIfInBounds i u) := by
  unfold Blk at h ⊢
  simp [World.setCell, Array.getElem?_modify, h]
theorem Blk.ne {g' : Nat} {t' : TypeId} {cs' : Array Value} (h : Blk w g t cs) (h' : Blk w g' t' cs') (hne : t ≠ t') : g ≠ g' := by
  rintro rfl
  unfold Blk at h h'
  rw [h] at h'
  injection h' with h'
  injection h' with _ ht
  exact hne ht
end

theorem Own.cell_flat {α : Type} {sz : Nat} {enc : α → List Value} {hl : ∀ x, (enc x).length = sz} {h1 : ∀ x, ∀ u ∈ enc x, u.oneCell' = true} {e : TypeId} {B0 B : Nat} {w : World} {g n cap : Nat} {xs : List α}
    (h : Own (Rep.flat sz enc hl h1) e B0 B w (.slice (some ⟨g, 0, none⟩) n cap) xs) {i f : Nat} {x : α} (hi : xs[i]? = some x) {u : Value} (hf : (enc x)[f]? = some u) : w.cell? ⟨g, i * sz + f, none⟩ = some u := by
  obtain ⟨inner, ho, hx⟩ := h
  obtain ⟨cs, hcs, hc⟩ := hx i x hi
  have hcs : cs = enc x := hcs
  subst hcs
  have := ho.cells (g := g) (by simp [Value.ownBlock]) _ u (hc f u hf)
  have hadd : (⟨g, 0, none⟩ : Addr).add (i * (Rep.flat sz enc hl h1).sz + f) = ⟨g, i * sz + f, none⟩ := by
    show (⟨g, 0, none⟩ : Addr).add (i * sz + f) = _
    unfold Addr.add
    split <;> simp_all
  rwa [hadd] at this
theorem Own.free {α : Type} {d : Rep α} {e : TypeId} {B0 B : Nat} {w : World} {g n cap : Nat} {xs : List α} (h : Own d e B0 B w (.slice (some ⟨g, 0, none⟩) n cap) xs) (o : Nat) : w.frozen? ⟨g, o, none⟩ = false := by
  obtain ⟨_, _, cells, hh⟩ := h.block g (by simp [Value.ownBlock])
  simp [World.frozen?, hh]
theorem Own.head {α : Type} {d : Rep α} {e : TypeId} {B0 B : Nat} {w : World} {v : Value} {xs : List α} (h : Own d e B0 B w v xs) (hne : xs ≠ []) : ∃ g cap, v = .slice (some ⟨g, 0, none⟩) xs.length cap := by
  obtain ⟨inner, ho, _⟩ := h
  rcases ho.2 with ⟨_, h0⟩ | ⟨g, cap, cur, hv, _⟩
  · exact absurd (List.eq_nil_of_length_eq_zero h0) hne
  · exact ⟨g, cap, hv⟩
theorem Row.grown {α : Type} {d : Rep α} {e : TypeId} {B : Nat} {w w' : World} {A : Option Addr} {xs : List α} {row : Option Nat} {e' : TypeId} (h : Row d e B w A xs) (hg : w.grownBy w' row) (hr : ∀ g, row = some g → B ≤ g ∧ ∃ cells, w.heap[g]? = some (.cells cells e' (0, 0))) (he : e' ∉ e :: d.E) : Row d e B w' A xs :=
  h.keep fun k hk h2 => hg.block k hk (fun ek => by
    obtain ⟨h3, cells, h4⟩ := hr k ek.symm
    rcases h2 with h2 | ⟨c, t, ht, h5⟩
    · omega
    · rw [h4] at h5
      injection h5 with h5
      injection h5 with _ h6
      exact he (h6 ▸ ht))
theorem Own.ne_blk {α : Type} {d : Rep α} {e : TypeId} {B0 B : Nat} {w : World} {v : Value} {xs : List α} (h : Own d e B0 B w v xs) {g : Nat} {t : TypeId} {cs : Array Value} (hb : Blk w g t cs) (hne : e ≠ t) : some g ≠ v.ownBlock := by
  intro hg
  obtain ⟨_, _, cells, hh⟩ := h.block g hg.symm
  unfold Blk at hb
  rw [hb] at hh
  injection hh with hh
  injection hh with _ ht
  exact hne ht.symm
theorem Own.ne_own {α β : Type} {d : Rep α} {e : TypeId} {B0 B : Nat} {w : World} {v : Value} {xs : List α} {d' : Rep β} {e' : TypeId} {B0' B' : Nat} {v' : Value} {ys : List β} (h : Own d e B0 B w v xs) (h' : Own d' e' B0' B' w v' ys) (hne : e ≠ e') : ∀ g, v.ownBlock = some g → v'.ownBlock ≠ some g := by
  intro g hg hg'
  obtain ⟨_, _, c1, h1⟩ := h.block g hg
  obtain ⟨_, _, c2, h2⟩ := h'.block g hg'
  rw [h1] at h2
  injection h2 with h2
  injection h2 with _ ht
  exact hne ht
/-- It is as it was behind the writing of another row. -/
theorem Own.grown {α : Type} {d : Rep α} {e : TypeId} {B0 B : Nat} {w w' : World} {v : Value} {xs : List α} {row : Option Nat} {e' : TypeId} (h : Own d e B0 B w v xs) (hg : w.grownBy w' row) (hr : ∀ g, row = some g → B0 ≤ g ∧ ∃ cells, w.heap[g]? = some (.cells cells e' (0, 0))) (he : e' ∉ d.E) (hne : ∀ g, row = some g → v.ownBlock ≠ some g) : Own d e B0 B w' v xs :=
  h.keep fun k hk h2 => hg.block k hk (fun ek => by
    obtain ⟨h3, cells, h4⟩ := hr k ek.symm
    rcases h2 with h2 | h2 | ⟨c, t, ht, h5⟩
    · omega
    · exact hne k ek.symm h2
    · rw [h4] at h5
      injection h5 with h5
      injection h5 with _ h6
      exact he (h6 ▸ ht))
/-- A field of an element of a row of the call's own is written. -/
theorem Own.set_flat {α : Type} {sz : Nat} {enc : α → List Value} {hl : ∀ x, (enc x).length = sz} {h1 : ∀ x, ∀ u ∈ enc x, u.oneCell' = true} {e : TypeId} {B0 B : Nat} {w : World} {g n cap : Nat} {xs : List α}
    (h : Own (Rep.flat sz enc hl h1) e B0 B w (.slice (some ⟨g, 0, none⟩) n cap) xs) {i f : Nat} {x y : α} (hi : xs[i]? = some x) (u : Value) (hf : (enc y)[f]? = some u) (ho : ∀ f', f' ≠ f → (enc y)[f']? = (enc x)[f']?) :
    Own (Rep.flat sz enc hl h1) e B0 B (w.setCell ⟨g, i * sz + f, none⟩ u) (.slice (some ⟨g, 0, none⟩) n cap) (xs.set i y) := by
  obtain ⟨inner, ⟨hin, hr⟩, hx⟩ := h
  rcases hr with ⟨h0, _⟩ | ⟨g', cap', cur, hv, hB, hh, hn, hc, hs, htk⟩
  · cases h0
  simp only [Value.slice.injEq, Option.some.injEq, Addr.mk.injEq, and_true] at hv
  obtain ⟨rfl, rfl, rfl⟩ := hv
  have hlt : i < xs.length := (List.getElem?_eq_some_iff.1 hi).1
  have hfl : f < sz := by rw [← hl y]; exact (List.getElem?_eq_some_iff.1 hf).1
  have hpos : i * sz + f < xs.length * sz := by
    have : (i + 1) * sz ≤ xs.length * sz := Nat.mul_le_mul_right _ hlt
    rw [Nat.succ_mul] at this
    omega
  have hsz : (Rep.flat sz enc hl h1).sz = sz := rfl
  rw [hsz] at hs htk hin
  have hcur : xs.length * sz ≤ cur.size := by rw [hs]; exact Nat.mul_le_mul_right _ hn
  refine ⟨inner.set (i * sz + f) u, ⟨?_, .inr ⟨g, cap, cur.setIfInBounds (i * sz + f) u, by rw [List.length_set], hB, ?_, by rw [List.length_set]; exact hn, hc, ?_, ?_⟩⟩, fun k z hk => ⟨enc z, rfl, fun j v hj => ?_⟩⟩
  · rw [List.length_set, List.length_set, hin]; rfl
  · simp [World.setCell, Array.getElem?_modify, hh]
  · rw [Array.size_setIfInBounds, hs]; rfl
  · rw [List.length_set, hsz, ← htk, Array.toList_setIfInBounds, List.take_set]
  · rw [hsz]
    by_cases hki : k = i
    · subst hki
      rw [List.getElem?_set_self hlt] at hk
      cases hk
      by_cases hjf : j = f
      · subst hjf
        rw [hf] at hj
        cases hj
        rw [List.getElem?_set_self (by rw [hin]; exact hpos)]
      · rw [List.getElem?_set_ne (by omega)]
        rw [ho j hjf] at hj
        obtain ⟨cs, hcs, hc'⟩ := hx k x hi
        have hcs : cs = enc x := hcs
        subst hcs
        exact hc' j v hj
    · rw [List.getElem?_set_ne (fun e => hki e.symm)] at hk
      obtain ⟨cs, hcs, hc'⟩ := hx k z hk
      have hcs : cs = enc z := hcs
      subst hcs
      have hjl : j < sz := by rw [← hl z]; exact (List.getElem?_eq_some_iff.1 hj).1
      rw [List.getElem?_set_ne]
      · exact hc' j v hj
      · intro e'
        rcases Nat.lt_or_gt_of_ne hki with hlt' | hgt
        · have : (k + 1) * sz ≤ i * sz := Nat.mul_le_mul_right _ hlt'
          rw [Nat.succ_mul] at this
          omega
        · have : (i + 1) * sz ≤ k * sz := Nat.mul_le_mul_right _ hgt
          rw [Nat.succ_mul] at this
          omega

/-! ### 3. Callees inside a region that draws -/
theorem quiet_same {P : Program} {f : FuncId} {args : Array Value} {w : World} {n : Nat} {v : Value}
    (h : Calls P f args (w.drewN n) fun e w' => e = .returned v ∧ w.drewN n = w') : Calls P f args (w.drewN n) fun e w'' => e = .returned v ∧ ∃ m, w'' = w.drewN m :=
  h.mono fun _ _ ⟨he, hm⟩ => ⟨he, n, hm.symm⟩
theorem quiet_drawn {P : Program} {f : FuncId} {args : Array Value} {w : World} {n : Nat} {v : Value}
    (h : Calls P f args (w.drewN n) fun e w' => e = .returned v ∧ Drawn (w.drewN n) w') : Calls P f args (w.drewN n) fun e w'' => e = .returned v ∧ ∃ m, w'' = w.drewN m :=
  h.mono fun _ _ ⟨he, hm⟩ => ⟨he, by obtain ⟨m, rfl⟩ := hm.out; exact ⟨_, World.drewN_drewN _ _ _⟩⟩
end Go.Proofs.Ytgljmflcbdhigaa
