/- Maps keyed by ints, as lists of their entries: what a look-up, a store, a delete, a step of a range come to. No program is named here. -/
import Derived.Test.YtgljmflcbdhigaaLib
set_option linter.unusedVariables false
set_option linter.unusedSimpArgs false
namespace Go.Proofs.Ytgljmflcbdhigaa
open Go.RowKit

abbrev KV := Int × Value × Nat
def entOf (p : KV) : MapEntry := ⟨.int .i64 p.1, p.2.1, p.2.2⟩
def mapObj (l : List KV) (clk : Nat) : Obj := .map (l.map entOf).toArray clk
def IMap (w : World) (M : Nat) (l : List KV) (clk : Nat) : Prop := w.heap[M]? = some (mapObj l clk)
def World.put (w : World) (M : Nat) (o : Obj) : World := { w with heap := w.heap.setIfInBounds M o }

def kget (l : List KV) (k : Int) : Option Value := match l with | [] => none | p :: r => if p.1 = k then some p.2.1 else kget r k
def kset (l : List KV) (k : Int) (v : Value) (c : Nat) : List KV := match l with | [] => [(k, v, c)] | p :: r => if p.1 = k then (k, v, p.2.2) :: r else p :: kset r k v c
def kdel (l : List KV) (k : Int) : List KV := match l with | [] => [] | p :: r => if p.1 = k then r else p :: kdel r k
def kfind (l : List KV) (k : Int) (i : Nat) : Option (Nat × Value) := match l with | [] => none | p :: r => if p.1 = k then some (i, p.2.1) else kfind r k (i + 1)
def kclk (l : List KV) (k : Int) (c : Nat) : Nat := if (kget l k).isSome then c else c + 1

theorem findNow_ints (k : Int) : ∀ (l : List KV) (i : Nat), Instr.findNow (.int .i64) (.int .i64 k) (l.map entOf) i = some (kfind l k i)
  | [], i => rfl
  | p :: r, i => by
    simp only [List.map_cons, Instr.findNow, entOf, Instr.sameNow, if_true, kfind]
    by_cases h : p.1 = k
    · rw [h]; simp
    · have hb : (k == p.1) = false := by simp; omega
      rw [hb, if_neg h]
      exact findNow_ints k r (i + 1)
theorem kfind_get (k : Int) : ∀ (l : List KV) (i : Nat), (kfind l k i).map (·.2) = kget l k
  | [], i => rfl
  | p :: r, i => by
    unfold kfind kget
    by_cases h : p.1 = k
    · rw [if_pos h, if_pos h]; rfl
    · rw [if_neg h, if_neg h]; exact kfind_get k r (i + 1)
theorem kfind_set (k : Int) (v : Value) (c : Nat) : ∀ (l : List KV) (i j : Nat) (u : Value), kfind l k i = some (j, u) → i ≤ j ∧ (((l.map entOf)[j - i]?).map (·.key)) = some (.int .i64 k) ∧ (l.map entOf).modify (j - i) (fun e => { e with key := .int .i64 k, val := v }) = (kset l k v c).map entOf
  | [], i, j, u, h => by cases h
  | p :: r, i, j, u, h => by
    unfold kfind at h
    unfold kset
    by_cases hp : p.1 = k
    · rw [if_pos hp] at h ⊢
      cases h
      refine ⟨Nat.le_refl _, ?_, ?_⟩
      · simp [entOf, hp]
      · simp [entOf]
    · rw [if_neg hp] at h ⊢
      obtain ⟨h1, h2, h3⟩ := kfind_set k v c r (i + 1) j u h
      have e : j - i = (j - (i + 1)) + 1 := by omega
      refine ⟨by omega, ?_, ?_⟩
      · rw [e]; simpa using h2
      · rw [e, List.map_cons, List.modify_succ_cons, h3]; rfl
theorem kfind_none (k : Int) (v : Value) (c : Nat) : ∀ (l : List KV) (i : Nat), kfind l k i = none → kset l k v c = l ++ [(k, v, c)] ∧ kdel l k = l
  | [], i, h => ⟨rfl, rfl⟩
  | p :: r, i, h => by
    unfold kfind at h
    unfold kset kdel
    by_cases hp : p.1 = k
    · rw [if_pos hp] at h; cases h
    · rw [if_neg hp] at h ⊢
      obtain ⟨h1, h2⟩ := kfind_none k v c r (i + 1) h
      rw [h1, if_neg hp, h2]
      exact ⟨rfl, rfl⟩
theorem kfind_del (k : Int) : ∀ (l : List KV) (i j : Nat) (u : Value), kfind l k i = some (j, u) → i ≤ j ∧ (l.map entOf).eraseIdx (j - i) = (kdel l k).map entOf
  | [], i, j, u, h => by cases h
  | p :: r, i, j, u, h => by
    unfold kfind at h
    unfold kdel
    by_cases hp : p.1 = k
    · rw [if_pos hp] at h ⊢
      cases h
      simp
    · rw [if_neg hp] at h ⊢
      obtain ⟨h1, h2⟩ := kfind_del k r (i + 1) j u h
      have e : j - i = (j - (i + 1)) + 1 := by omega
      refine ⟨by omega, ?_⟩
      rw [e, List.map_cons, List.eraseIdx_cons_succ, h2]; rfl

section
variable {P : Program} {t kt et : TypeId} {w : World} {M : Nat} {l : List KV} {clk : Nat}
theorem IMap.lt (h : IMap w M l clk) : M < w.heap.size := (Array.getElem?_eq_some_iff.1 h).1
theorem IMap.keep {w' : World} (h : IMap w M l clk) (hk : w'.heap[M]? = w.heap[M]?) : IMap w' M l clk := hk.trans h
theorem IMap.made (w : World) : IMap (w.alloc (.map #[] 0)) w.heap.size [] 0 := heap_alloc_new w _

theorem run_checkKey_int (hk : P.underlying kt = some (.int .i64)) (b : Bool) (k : Int) (w : World) : (Instr.checkKey b 10000 kt (.int .i64 k)).run P w = .ok () w := by
  have : ∀ n, (Instr.checkKey b (n + 1) kt (.int .i64 k)).run P w = .ok () w := by
    intro n
    simp [Instr.checkKey, run_underlying hk]
  exact this 9999
theorem run_findKey_int (hk : P.underlying kt = some (.int .i64)) (l : List KV) (k : Int) (w : World) : (Instr.findKey kt (.int .i64 k) (l.map entOf)).run P w = .ok (kfind l k 0) w := by
  simp [Instr.findKey, run_underlying hk, findNow_ints]

theorem run_getMap (h : IMap w M l clk) : (getObj M).run P w = .ok (mapObj l clk) w := by
  unfold IMap at h
  simp [getObj, Sem.run, h, mapObj]
theorem run_setMap (h : IMap w M l clk) (o : Obj) : (setObj M o).run P w = .ok () (World.put w M o) := by
  unfold IMap at h
  simp [setObj, Sem.run, h, mapObj, World.put]

theorem run_lookup_imap (ht : P.underlying t = some (.map kt et)) (hk : P.underlying kt = some (.int .i64)) (h : IMap w M l clk) {z : Value} (hz : (zeroValue et).run P w = .ok z w) (k : Int) :
    (Instr.lookup t (.map (some M)) (.int .i64 k) false).run P w = .ok ((kget l k).getD z) w := by
  have hf := kfind_get k l 0
  unfold Instr.lookup
  simp only [Sem.run_bind, run_underlying ht, Result.andThen_ok, Sem.run_pure, run_getMap h, mapObj, run_checkKey_int hk, run_findKey_int hk, List.toList_toArray]
  cases hh : kfind l k 0 with
  | none =>
    rw [hh] at hf
    simp [Sem.run_bind, hz, Result.andThen_ok, ← hf]
  | some r =>
    rw [hh] at hf
    simp [Sem.run_bind, Result.andThen_ok, ← hf]

theorem run_lookup_imap_ok (ht : P.underlying t = some (.map kt et)) (hk : P.underlying kt = some (.int .i64)) (h : IMap w M l clk) {z : Value} (hz : (zeroValue et).run P w = .ok z w) (k : Int) :
    (Instr.lookup t (.map (some M)) (.int .i64 k) true).run P w = .ok (.tuple #[(kget l k).getD z, .bool (kget l k).isSome]) w := by
  have hf := kfind_get k l 0
  unfold Instr.lookup
  simp only [Sem.run_bind, run_underlying ht, Result.andThen_ok, Sem.run_pure, run_getMap h, mapObj, run_checkKey_int hk, run_findKey_int hk, List.toList_toArray]
  cases hh : kfind l k 0 with
  | none =>
    rw [hh] at hf
    simp [Sem.run_bind, hz, Result.andThen_ok, ← hf]
  | some r =>
    rw [hh] at hf
    simp [Sem.run_bind, Result.andThen_ok, ← hf]

theorem run_update_imap (ht : P.underlying t = some (.map kt et)) (hk : P.underlying kt = some (.int .i64)) (h : IMap w M l clk) (k : Int) (v : Value) :
    (Instr.mapUpdate t (.map (some M)) (.int .i64 k) v).run P w = .ok () (World.put w M (mapObj (kset l k v clk) (kclk l k clk))) := by
  have hf := kfind_get k l 0
  unfold Instr.mapUpdate
  simp only [Sem.run_bind, run_underlying ht, Result.andThen_ok, Sem.run_pure, run_getMap h, mapObj, run_checkKey_int hk, run_findKey_int hk, List.toList_toArray]
  cases hh : kfind l k 0 with
  | none =>
    rw [hh] at hf
    obtain ⟨h1, _⟩ := kfind_none k v clk l 0 hh
    have hg : kget l k = none := by simpa using hf.symm
    simp only [run_setMap h]
    rw [h1]
    simp [kclk, hg, entOf]
  | some r =>
    obtain ⟨j, u⟩ := r
    rw [hh] at hf
    obtain ⟨_, h2, h3⟩ := kfind_set k v clk l 0 j u hh
    rw [Nat.sub_zero] at h2 h3
    have hg : (kget l k).isSome = true := by rw [← hf]; rfl
    have hj : ((l.map entOf).toArray[j]?).map (·.key) = some (.int .i64 k) := by simpa using h2
    simp only [hj, Option.getD_some, Instr.keyThatStays, Instr.sameBits, beq_self_eq_true, Bool.and_self, if_true, Sem.run_pure, Result.andThen_ok, run_setMap h, Sem.run_bind, Option.map_some]
    simp only [kclk, hg, if_true]
    have : (l.map entOf).toArray.modify j (fun e => { e with key := .int .i64 k, val := v }) = ((kset l k v clk).map entOf).toArray := by
      rw [← h3]; simp
    rw [this]

theorem run_delete_imap (ht : P.underlying t = some (.map kt et)) (hk : P.underlying kt = some (.int .i64)) (h : IMap w M l clk) (k : Int) (ty : TypeId) :
    (Builtin.delete_ #[t, kt] ty #[.map (some M), .int .i64 k]).run P w = .ok (.tuple #[]) (World.put w M (mapObj (kdel l k) clk)) := by
  unfold Builtin.delete_
  simp only [List.getElem?_toArray, List.getElem?_cons_zero, List.getElem?_cons_succ, Sem.run_bind, run_underlying ht, Result.andThen_ok, Sem.run_pure, run_getMap h, mapObj, run_checkKey_int hk, run_findKey_int hk, List.toList_toArray]
  cases hh : kfind l k 0 with
  | none =>
    obtain ⟨_, h1⟩ := kfind_none k (.bool true) clk l 0 hh
    simp only [run_setMap h, Result.andThen_ok, Sem.run_bind, Sem.run_pure]
    rw [h1]
  | some r =>
    obtain ⟨j, u⟩ := r
    obtain ⟨_, h3⟩ := kfind_del k l 0 j u hh
    rw [Nat.sub_zero] at h3
    simp only [run_setMap h, Result.andThen_ok, Sem.run_bind, Sem.run_pure]
    have : (l.map entOf).toArray.eraseIdxIfInBounds j = ((kdel l k).map entOf).toArray := by
      rw [← h3]; simp
    rw [this]

/-! ### A range over such a map, whose rounds strike what they have met -/
/-- An iterator over map M; no entry that is there has been met yet. -/
def IIter (w : World) (I M : Nat) (l : List KV) (clk : Nat) : Prop :=
  ∃ seen, w.heap[I]? = some (.mapIter (some M) clk seen clk) ∧ ∀ p ∈ l, p.2.2 < clk ∧ ¬ p.2.2 ∈ seen.toList

theorem run_range_imap (ht : P.underlying t = some (.map kt et)) (h : IMap w M l clk) (hc : ∀ p ∈ l, p.2.2 < clk) :
    (Instr.range t (.map (some M))).run P w = .ok (.pointer (some ⟨w.heap.size, 0, none⟩)) (w.alloc (.mapIter (some M) clk #[] clk)) ∧ IIter (w.alloc (.mapIter (some M) clk #[] clk)) w.heap.size M l clk := by
  refine ⟨?_, #[], heap_alloc_new w _, fun p hp => ⟨hc p hp, by simp⟩⟩
  unfold Instr.range
  simp only [Sem.run_bind, run_underlying ht, Result.andThen_ok, Sem.run_pure, run_getMap h, mapObj]
  rfl

theorem next_left (es : Array MapEntry) (seen : Array Nat) (clk : Nat) (h : ∀ e ∈ es, e.born < clk ∧ seen.contains e.born = false) :
    es.filter (fun e => !seen.contains e.born) = es ∧ es.filter (fun e => decide (e.born < clk)) = es ∧ es.filter (fun e => decide (e.born ≥ clk)) = #[] := by
  refine ⟨Array.filter_eq_self.2 fun e he => (by have := (h e he).2; simpa using this), Array.filter_eq_self.2 fun e he => by simp [(h e he).1], Array.filter_eq_empty_iff.2 fun e he => ?_⟩
  have := (h e he).1
  simp
  omega

/-- A step: there is none left; or some entry that is there comes. -/
theorem run_next_imap (h : IMap w M l clk) {I : Nat} (hi : IIter w I M l clk) (ty : TypeId) :
    (l = [] ∧ (Instr.next (.pointer (some ⟨I, 0, none⟩)) false ty).run P w = .ok (.tuple #[.bool false]) w) ∨
    ∃ p w', p ∈ l ∧ (Instr.next (.pointer (some ⟨I, 0, none⟩)) false ty).run P w = .ok (.tuple #[.bool true, .int .i64 p.1, p.2.1]) w' ∧
      (∃ seen, w'.heap = w.heap.setIfInBounds I (.mapIter (some M) clk seen clk) ∧ seen.back? = some p.2.2 ∧ ∀ q ∈ l, q.2.2 ≠ p.2.2 → ¬ q.2.2 ∈ seen.toList) ∧
      w'.os = w.os ∧ w'.tape = w.tape ∧ w'.output = w.output := by
  obtain ⟨seen, hI, hl⟩ := hi
  have hgi : (getObj I).run P w = .ok (.mapIter (some M) clk seen clk) w := by simp [getObj, Sem.run, hI]
  have hes : ∀ e ∈ (l.map entOf).toArray, e.born < clk ∧ seen.contains e.born = false := by
    intro e he
    simp only [List.mem_toArray, List.mem_map] at he
    obtain ⟨p, hp, rfl⟩ := he
    obtain ⟨h1, h2⟩ := hl p hp
    refine ⟨h1, ?_⟩
    rw [Bool.eq_false_iff]
    intro hh
    exact h2 (by simpa [entOf] using hh)
  obtain ⟨f1, f2, f3⟩ := next_left _ seen clk hes
  have hall : l ≠ [] → ((l.map entOf).toArray.all fun e => decide (e.born ≥ clk)) = false := by
    intro h0
    obtain ⟨p0, hp0⟩ := List.exists_mem_of_ne_nil l h0
    rw [Bool.eq_false_iff]
    intro hh
    rw [Array.all_eq_true_iff_forall_mem] at hh
    have := hh (entOf p0) (by simp; exact ⟨_, _, _, hp0, rfl⟩)
    have h1 := (hl p0 hp0).1
    simp [entOf] at this
    omega
  unfold Instr.next
  simp only [Sem.run_bind, hgi, Result.andThen_ok, run_getMap h, mapObj, f1, f2, f3, Array.append_empty]
  by_cases h0 : l = []
  · subst h0
    left
    refine ⟨rfl, ?_⟩
    simp [choose, Sem.run, Question.forced]
  right
  rw [hall h0]
  have hemp : (l.map entOf).toArray.isEmpty = false := by
    cases l with
    | nil => exact absurd rfl h0
    | cons p r => rfl
  simp only [hemp, Bool.and_false, Bool.false_eq_true, if_false, Array.empty_append, Array.size_map, List.size_toArray, List.length_map]
  have hpos : 0 < l.length := by cases l with | nil => exact absurd rfl h0 | cons p r => simp
  obtain ⟨j, w1, hj, hw1, hch⟩ : ∃ (j : Nat) (w1 : World), j < l.length ∧ (w1 = w ∨ w1 = w.drew) ∧ (choose (Question.mapNext l.length)).run P w = .ok j w1 := by
    rw [run_choose]
    by_cases hf : (Question.mapNext l.length).forced = true
    · exact ⟨0, w, hpos, .inl rfl, by rw [if_pos hf]⟩
    · exact ⟨_, w.drew, Nat.mod_lt _ hpos, .inr rfl, by rw [if_neg hf]; rfl⟩
  have hwh : w1.heap = w.heap := by rcases hw1 with rfl | rfl <;> rfl
  have hset : ∀ o : Obj, (setObj I o).run P w1 = .ok () (World.put w1 I o) := by
    intro o
    have hI1 : w1.heap[I]? = some (.mapIter (some M) clk seen clk) := by rw [hwh]; exact hI
    simp [setObj, Sem.run, hI1, World.put]
  obtain ⟨p, hp⟩ : ∃ p, l[j]? = some p := ⟨l[j], List.getElem?_eq_getElem hj⟩
  have hat : (Array.map some (List.map entOf l).toArray)[j]? = some (some (entOf p)) := by simp [hp]
  refine ⟨p, World.put w1 I (.mapIter (some M) clk (seen.push p.2.2) clk), List.mem_of_getElem? hp, ?_, ⟨seen.push p.2.2, by simp [World.put, hwh], by simp, fun q hq hne => ?_⟩, ?_, ?_, ?_⟩
  · rw [Sem.run_bind, hch]
    simp only [Result.andThen_ok, hat, Sem.run_bind, hset, Sem.run_pure]
    rfl
  · have := (hl q hq).2
    simp only [Array.toList_push, List.mem_append, List.mem_singleton, not_or]
    exact ⟨this, hne⟩
  · rcases hw1 with rfl | rfl <;> rfl
  · rcases hw1 with rfl | rfl <;> rfl
  · rcases hw1 with rfl | rfl <;> rfl

/-- What has come, asked for. -/
theorem run_entry_imap {I : Nat} {seen : Array Nat} (h : IMap w M l clk) (hI : w.heap[I]? = some (.mapIter (some M) clk seen clk)) {p : KV} (hs : seen.back? = some p.2.2) (hp : p ∈ l) (hb : ∀ q ∈ l, q.2.2 = p.2.2 → q = p) :
    (Instr.entry (.pointer (some ⟨I, 0, none⟩))).run P w = .ok (.tuple #[.int .i64 p.1, p.2.1]) w := by
  have hgi : (getObj I).run P w = .ok (.mapIter (some M) clk seen clk) w := by simp [getObj, Sem.run, hI]
  have hf : (l.map entOf).toArray.find? (fun e => e.born == p.2.2) = some (entOf p) := by
    rw [List.find?_toArray, List.find?_map]
    have : l.find? ((fun e : MapEntry => e.born == p.2.2) ∘ entOf) = some p := by
      cases hh : l.find? ((fun e : MapEntry => e.born == p.2.2) ∘ entOf) with
      | none =>
        rw [List.find?_eq_none] at hh
        exact absurd (by simp [entOf]) (hh p hp)
      | some q =>
        have h1 := List.find?_some hh
        have h2 := List.mem_of_find?_eq_some hh
        rw [hb q h2 (by simpa [entOf] using h1)]
    rw [this]; rfl
  unfold Instr.entry
  simp only [Sem.run_bind, hgi, Result.andThen_ok, hs, run_getMap h, mapObj, bne_self_eq_false, Bool.false_eq_true, if_false, hf, Sem.run_pure]
  rfl

/-! ### A map is written -/
theorem put_other (w : World) (M : Nat) (o : Obj) (k : Nat) (h : k ≠ M) : (World.put w M o).heap[k]? = w.heap[k]? := by
  simp only [World.put, Array.getElem?_setIfInBounds]
  rw [if_neg (fun e => h e.symm)]
theorem put_size (w : World) (M : Nat) (o : Obj) : (World.put w M o).heap.size = w.heap.size := by simp [World.put]
theorem IMap.put (h : IMap w M l clk) (l' : List KV) (c' : Nat) : IMap (World.put w M (mapObj l' c')) M l' c' := by
  unfold IMap
  simp only [World.put, Array.getElem?_setIfInBounds]
  rw [if_pos trivial, if_pos h.lt]
theorem put_below {B : Nat} (w : World) (M : Nat) (o : Obj) (h : B ≤ M) : Below B w (World.put w M o) :=
  ⟨rfl, rfl, rfl, by rw [put_size]; exact Nat.le_refl _, fun k hk => put_other _ _ _ _ (by omega)⟩
theorem put_grown (w : World) (M : Nat) (o : Obj) : w.grownBy (World.put w M o) (some M) :=
  ⟨rfl, rfl, rfl, by rw [put_size]; exact Nat.le_refl _, fun k _ hk => put_other _ _ _ _ (fun e => hk (by rw [e]))⟩
/-- A map's block bears no cells. -/
theorem IMap.no_cells (h : IMap w M l clk) {k : Nat} {cells : Array Value} {e : TypeId} {f : Nat × Nat} (hk : w.heap[k]? = some (.cells cells e f)) : k ≠ M := by
  rintro rfl
  unfold IMap mapObj at h
  rw [h] at hk
  cases hk

theorem Own.put {α : Type} {d : Rep α} {e : TypeId} {B : Nat} {v : Value} {xs : List α} (h : Own d e 0 B w v xs) (hm : IMap w M l clk) (o : Obj) : Own d e 0 B (World.put w M o) v xs :=
  h.keep fun k hk h2 => by
    rcases h2 with h2 | h2 | ⟨c, t, _, h5⟩
    · omega
    · obtain ⟨_, _, cells, hh⟩ := h.block k h2
      exact put_other _ _ _ _ (hm.no_cells hh)
    · exact put_other _ _ _ _ (hm.no_cells h5)
theorem Blk.put {g : Nat} {t : TypeId} {cs : Array Value} (h : Blk w g t cs) (hm : IMap w M l clk) (o : Obj) : Blk (World.put w M o) g t cs := h.keep (put_other _ _ _ _ (hm.no_cells h))

theorem cell_put (hm : IMap w M l clk) {a : Addr} {v : Value} (hc : w.cell? a = some v) (o : Obj) : (World.put w M o).cell? a = some v := by
  refine (World.cell?_of_block (put_other _ _ _ _ (fun e => ?_))).trans hc
  unfold IMap mapObj at hm
  unfold World.cell? at hc
  rw [e, hm] at hc
  cases hc

/-! ### What entries do -/
theorem mem_kdel {k : Int} {p : KV} : ∀ {l : List KV}, p ∈ kdel l k → p ∈ l
  | [], h => h
  | q :: r, h => by
    unfold kdel at h
    split at h
    · exact List.mem_cons_of_mem _ h
    · rcases List.mem_cons.1 h with rfl | h
      · exact List.mem_cons_self
      · exact List.mem_cons_of_mem _ (mem_kdel h)
/-- No key twice, no birth twice. -/
def KOk (l : List KV) (clk : Nat) : Prop := (l.map (·.1)).Nodup ∧ (l.map (·.2.2)).Nodup ∧ ∀ p ∈ l, p.2.2 < clk
theorem KOk.nil : KOk [] 0 := ⟨by simp, by simp, by simp⟩
theorem kdel_sub (k : Int) : ∀ l : List KV, (kdel l k).Sublist l
  | [] => List.Sublist.slnil
  | q :: r => by
    unfold kdel
    split
    · exact List.sublist_cons_self _ _
    · exact (kdel_sub k r).cons_cons q
theorem KOk.del {clk : Nat} {l : List KV} (h : KOk l clk) (k : Int) : KOk (kdel l k) clk :=
  ⟨h.1.sublist ((kdel_sub k l).map _), h.2.1.sublist ((kdel_sub k l).map _), fun p hp => h.2.2 p (mem_kdel hp)⟩
theorem kget_none {k : Int} : ∀ {l : List KV}, kget l k = none ↔ ∀ p ∈ l, p.1 ≠ k
  | [] => by simp [kget]
  | q :: r => by
    unfold kget
    by_cases h : q.1 = k
    · rw [if_pos h]; simp [h]
    · rw [if_neg h, kget_none]; simp [h]
theorem kget_mem {k : Int} {v : Value} : ∀ {l : List KV}, kget l k = some v → ∃ c, (k, v, c) ∈ l
  | [], h => by cases h
  | q :: r, h => by
    unfold kget at h
    by_cases hq : q.1 = k
    · rw [if_pos hq] at h
      obtain ⟨q1, q2, q3⟩ := q
      simp only at hq h
      cases h
      subst hq
      exact ⟨q3, List.mem_cons_self⟩
    · rw [if_neg hq] at h
      obtain ⟨c, hc⟩ := kget_mem h
      exact ⟨c, List.mem_cons_of_mem _ hc⟩
theorem kget_of_mem {k : Int} {v : Value} {c : Nat} : ∀ {l : List KV}, (l.map (·.1)).Nodup → (k, v, c) ∈ l → kget l k = some v
  | [], _, h => by cases h
  | q :: r, hn, h => by
    rw [List.map_cons, List.nodup_cons] at hn
    unfold kget
    rcases List.mem_cons.1 h with rfl | h
    · rw [if_pos rfl]
    · rw [if_neg (fun e => hn.1 (by rw [e]; exact List.mem_map.2 ⟨_, h, rfl⟩))]
      exact kget_of_mem hn.2 h
theorem kget_set (k : Int) (v : Value) (c : Nat) (k' : Int) : ∀ l : List KV, kget (kset l k v c) k' = if k' = k then some v else kget l k'
  | [] => by
    unfold kset
    simp only [kget]
    by_cases h : k' = k
    · rw [if_pos h.symm, if_pos h]
    · rw [if_neg (fun e => h e.symm), if_neg h]
  | q :: r => by
    unfold kset
    by_cases hq : q.1 = k
    · rw [if_pos hq]
      simp only [kget]
      by_cases h : k' = k
      · rw [if_pos h.symm, if_pos h]
      · rw [if_neg (fun e => h e.symm), if_neg h, if_neg (fun e => h (by rw [← e, hq]))]
    · rw [if_neg hq]
      simp only [kget]
      by_cases h : q.1 = k'
      · rw [if_pos h, if_pos h, if_neg (fun e => hq (by rw [h, e]))]
      · rw [if_neg h, if_neg h, kget_set k v c k' r]
theorem kget_del (k k' : Int) : ∀ l : List KV, (l.map (·.1)).Nodup → kget (kdel l k) k' = if k' = k then none else kget l k'
  | [], _ => by simp [kdel, kget]
  | q :: r, hn => by
    rw [List.map_cons, List.nodup_cons] at hn
    unfold kdel
    by_cases hq : q.1 = k
    · rw [if_pos hq]
      by_cases h : k' = k
      · rw [if_pos h, h]
        exact kget_none.2 fun p hp e => hn.1 (by rw [hq, ← e]; exact List.mem_map.2 ⟨p, hp, rfl⟩)
      · rw [if_neg h]
        conv => rhs; unfold kget
        rw [if_neg (fun e => h (by rw [← e, hq]))]
    · rw [if_neg hq]
      simp only [kget]
      by_cases h : q.1 = k'
      · rw [if_pos h, if_pos h, if_neg (fun e => hq (by rw [h, e]))]
      · rw [if_neg h, if_neg h, kget_del k k' r hn.2]
theorem kset_keys (k : Int) (v : Value) (c : Nat) : ∀ l : List KV, (kset l k v c).map (·.1) = if (kget l k).isSome then l.map (·.1) else l.map (·.1) ++ [k]
  | [] => by simp [kset, kget]
  | q :: r => by
    unfold kset kget
    by_cases hq : q.1 = k
    · rw [if_pos hq, if_pos hq]; simp [hq]
    · rw [if_neg hq, if_neg hq, List.map_cons, kset_keys k v c r]
      split <;> simp
theorem kset_borns (k : Int) (v : Value) (c : Nat) : ∀ l : List KV, (kset l k v c).map (·.2.2) = if (kget l k).isSome then l.map (·.2.2) else l.map (·.2.2) ++ [c]
  | [] => by simp [kset, kget]
  | q :: r => by
    unfold kset kget
    by_cases hq : q.1 = k
    · rw [if_pos hq, if_pos hq]; simp
    · rw [if_neg hq, if_neg hq, List.map_cons, kset_borns k v c r]
      split <;> simp
theorem KOk.set {clk : Nat} {l : List KV} (h : KOk l clk) (k : Int) (v : Value) : KOk (kset l k v clk) (kclk l k clk) := by
  obtain ⟨h1, h2, h3⟩ := h
  cases hg : (kget l k).isSome with
  | true =>
    have e1 := kset_keys k v clk l
    have e2 := kset_borns k v clk l
    rw [hg, if_pos rfl] at e1 e2
    refine ⟨by rw [e1]; exact h1, by rw [e2]; exact h2, fun p hp => ?_⟩
    have : p.2.2 ∈ (kset l k v clk).map (·.2.2) := List.mem_map.2 ⟨p, hp, rfl⟩
    rw [e2] at this
    obtain ⟨q, hq, e⟩ := List.mem_map.1 this
    have := h3 q hq
    unfold kclk
    rw [hg, if_pos rfl]
    omega
  | false =>
    have e1 := kset_keys k v clk l
    have e2 := kset_borns k v clk l
    rw [hg] at e1 e2
    simp only [Bool.false_eq_true, if_false] at e1 e2
    have hno : kget l k = none := by simpa using hg
    refine ⟨?_, ?_, fun p hp => ?_⟩
    · rw [e1, List.nodup_append]
      refine ⟨h1, by simp, fun a ha b hb => ?_⟩
      rw [List.mem_singleton] at hb
      subst hb
      obtain ⟨q, hq, e⟩ := List.mem_map.1 ha
      rw [← e]
      exact kget_none.1 hno q hq
    · rw [e2, List.nodup_append]
      refine ⟨h2, by simp, fun a ha b hb => ?_⟩
      rw [List.mem_singleton] at hb
      subst hb
      obtain ⟨q, hq, e⟩ := List.mem_map.1 ha
      have := h3 q hq
      omega
    · have : p.2.2 ∈ (kset l k v clk).map (·.2.2) := List.mem_map.2 ⟨p, hp, rfl⟩
      rw [e2] at this
      unfold kclk
      rw [hg]
      simp only [Bool.false_eq_true, if_false]
      rcases List.mem_append.1 this with this | this
      · obtain ⟨q, hq, e⟩ := List.mem_map.1 this
        have := h3 q hq
        omega
      · rw [List.mem_singleton] at this
        omega
theorem KOk.born {clk : Nat} {l : List KV} (h : KOk l clk) {p q : KV} (hp : p ∈ l) (hq : q ∈ l) (e : q.2.2 = p.2.2) : q = p := by
  have h2 := h.2.1
  clear h
  induction l with
  | nil => cases hp
  | cons x r ih =>
    rw [List.map_cons, List.nodup_cons] at h2
    rcases List.mem_cons.1 hp with rfl | hp' <;> rcases List.mem_cons.1 hq with rfl | hq'
    · rfl
    · exact absurd (List.mem_map.2 ⟨q, hq', e⟩) h2.1
    · exact absurd (List.mem_map.2 ⟨p, hp', e.symm⟩) h2.1
    · exact ih hp' hq' h2.2
end
end Go.Proofs.Ytgljmflcbdhigaa
