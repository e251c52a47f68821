/- slices.Clone at the rows of a system. Printed by genClone.py. -/
import Derived.Test.YtgljmflcbdhigaaCfg
import Derived.WalkSpells
set_option linter.unusedVariables false
set_option linter.unusedSimpArgs false
namespace Go.Proofs.Ytgljmflcbdhigaa
open Go.RowKit

theorem info_W : (Try.prog.info? 154).map (fun i => (i.zero, i.size, i.bytes)) = some (some (.agg #[.int .i64 0, .int .i64 0, .int .i64 0]), 3, 24) := by kernel_rfl

set_option maxHeartbeats 1000000 in
theorem clone_W (B : Nat) (A : Option Addr) (c : Nat) (l : List WinD) (w : World) (hl : Slc repW 154 B w l A c) (hn : l.length ≤ 1000) (hB : B ≤ w.heap.size) :
    Calls Try.prog 86 #[.slice A l.length c] w fun e w' => ∃ v, e = .returned v ∧ Own repW 154 0 w.heap.size w' v l ∧ Below w.heap.size w w' := by
  obtain ⟨n, hn'⟩ : ∃ n, l.length = n := ⟨_, rfl⟩
  have Hl := Lib.hid hl
  have heq : ∀ A' n' c' W, (binOp .eql 67 (.slice A' n' c') (.slice none 0 0)).run Try.prog W = .ok (.bool A'.isNone) W := fun A' n' c' W => Lib.run_eql_slice_nil W 67 154 A' n' c' 0 0 Try.underlying67
  have he := heq A l.length c
  clear heq hl
  rw [hn'] at he hn ⊢
  have Hn := Lib.hid hn'
  clear hn'
  cases A with
  | none =>
    have e : l = [] := by have h := Hl.out; have h1 := h.nil rfl; exact List.eq_nil_of_length_eq_zero (by have := h.le; omega)
    have E := Lib.hid e
    clear e
    go_enter Try.func86, Try.ntmps86
    go_wp2
    go_ret
    exact ⟨_, rfl, by rw [E.out]; exact Own.nil, Below.refl _ _⟩
  | some ad =>
    have own0 := (Own.empty (d := repW) (e := 154) (B0 := B) (B := w.heap.size) (w := w) (Nat.le_refl _))
    have hb0 : Below w.heap.size w (w.alloc (.cells #[] 154)) := (Below.refl _ _).alloc (Nat.le_refl _) _
    have Hown := Lib.hid own0
    clear own0
    go_enter Try.func86, Try.ntmps86
    go_wp2_with (at_builtin; (refine wpList_append_row rfl (.tmp 5) (.tmp 6) 67 rfl repW 154 B w.heap.size (by kernel_rfl) info_W (by decide) (by decide) (by decide) _ [] ?_ Hown.out (some ad) c l ?_ (fun h => by cases h) (by have := Hl.out.le; exact this) (Hl.out.row.keep fun j hj _ => hb0.block j hj) hB ?_ ?_ ?_ ?_; (· rfl); (· simp only [← Hn.out]; rfl); (· rw [Hn.out]; simp; omega); (· rw [Hn.out]; simp; omega); (· simp)); intro v' w3 hown' hg hat)
    have hb3 : Below w.heap.size w w3 := hb0.grown hg hb0.size (fun k hk => by simp [Value.ownBlock] at hk; omega)
    have hown2 : Own repW 154 0 w.heap.size w3 v' l := hown'
    go_wp2
    go_ret
    exact ⟨_, rfl, hown2, hb3⟩
theorem info_C : (Try.prog.info? 157).map (fun i => (i.zero, i.size, i.bytes)) = some (some (.agg #[.bool false, .int .i64 0, .int .i64 0, .int .i64 0]), 4, 32) := by kernel_rfl

set_option maxHeartbeats 1000000 in
theorem clone_C (B : Nat) (A : Option Addr) (c : Nat) (l : List ChanD) (w : World) (hl : Slc repC 157 B w l A c) (hn : l.length ≤ 1000) (hB : B ≤ w.heap.size) :
    Calls Try.prog 87 #[.slice A l.length c] w fun e w' => ∃ v, e = .returned v ∧ Own repC 157 0 w.heap.size w' v l ∧ Below w.heap.size w w' := by
  obtain ⟨n, hn'⟩ : ∃ n, l.length = n := ⟨_, rfl⟩
  have Hl := Lib.hid hl
  have heq : ∀ A' n' c' W, (binOp .eql 69 (.slice A' n' c') (.slice none 0 0)).run Try.prog W = .ok (.bool A'.isNone) W := fun A' n' c' W => Lib.run_eql_slice_nil W 69 157 A' n' c' 0 0 Try.underlying69
  have he := heq A l.length c
  clear heq hl
  rw [hn'] at he hn ⊢
  have Hn := Lib.hid hn'
  clear hn'
  cases A with
  | none =>
    have e : l = [] := by have h := Hl.out; have h1 := h.nil rfl; exact List.eq_nil_of_length_eq_zero (by have := h.le; omega)
    have E := Lib.hid e
    clear e
    go_enter Try.func87, Try.ntmps87
    go_wp2
    go_ret
    exact ⟨_, rfl, by rw [E.out]; exact Own.nil, Below.refl _ _⟩
  | some ad =>
    have own0 := (Own.empty (d := repC) (e := 157) (B0 := B) (B := w.heap.size) (w := w) (Nat.le_refl _))
    have hb0 : Below w.heap.size w (w.alloc (.cells #[] 157)) := (Below.refl _ _).alloc (Nat.le_refl _) _
    have Hown := Lib.hid own0
    clear own0
    go_enter Try.func87, Try.ntmps87
    go_wp2_with (at_builtin; (refine wpList_append_row rfl (.tmp 5) (.tmp 6) 69 rfl repC 157 B w.heap.size (by kernel_rfl) info_C (by decide) (by decide) (by decide) _ [] ?_ Hown.out (some ad) c l ?_ (fun h => by cases h) (by have := Hl.out.le; exact this) (Hl.out.row.keep fun j hj _ => hb0.block j hj) hB ?_ ?_ ?_ ?_; (· rfl); (· simp only [← Hn.out]; rfl); (· rw [Hn.out]; simp; omega); (· rw [Hn.out]; simp; omega); (· simp)); intro v' w3 hown' hg hat)
    have hb3 : Below w.heap.size w w3 := hb0.grown hg hb0.size (fun k hk => by simp [Value.ownBlock] at hk; omega)
    have hown2 : Own repC 157 0 w.heap.size w3 v' l := hown'
    go_wp2
    go_ret
    exact ⟨_, rfl, hown2, hb3⟩

set_option maxHeartbeats 1000000 in
theorem clone_T (B : Nat) (A : Option Addr) (c : Nat) (l : List TaskD) (w : World) (hl : Slc repT 139 B w l A c) (hn : l.length ≤ 1000) (hB : B ≤ w.heap.size) :
    Calls Try.prog 88 #[.slice A l.length c] w fun e w' => ∃ v, e = .returned v ∧ Own repT 139 0 w.heap.size w' v l ∧ Below w.heap.size w w' := by
  obtain ⟨n, hn'⟩ : ∃ n, l.length = n := ⟨_, rfl⟩
  have Hl := Lib.hid hl
  have heq : ∀ A' n' c' W, (binOp .eql 49 (.slice A' n' c') (.slice none 0 0)).run Try.prog W = .ok (.bool A'.isNone) W := fun A' n' c' W => Lib.run_eql_slice_nil W 49 139 A' n' c' 0 0 Try.underlying49
  have he := heq A l.length c
  clear heq hl
  rw [hn'] at he hn ⊢
  have Hn := Lib.hid hn'
  clear hn'
  cases A with
  | none =>
    have e : l = [] := by have h := Hl.out; have h1 := h.nil rfl; exact List.eq_nil_of_length_eq_zero (by have := h.le; omega)
    have E := Lib.hid e
    clear e
    go_enter Try.func88, Try.ntmps88
    go_wp2
    go_ret
    exact ⟨_, rfl, by rw [E.out]; exact Own.nil, Below.refl _ _⟩
  | some ad =>
    have own0 := (Own.empty (d := repT) (e := 139) (B0 := B) (B := w.heap.size) (w := w) (Nat.le_refl _))
    have hb0 : Below w.heap.size w (w.alloc (.cells #[] 139)) := (Below.refl _ _).alloc (Nat.le_refl _) _
    have Hown := Lib.hid own0
    clear own0
    go_enter Try.func88, Try.ntmps88
    go_wp2_with (at_builtin; (refine wpList_append_row rfl (.tmp 5) (.tmp 6) 49 rfl repT 139 B w.heap.size (by kernel_rfl) info_T (by decide) (by decide) (by decide) _ [] ?_ Hown.out (some ad) c l ?_ (fun h => by cases h) (by have := Hl.out.le; exact this) (Hl.out.row.keep fun j hj _ => hb0.block j hj) hB ?_ ?_ ?_ ?_; (· rfl); (· simp only [← Hn.out]; rfl); (· rw [Hn.out]; simp; omega); (· rw [Hn.out]; simp; omega); (· simp)); intro v' w3 hown' hg hat)
    have hb3 : Below w.heap.size w w3 := hb0.grown hg hb0.size (fun k hk => by simp [Value.ownBlock] at hk; omega)
    have hown2 : Own repT 139 0 w.heap.size w3 v' l := hown'
    go_wp2
    go_ret
    exact ⟨_, rfl, hown2, hb3⟩

set_option maxHeartbeats 1000000 in
theorem clone_S (B : Nat) (A : Option Addr) (c : Nat) (l : List Srv) (w : World) (hl : Slc repS 37 B w l A c) (hn : l.length ≤ 1000) (hB : B ≤ w.heap.size) :
    Calls Try.prog 89 #[.slice A l.length c] w fun e w' => ∃ v, e = .returned v ∧ Own repS 37 0 w.heap.size w' v l ∧ Below w.heap.size w w' := by
  obtain ⟨n, hn'⟩ : ∃ n, l.length = n := ⟨_, rfl⟩
  have Hl := Lib.hid hl
  have heq : ∀ A' n' c' W, (binOp .eql 50 (.slice A' n' c') (.slice none 0 0)).run Try.prog W = .ok (.bool A'.isNone) W := fun A' n' c' W => Lib.run_eql_slice_nil W 50 37 A' n' c' 0 0 Try.underlying50
  have he := heq A l.length c
  clear heq hl
  rw [hn'] at he hn ⊢
  have Hn := Lib.hid hn'
  clear hn'
  cases A with
  | none =>
    have e : l = [] := by have h := Hl.out; have h1 := h.nil rfl; exact List.eq_nil_of_length_eq_zero (by have := h.le; omega)
    have E := Lib.hid e
    clear e
    go_enter Try.func89, Try.ntmps89
    go_wp2
    go_ret
    exact ⟨_, rfl, by rw [E.out]; exact Own.nil, Below.refl _ _⟩
  | some ad =>
    have own0 := (Own.empty (d := repS) (e := 37) (B0 := B) (B := w.heap.size) (w := w) (Nat.le_refl _))
    have hb0 : Below w.heap.size w (w.alloc (.cells #[] 37)) := (Below.refl _ _).alloc (Nat.le_refl _) _
    have Hown := Lib.hid own0
    clear own0
    go_enter Try.func89, Try.ntmps89
    go_wp2_with (at_builtin; (refine wpList_append_row rfl (.tmp 5) (.tmp 6) 50 rfl repS 37 B w.heap.size (by kernel_rfl) info_S (by decide) (by decide) (by decide) _ [] ?_ Hown.out (some ad) c l ?_ (fun h => by cases h) (by have := Hl.out.le; exact this) (Hl.out.row.keep fun j hj _ => hb0.block j hj) hB ?_ ?_ ?_ ?_; (· rfl); (· simp only [← Hn.out]; rfl); (· rw [Hn.out]; simp; omega); (· rw [Hn.out]; simp; omega); (· simp)); intro v' w3 hown' hg hat)
    have hb3 : Below w.heap.size w w3 := hb0.grown hg hb0.size (fun k hk => by simp [Value.ownBlock] at hk; omega)
    have hown2 : Own repS 37 0 w.heap.size w3 v' l := hown'
    go_wp2
    go_ret
    exact ⟨_, rfl, hown2, hb3⟩

set_option maxHeartbeats 1000000 in
theorem clone_I (B : Nat) (A : Option Addr) (c : Nat) (l : List Int) (w : World) (hl : Slc repI 3 B w l A c) (hn : l.length ≤ 1000) (hB : B ≤ w.heap.size) :
    Calls Try.prog 90 #[.slice A l.length c] w fun e w' => ∃ v, e = .returned v ∧ Own repI 3 0 w.heap.size w' v l ∧ Below w.heap.size w w' := by
  obtain ⟨n, hn'⟩ : ∃ n, l.length = n := ⟨_, rfl⟩
  have Hl := Lib.hid hl
  have heq : ∀ A' n' c' W, (binOp .eql 42 (.slice A' n' c') (.slice none 0 0)).run Try.prog W = .ok (.bool A'.isNone) W := fun A' n' c' W => Lib.run_eql_slice_nil W 42 3 A' n' c' 0 0 Try.underlying42
  have he := heq A l.length c
  clear heq hl
  rw [hn'] at he hn ⊢
  have Hn := Lib.hid hn'
  clear hn'
  cases A with
  | none =>
    have e : l = [] := by have h := Hl.out; have h1 := h.nil rfl; exact List.eq_nil_of_length_eq_zero (by have := h.le; omega)
    have E := Lib.hid e
    clear e
    go_enter Try.func90, Try.ntmps90
    go_wp2
    go_ret
    exact ⟨_, rfl, by rw [E.out]; exact Own.nil, Below.refl _ _⟩
  | some ad =>
    have own0 := (Own.empty (d := repI) (e := 3) (B0 := B) (B := w.heap.size) (w := w) (Nat.le_refl _))
    have hb0 : Below w.heap.size w (w.alloc (.cells #[] 3)) := (Below.refl _ _).alloc (Nat.le_refl _) _
    have Hown := Lib.hid own0
    clear own0
    go_enter Try.func90, Try.ntmps90
    go_wp2_with (at_builtin; (refine wpList_append_row rfl (.tmp 5) (.tmp 6) 42 rfl repI 3 B w.heap.size (by kernel_rfl) info_I (by decide) (by decide) (by decide) _ [] ?_ Hown.out (some ad) c l ?_ (fun h => by cases h) (by have := Hl.out.le; exact this) (Hl.out.row.keep fun j hj _ => hb0.block j hj) hB ?_ ?_ ?_ ?_; (· rfl); (· simp only [← Hn.out]; rfl); (· rw [Hn.out]; simp; omega); (· rw [Hn.out]; simp; omega); (· simp)); intro v' w3 hown' hg hat)
    have hb3 : Below w.heap.size w w3 := hb0.grown hg hb0.size (fun k hk => by simp [Value.ownBlock] at hk; omega)
    have hown2 : Own repI 3 0 w.heap.size w3 v' l := hown'
    go_wp2
    go_ret
    exact ⟨_, rfl, hown2, hb3⟩
end Go.Proofs.Ytgljmflcbdhigaa
