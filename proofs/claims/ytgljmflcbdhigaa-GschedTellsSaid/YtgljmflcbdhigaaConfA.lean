/- Tasks that may be right; numbers within bounds; a partition's number. -/
import Derived.Test.YtgljmflcbdhigaaPart
set_option linter.unusedVariables false
set_option linter.unusedSimpArgs false
namespace Go.Proofs.Ytgljmflcbdhigaa
open Go.RowKit

theorem within_any (n a b : Int) (w : World) : Calls Try.prog 118 #[.int .i64 n, .int .i64 a, .int .i64 b] w fun e w' => e = .returned (.bool (decide (a ≤ n) && decide (n ≤ b))) ∧ w = w' := by
  by_cases h1 : a ≤ n
  · by_cases h2 : n ≤ b
    · go_enter Try.func118, Try.ntmps118
      go_wp2
      go_ret
      exact ⟨ret_b (by simp [h1, h2]), rfl⟩
    · go_enter Try.func118, Try.ntmps118
      go_wp2
      go_ret
      exact ⟨ret_b (by have : ¬ n ≤ b := by omega
                       simp [this]), rfl⟩
  · go_enter Try.func118, Try.ntmps118
    go_wp2
    go_ret
    exact ⟨ret_b (by have : ¬ a ≤ n := by omega
                     simp [this]), rfl⟩

def TaskD.right (x : TaskD) : Bool := sortedD [1, x.lo, x.v, x.d, x.t, 1000] && sortedD [x.lo, x.top, x.d] && (x.hi || (decide (x.v = x.d) && decide (x.top = x.lo)))

set_option maxHeartbeats 1000000 in
theorem taskRight_any (x : TaskD) (w : World) : Calls Try.prog 115 #[.agg #[.bool x.hi, .int .i64 x.t, .int .i64 x.d, .int .i64 x.v, .int .i64 x.lo, .int .i64 x.top]] w fun e w' => e = .returned (.bool x.right) ∧ Below w.heap.size w w' := by
  obtain ⟨hi, t, d, v, lo, top⟩ := x
  simp only [TaskD.right]
  go_enter Try.func115, Try.ntmps115
  go_wp2_with fail
  refine (rise_any 0 _ 6 [1, lo, v, d, t, 1000] _ (Row.ints _ _ _ _ _ (by simp)) (by simp)).mono ?_
  generalize hs1 : sortedD [1, lo, v, d, t, 1000] = s1
  rintro e w1 ⟨rfl, hd⟩
  have hbx := ((Blk.new w 139 #[.bool hi, .int .i64 t, .int .i64 d, .int .i64 v, .int .i64 lo, .int .i64 top]).alloc (.cells (([1, lo, v, d, t, 1000].map (Value.int .i64)).toArray) 3)).drawn hd
  have hb1 : Below w.heap.size w w1 := (((Below.refl _ _).alloc (Nat.le_refl _) _).alloc (by simp) _).trans (hd.below _)
  have c0 := hbx.cell 0 rfl
  have c1 := hbx.cell 1 rfl
  have c2 := hbx.cell 2 rfl
  have c3 := hbx.cell 3 rfl
  have c4 := hbx.cell 4 rfl
  have c5 := hbx.cell 5 rfl
  have H1 := Lib.hid hs1
  clear hd hs1
  cases s1 with
  | false =>
    go_wp2
    go_ret
    exact ⟨ret_b (by rw [H1.out]; rfl), hb1⟩
  | true =>
    go_wp2_with fail
    refine (rise_any 0 _ 3 [lo, top, d] _ (Row.ints _ _ _ _ _ (by simp)) (by simp)).mono ?_
    generalize hs2 : sortedD [lo, top, d] = s2
    rintro e w2 ⟨rfl, hd⟩
    have hbx2 := (hbx.alloc (.cells (([lo, top, d].map (Value.int .i64)).toArray) 3)).drawn hd
    have hb2 : Below w.heap.size w w2 := (hb1.alloc hb1.size _).trans (hd.below _)
    clear c0 c1 c2 c3 c4 c5 hd
    have H2 := Lib.hid hs2
    clear hs2
    have c0 := hbx2.cell 0 rfl
    have c2 := hbx2.cell 2 rfl
    have c3 := hbx2.cell 3 rfl
    have c4 := hbx2.cell 4 rfl
    have c5 := hbx2.cell 5 rfl
    cases s2 with
    | false =>
      go_wp2
      go_ret
      exact ⟨ret_b (by rw [H1.out, H2.out]; simp), hb2⟩
    | true =>
      cases hi with
      | true =>
        go_wp2
        go_ret
        exact ⟨ret_b (by rw [H1.out, H2.out]; simp), hb2⟩
      | false =>
        by_cases hv : v = d
        · by_cases ht : top = lo
          · subst hv ht
            go_wp2
            go_ret
            exact ⟨ret_b (by rw [H1.out, H2.out]; simp), hb2⟩
          · subst hv
            have tt : (top == lo) = false := by simp [ht]
            have Ht := Lib.hid ht
            clear ht
            go_wp2
            go_ret
            exact ⟨ret_b (by rw [H1.out, H2.out]; simp [Ht.out]), hb2⟩
        · have tv : (v == d) = false := by simp [hv]
          have Hv := Lib.hid hv
          clear hv
          go_wp2
          go_ret
          exact ⟨ret_b (by rw [H1.out, H2.out]; simp [Hv.out]), hb2⟩

set_option maxHeartbeats 2000000 in
theorem refRightTask_any (x : TaskD) (w : World) : Calls Try.prog 112 #[.agg #[.bool x.hi, .int .i64 x.t, .int .i64 x.d, .int .i64 x.v, .int .i64 x.lo, .int .i64 x.top]] w fun e w' => e = .returned (.bool x.right) ∧ Below w.heap.size w w' := by
  obtain ⟨hi, t, d, v, lo, top⟩ := x
  simp only
  cases hi <;>
  · go_enter Try.func112, Try.ntmps112
    go_wp2
    all_goals
      go_ret
      refine ⟨ret_b ?_, (Below.refl _ _).alloc (Nat.le_refl _) _⟩
      rw [Bool.eq_iff_iff]
      simp_all [TaskD.right, sortedD] <;> omega
end Go.Proofs.Ytgljmflcbdhigaa
