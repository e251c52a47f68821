/- Are they few, and right? -/
import Derived.Test.YtgljmflcbdhigaaConfA
import Derived.Test.YtgljmflcbdhigaaPart
set_option linter.unusedVariables false
set_option linter.unusedSimpArgs false
namespace Go.Proofs.Ytgljmflcbdhigaa
open Go.RowKit

set_option maxRecDepth 100000 in
theorem notRightTask_any (x : TaskD) (w : World) : Calls Try.prog 157 #[.agg #[.bool x.hi, .int .i64 x.t, .int .i64 x.d, .int .i64 x.v, .int .i64 x.lo, .int .i64 x.top]] w fun e w' => e = .returned (.bool (!x.right)) ∧ Below w.heap.size w w' := by
  go_enter Try.func157, Try.ntmps157
  go_wp2_with fail
  refine (taskRight_any x _).mono ?_
  rintro e w1 ⟨rfl, hb⟩
  go_wp2
  go_ret
  exact ⟨rfl, ((Below.refl _ _).alloc (Nat.le_refl _) _).trans (hb.mono (by simp))⟩
set_option maxRecDepth 100000 in
theorem notRightSrv_any (x : Srv) (w : World) : Calls Try.prog 159 #[.agg #[.bool x.refill, .int .i64 x.c, .int .i64 x.t]] w fun e w' => e = .returned (.bool (!x.right)) ∧ Below w.heap.size w w' := by
  go_enter Try.func159, Try.ntmps159
  go_wp2_with fail
  refine (srvRight_any x _).mono ?_
  rintro e w1 ⟨rfl, hb⟩
  go_wp2
  go_ret
  exact ⟨rfl, ((Below.refl _ _).alloc (Nat.le_refl _) _).trans (hb.mono (by simp))⟩

/-- The first place whose element is so; -1: none. -/
def indexD {α : Type} (f : α → Bool) : Nat → List α → Int
  | _, [] => -1
  | k, x :: l => if f x then (k : Int) else indexD f (k + 1) l

set_option maxHeartbeats 1000000 in
theorem indexTask_any (B : Nat) (A : Option Addr) (c : Nat) (l : List TaskD) (w : World) (hl : Row repT 139 B w A l) (hn : l.length ≤ 1000) (hB : B ≤ w.heap.size) :
    Calls Try.prog 161 #[.slice A l.length c, .func (.func 157) #[] #[]] w fun e w' => e = .returned (.int .i64 (indexD (fun x : TaskD => !x.right) 0 l)) ∧ Below w.heap.size w w' := by
  obtain ⟨n, hn'⟩ : ∃ n, l.length = n := ⟨_, rfl⟩
  rw [hn']
  have Hn := Lib.hid hn'
  rw [hn'] at hn
  clear hn'
  generalize hr : indexD (fun x : TaskD => !x.right) 0 l = r
  have Hr := Lib.hid hr
  clear hr
  go_enter Try.func161, Try.ntmps161
  go_wp2
  go_loopw [8] (fun j wr => ∃ k : Nat, k ≤ n ∧ j = .int .i64 k ∧ indexD (fun x : TaskD => !x.right) k (l.drop k) = r ∧ Below w.heap.size w wr) (fun j _ => n - (intOf j).toNat)
  case atStart => exact ⟨0, Nat.zero_le _, rfl, Hr.out, Below.refl _ _⟩
  case round =>
    obtain ⟨k, hk, rfl, he, hb⟩ := hrel
    by_cases hlt : k < n
    · have hk2 : (k : Int) < (n : Int) := by omega
      obtain ⟨ad, x, rfl, hbk, hx, h0, h1, h2, h3, h4, h5⟩ := at_T (hl.keep fun j hj _ => hb.block j hj) (k := k) (by rw [Hn.out]; omega)
      rw [drop_cons' hx, indexD] at he
      have hsz := hb.size
      obtain ⟨rt, hrt⟩ : ∃ rt, (!x.right) = rt := ⟨_, rfl⟩
      rw [hrt] at he
      have He := Lib.hid he
      have Hrt := Lib.hid hrt
      clear he hx hrt
      go_wp2_with fail
      refine (notRightTask_any x _).mono ?_
      rw [Hrt.out]
      rintro e w1 ⟨rfl, hb1⟩
      have hb2 : Below w.heap.size w w1 := hb.trans (hb1.mono hsz)
      clear h0 h1 h2 h3 h4 h5
      cases rt with
      | true =>
        go_wp2
        go_ret
        exact ⟨ret_i (by have := He.out; simpa using this), hb2⟩
      | false =>
        go_wp2
        go_roundw
        case rel => exact ⟨k + 1, by omega, by go_num, by have := He.out; simpa using this, hb2⟩
        case measure => simp [intOf] <;> omega
    · have hk2 : ¬ (k : Int) < (n : Int) := by omega
      have e : r = -1 := by rw [← he, List.drop_of_length_le (by rw [Hn.out]; omega)]; rfl
      have E := Lib.hid e
      clear he e
      go_wp2
      go_ret
      exact ⟨ret_i E.out.symm, hb⟩
set_option maxHeartbeats 1000000 in
theorem indexSrv_any (B : Nat) (A : Option Addr) (c : Nat) (l : List Srv) (w : World) (hl : Row repS 37 B w A l) (hn : l.length ≤ 1000) (hB : B ≤ w.heap.size) :
    Calls Try.prog 162 #[.slice A l.length c, .func (.func 159) #[] #[]] w fun e w' => e = .returned (.int .i64 (indexD (fun x : Srv => !x.right) 0 l)) ∧ Below w.heap.size w w' := by
  obtain ⟨n, hn'⟩ : ∃ n, l.length = n := ⟨_, rfl⟩
  rw [hn']
  have Hn := Lib.hid hn'
  rw [hn'] at hn
  clear hn'
  generalize hr : indexD (fun x : Srv => !x.right) 0 l = r
  have Hr := Lib.hid hr
  clear hr
  go_enter Try.func162, Try.ntmps162
  go_wp2
  go_loopw [8] (fun j wr => ∃ k : Nat, k ≤ n ∧ j = .int .i64 k ∧ indexD (fun x : Srv => !x.right) k (l.drop k) = r ∧ Below w.heap.size w wr) (fun j _ => n - (intOf j).toNat)
  case atStart => exact ⟨0, Nat.zero_le _, rfl, Hr.out, Below.refl _ _⟩
  case round =>
    obtain ⟨k, hk, rfl, he, hb⟩ := hrel
    by_cases hlt : k < n
    · have hk2 : (k : Int) < (n : Int) := by omega
      obtain ⟨ad, x, rfl, hbk, hx, h0, h1, h2⟩ := at_S (hl.keep fun j hj _ => hb.block j hj) (k := k) (by rw [Hn.out]; omega)
      rw [drop_cons' hx, indexD] at he
      have hsz := hb.size
      obtain ⟨rt, hrt⟩ : ∃ rt, (!x.right) = rt := ⟨_, rfl⟩
      rw [hrt] at he
      have He := Lib.hid he
      have Hrt := Lib.hid hrt
      clear he hx hrt
      go_wp2_with fail
      refine (notRightSrv_any x _).mono ?_
      rw [Hrt.out]
      rintro e w1 ⟨rfl, hb1⟩
      have hb2 : Below w.heap.size w w1 := hb.trans (hb1.mono hsz)
      clear h0 h1 h2
      cases rt with
      | true =>
        go_wp2
        go_ret
        exact ⟨ret_i (by have := He.out; simpa using this), hb2⟩
      | false =>
        go_wp2
        go_roundw
        case rel => exact ⟨k + 1, by omega, by go_num, by have := He.out; simpa using this, hb2⟩
        case measure => simp [intOf] <;> omega
    · have hk2 : ¬ (k : Int) < (n : Int) := by omega
      have e : r = -1 := by rw [← he, List.drop_of_length_le (by rw [Hn.out]; omega)]; rfl
      have E := Lib.hid e
      clear he e
      go_wp2
      go_ret
      exact ⟨ret_i E.out.symm, hb⟩

theorem indexD_all {α : Type} (f : α → Bool) : ∀ (l : List α) (k : Nat), (0 ≤ indexD f k l) ↔ ¬ (l.all fun x => !f x) = true
  | [], k => by simp [indexD]
  | x :: l, k => by
    unfold indexD
    by_cases h : f x = true
    · rw [if_pos h]
      simp [h]
    · rw [if_neg h, indexD_all f l (k + 1)]
      simp [h]

set_option maxRecDepth 100000 in
theorem allTask_any (B : Nat) (A : Option Addr) (c : Nat) (l : List TaskD) (most : Nat) (w : World) (hl : Row repT 139 B w A l) (hn : l.length ≤ 1000) (hB : B ≤ w.heap.size) :
    Calls Try.prog 148 #[.slice A l.length c, .int .i64 most] w fun e w' => e = .returned (.bool (decide (l.length ≤ most) && l.all TaskD.right)) ∧ Below w.heap.size w w' := by
  have hc := fun W hW => indexTask_any B A c l W hW hn
  have hal := indexD_all (fun x : TaskD => !x.right) l 0
  have hfun : (l.all fun x => !!x.right) = l.all TaskD.right := by congr 1; funext x; simp
  rw [hfun] at hal
  obtain ⟨n, hn'⟩ : ∃ n, l.length = n := ⟨_, rfl⟩
  rw [hn'] at hc ⊢
  generalize indexD (fun x : TaskD => !x.right) 0 l = r at hc hal
  generalize l.all TaskD.right = al at hal ⊢
  have Hc := Lib.hid hc
  have Hal := Lib.hid hal
  clear hc hal hfun hn hn'
  by_cases hm : (n : Int) ≤ (most : Int)
  · have hm' : n ≤ most := by omega
    go_enter Try.func148, Try.ntmps148
    go_wp2_with fail
    go_enter Try.func156, Try.ntmps156
    go_wp2_with fail
    refine (Hc.out _ hl hB).mono ?_
    rintro e w1 ⟨rfl, hb⟩
    by_cases h0 : (0 : Int) ≤ r
    · have ea : al = false := by have := Hal.out.1 h0; simpa using this
      have Ea := Lib.hid ea
      clear ea
      go_wp2
      go_ret
      exact ⟨ret_b (by rw [Ea.out]; simp), hb⟩
    · have ea : al = true := by
        cases al with
        | true => rfl
        | false => exact absurd (Hal.out.2 (by simp)) h0
      have Ea := Lib.hid ea
      clear ea
      go_wp2
      go_ret
      exact ⟨ret_b (by rw [Ea.out]; simp [hm']; omega), hb⟩
  · have hm' : ¬ n ≤ most := by omega
    go_enter Try.func148, Try.ntmps148
    go_wp2
    go_ret
    exact ⟨ret_b (by simp [hm']), Below.refl _ _⟩
set_option maxRecDepth 100000 in
theorem allSrv_any (B : Nat) (A : Option Addr) (c : Nat) (l : List Srv) (most : Nat) (w : World) (hl : Row repS 37 B w A l) (hn : l.length ≤ 1000) (hB : B ≤ w.heap.size) :
    Calls Try.prog 149 #[.slice A l.length c, .int .i64 most] w fun e w' => e = .returned (.bool (decide (l.length ≤ most) && l.all Srv.right)) ∧ Below w.heap.size w w' := by
  have hc := fun W hW => indexSrv_any B A c l W hW hn
  have hal := indexD_all (fun x : Srv => !x.right) l 0
  have hfun : (l.all fun x => !!x.right) = l.all Srv.right := by congr 1; funext x; simp
  rw [hfun] at hal
  obtain ⟨n, hn'⟩ : ∃ n, l.length = n := ⟨_, rfl⟩
  rw [hn'] at hc ⊢
  generalize indexD (fun x : Srv => !x.right) 0 l = r at hc hal
  generalize l.all Srv.right = al at hal ⊢
  have Hc := Lib.hid hc
  have Hal := Lib.hid hal
  clear hc hal hfun hn hn'
  by_cases hm : (n : Int) ≤ (most : Int)
  · have hm' : n ≤ most := by omega
    go_enter Try.func149, Try.ntmps149
    go_wp2_with fail
    go_enter Try.func158, Try.ntmps158
    go_wp2_with fail
    refine (Hc.out _ hl hB).mono ?_
    rintro e w1 ⟨rfl, hb⟩
    by_cases h0 : (0 : Int) ≤ r
    · have ea : al = false := by have := Hal.out.1 h0; simpa using this
      have Ea := Lib.hid ea
      clear ea
      go_wp2
      go_ret
      exact ⟨ret_b (by rw [Ea.out]; simp), hb⟩
    · have ea : al = true := by
        cases al with
        | true => rfl
        | false => exact absurd (Hal.out.2 (by simp)) h0
      have Ea := Lib.hid ea
      clear ea
      go_wp2
      go_ret
      exact ⟨ret_b (by rw [Ea.out]; simp [hm']; omega), hb⟩
  · have hm' : ¬ n ≤ most := by omega
    go_enter Try.func149, Try.ntmps149
    go_wp2
    go_ret
    exact ⟨ret_b (by simp [hm']), Below.refl _ _⟩
end Go.Proofs.Ytgljmflcbdhigaa
