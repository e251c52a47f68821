/- Contracts of small functions over numbers: num, cmp, slices.IsSorted, conf's Right of servers and tasks, and the document's of the same names. -/
import Derived.Test.YtgljmflcbdhigaaLib
import Derived.Test.YtgljmflcbdhigaaProg
set_option linter.unusedVariables false
namespace Go.Proofs.Ytgljmflcbdhigaa
open Go.RowKit

def b2i (b : Bool) : Int := if b then 1 else 0
theorem b2i_bd (b : Bool) : 0 ≤ b2i b ∧ b2i b ≤ 1 := by cases b <;> decide

theorem btoi_any (b : Bool) (w : World) : Calls Try.prog 105 #[.bool b] w fun e w' => e = .returned (.int .i64 (b2i b)) ∧ w = w' := by
  cases b <;>
  · go_enter Try.func105, Try.ntmps105
    go_wp2
    go_ret
    exact ⟨rfl, rfl⟩

theorem isNaN_any (a : Int) (w : World) : Calls Try.prog 160 #[.int .i64 a] w fun e w' => e = .returned (.bool false) ∧ w = w' := by
  go_enter Try.func160, Try.ntmps160
  go_wp2
  go_ret
  exact ⟨by simp, rfl⟩

theorem less_any (a b : Int) (w : World) : Calls Try.prog 155 #[.int .i64 a, .int .i64 b] w fun e w' => e = .returned (.bool (decide (a < b))) ∧ w = w' := by
  go_enter Try.func155, Try.ntmps155
  go_wp2_with (go_at_call 160; refine (isNaN_any _ _).mono ?_; rintro e w' ⟨rfl, rfl⟩)
  go_ret
  exact ⟨rfl, rfl⟩

/-- Rounded up, by a number from 1 on. -/
def ceilD (a b : Int) : Int := if b < 1 then 0 else a.tdiv b + b2i (decide (0 < a.tmod b))

theorem rem_ne (b : Int) (h : 1 ≤ b) : (b == 0) = false := by simp; omega

set_option maxHeartbeats 400000 in
theorem ceil_any (a b : Int) (w : World) (h0 : 0 ≤ a) (h1 : a ≤ 4611686018427387904) : Calls Try.prog 53 #[.int .i64 a, .int .i64 b] w fun e w' => e = .returned (.int .i64 (ceilD a b)) ∧ Drawn w w' := by
  by_cases hb : b < 1
  · have e : ceilD a b = 0 := by simp [ceilD, hb]
    rw [e]
    clear e
    go_enter Try.func53, Try.ntmps53
    go_wp2
    go_ret
    exact ⟨rfl, Drawn.refl _⟩
  · have hb1 : 1 ≤ b := by omega
    have hz := rem_ne b hb1
    have e : ceilD a b = a / b + b2i (decide (0 < a % b)) := by
      unfold ceilD
      rw [if_neg hb, Int.tdiv_eq_ediv_of_nonneg h0, Int.tmod_eq_emod_of_nonneg h0]
    have hd : 0 ≤ a / b := Int.ediv_nonneg h0 (by omega)
    have hd2 : a / b ≤ a := Int.ediv_le_self _ h0
    have hbd := b2i_bd (decide (0 < a % b))
    have E := Lib.hid e
    have hz' : ¬ b = 0 := by omega
    have hq : IntKind.i64.wrap (a.tdiv b) = a / b := by rw [Int.tdiv_eq_ediv_of_nonneg h0]; exact IntWalk.i64_in _ (by omega)
    have hm : a.tmod b = a % b := Int.tmod_eq_emod_of_nonneg h0
    have hs : IntKind.i64.wrap (a / b + b2i (decide (0 < a % b))) = a / b + b2i (decide (0 < a % b)) := IntWalk.i64_in _ (by omega)
    clear e hb
    go_enter Try.func53, Try.ntmps53
    go_wp2
    go_quiet ((go_at_call 105; exact quiet_same (btoi_any _ _)))
    go_wp2
    go_ret
    exact ⟨ret_i E.out.symm, (Drawn.refl _).drewN _⟩

theorem refCeil_any (a b : Int) (w : World) (h0 : 0 ≤ a) (h1 : a ≤ 4611686018427387904) : Calls Try.prog 55 #[.int .i64 a, .int .i64 b] w fun e w' => e = .returned (.int .i64 (ceilD a b)) ∧ w = w' := by
  by_cases hb : b < 1
  · have e : ceilD a b = 0 := by simp [ceilD, hb]
    rw [e]
    clear e
    go_enter Try.func55, Try.ntmps55
    go_wp2
    go_ret
    exact ⟨rfl, rfl⟩
  · have hb1 : 1 ≤ b := by omega
    have e : ceilD a b = a / b + b2i (decide (0 < a % b)) := by
      unfold ceilD
      rw [if_neg hb, Int.tdiv_eq_ediv_of_nonneg h0, Int.tmod_eq_emod_of_nonneg h0]
    have hd : 0 ≤ a / b := Int.ediv_nonneg h0 (by omega)
    have hd2 : a / b ≤ a := Int.ediv_le_self _ h0
    rw [e]
    clear e hb
    by_cases hm : 0 < a % b
    all_goals
      go_enter Try.func55, Try.ntmps55
      go_wp2
      go_ret
      exact ⟨ret_i (by first | (rw [decide_eq_true (by omega : 0 < a % b)]; rfl) | (rw [decide_eq_false (by omega : ¬ 0 < a % b)]; simp [b2i])), rfl⟩

/-! ### IsSorted, rise -/
def repI : Rep Int := Rep.flat 1 (fun n => [.int .i64 n]) (fun _ => rfl) (fun x u hu => by simp at hu; subst hu; rfl)
theorem at_I {e B : Nat} {w : World} {A : Option Addr} {l : List Int} (h : Row repI e B w A l) {k : Nat} (hk : k < l.length) : ∃ ad x, A = some ad ∧ l[k]? = some x ∧ w.cell? (ad.add k) = some (.int .i64 x) := by
  obtain ⟨ad, cs, hA, _, _, hr, hc⟩ := h.at (List.getElem?_eq_getElem hk)
  have hr : cs = [.int .i64 _] := hr
  subst hr
  have h0 := hc 0 _ rfl
  simp only [repI, Rep.flat, Nat.mul_one, Nat.add_zero] at h0
  exact ⟨ad, _, hA, List.getElem?_eq_getElem hk, h0⟩

def sortedD : List Int → Bool
  | a :: b :: l => decide (a ≤ b) && sortedD (b :: l)
  | _ => true
theorem sortedD_iff (l : List Int) : sortedD l = true ↔ ∀ k a b, l[k]? = some a → l[k + 1]? = some b → a ≤ b := by
  induction l with
  | nil => simp [sortedD]
  | cons x l ih =>
    cases l with
    | nil => simp [sortedD]
    | cons y l =>
      simp only [sortedD, Bool.and_eq_true, decide_eq_true_eq, ih]
      constructor
      · rintro ⟨h1, h2⟩ k a b ha hb
        cases k with
        | zero => simp at ha hb; omega
        | succ k => exact h2 k a b (by simpa using ha) (by simpa using hb)
      · intro h
        exact ⟨h 0 x y rfl rfl, fun k a b ha hb => h (k + 1) a b (by simpa using ha) (by simpa using hb)⟩

set_option maxHeartbeats 400000 in
theorem isSorted_any (B : Nat) (A : Option Addr) (c : Nat) (l : List Int) (w : World) (hl : Row repI 3 B w A l) (hn : l.length ≤ 1000000) :
    Calls Try.prog 144 #[.slice A l.length c] w fun e w' => e = .returned (.bool (sortedD l)) ∧ Drawn w w' := by
  obtain ⟨n, hn'⟩ : ∃ n, l.length = n := ⟨_, rfl⟩
  rw [hn']
  have Hn := Lib.hid hn'
  rw [hn'] at hn
  clear hn'
  obtain ⟨r, hr⟩ : ∃ r, sortedD l = r := ⟨_, rfl⟩
  rw [hr]
  have Hr := Lib.hid hr
  clear hr
  go_enter Try.func144, Try.ntmps144
  go_wp2
  go_loopw [3] (fun i wr => ∃ k : Int, -1 ≤ k ∧ k < n ∧ i = .int .i64 k ∧ (∀ (j : Nat) (a b : Int), k ≤ (j : Int) → l[j]? = some a → l[j + 1]? = some b → a ≤ b) ∧ Drawn w wr) (fun i _ => (intOf i + 1).toNat)
  case atStart =>
    refine ⟨(n : Int) - 1, by omega, by omega, rfl, fun j a b h1 h2 h3 => ?_, Drawn.refl _⟩
    have := (List.getElem?_eq_some_iff.1 h3).1
    rw [Hn.out] at this
    omega
  case round =>
    obtain ⟨k, hk0, hk1, rfl, hs, hd⟩ := hrel
    have hlq := hl.drawn hd
    have Hs := Lib.hid hs
    clear hs
    by_cases hk : 0 < k
    · obtain ⟨j, rfl⟩ : ∃ j : Nat, k = (j : Int) := ⟨k.toNat, by omega⟩
      obtain ⟨q, hq⟩ : ∃ q : Nat, q + 1 = j := ⟨j - 1, by omega⟩
      have hq1 : q < j := by omega
      have hq2 : q < n := by omega
      have hj2 : j < n := by omega
      have e2 : IntKind.i64.wrap ((j : Int) - 1) = (q : Int) := by rw [show (j : Int) - 1 = (q : Int) by omega]; exact IntWalk.i64_in _ (by omega)
      have Hq := Lib.hid hq
      clear hq
      obtain ⟨ad, x, rfl, hx, h0⟩ := at_I hlq (k := q) (by rw [Hn.out]; omega)
      obtain ⟨ad', y, e', hy, h1⟩ := at_I hlq (k := j) (by rw [Hn.out]; omega)
      cases e'
      have Hx := Lib.hid hx
      have Hy := Lib.hid hy
      clear hx hy
      go_wp2
      go_quiet ((go_at_call 155; exact quiet_same (less_any _ _ _)))
      clear h0 h1
      go_wp2
      · go_ret
        have hyx : y < x := by assumption
        refine ⟨ret_b ?_, hd.drewN _⟩
        rw [← Hr.out]
        refine (Bool.eq_false_iff.2 fun h => ?_).symm
        have := (sortedD_iff l).1 h q x y Hx.out (by rw [Hq.out]; exact Hy.out)
        omega
      · have hyx : x ≤ y := by assumption
        go_roundw
        case rel =>
          refine ⟨(q : Int), by omega, by omega, rfl, fun i a b h1 h2 h3 => ?_, hd.drewN _⟩
          by_cases hi : i = q
          · subst hi
            rw [Hx.out] at h2
            rw [Hq.out, Hy.out] at h3
            cases h2
            cases h3
            exact hyx
          · exact Hs.out i a b (by have := Hq.out; omega) h2 h3
        case measure => simp [intOf]; omega
    · go_wp2
      go_ret
      refine ⟨ret_b ?_, hd⟩
      rw [← Hr.out]
      refine ((sortedD_iff l).2 fun i a b h2 h3 => Hs.out i a b (by omega) h2 h3).symm

theorem rise_any (B : Nat) (A : Option Addr) (c : Nat) (l : List Int) (w : World) (hl : Row repI 3 B w A l) (hn : l.length ≤ 1000000) :
    Calls Try.prog 104 #[.slice A l.length c] w fun e w' => e = .returned (.bool (sortedD l)) ∧ Drawn w w' := by
  go_enter Try.func104, Try.ntmps104
  go_wp2_with (go_at_call 144; refine (isSorted_any B A c l _ hl hn).mono ?_; rintro e w' ⟨rfl, hd⟩)
  go_ret
  exact ⟨rfl, hd⟩

/-! ### Servers -/
structure Srv where
  refill : Bool
  c : Int
  t : Int
def Srv.enc (x : Srv) : List Value := [.bool x.refill, .int .i64 x.c, .int .i64 x.t]
def Srv.right (s : Srv) : Bool := decide (1 ≤ s.c) && decide (s.c ≤ s.t) && decide (s.t ≤ 1000)
def repS : Rep Srv := Rep.flat 3 Srv.enc (fun _ => rfl) (fun x u hu => by simp [Srv.enc] at hu; rcases hu with rfl | rfl | rfl <;> rfl)

/-- A row that is laid anew of some whole numbers. -/
theorem Row.ints (w : World) (l : List Int) (e B g : Nat) (hg : g = w.heap.size) : Row repI e B (w.alloc (.cells ((l.map (Value.int .i64)).toArray) e)) (some ⟨g, 0, none⟩) l := by
  subst hg
  intro _
  refine ⟨_, rfl, by simp, .inr ⟨_, heap_alloc_new w _⟩, fun i y hi => ⟨[.int .i64 y], rfl, fun j u hj => ?_⟩⟩
  have hj0 : j = 0 := by
    rcases j with _ | j
    · rfl
    · simp at hj
  subst hj0
  have hadd : (⟨w.heap.size, 0, none⟩ : Addr).add (i * repI.sz + 0) = ⟨w.heap.size, i, none⟩ := by
    simp only [repI, Rep.flat, Nat.mul_one, Nat.add_zero]
    unfold Addr.add
    split <;> simp_all
  rw [hadd, cell_of_row _ _ _ _ e (0, 0) (heap_alloc_new w _)]
  simp only [List.getElem?_cons_zero, Option.some.injEq] at hj
  subst hj
  simp [hi]

theorem srvRight_any (s : Srv) (w : World) : Calls Try.prog 52 #[.agg #[.bool s.refill, .int .i64 s.c, .int .i64 s.t]] w fun e w' => e = .returned (.bool s.right) ∧ Below w.heap.size w w' := by
  have hs : s.right = sortedD [1, s.c, s.t, 1000] := by simp [Srv.right, sortedD, Bool.and_assoc]
  rw [hs]
  clear hs
  go_enter Try.func52, Try.ntmps52
  go_wp2_with fail
  refine (rise_any 0 _ 4 [1, s.c, s.t, 1000] _ (Row.ints _ _ _ _ _ (by simp)) (by simp)).mono ?_
  rintro e w1 ⟨rfl, hd⟩
  go_wp2
  go_ret
  exact ⟨rfl, (((Below.refl _ _).alloc (Nat.le_refl _) _).alloc (by simp) _).trans (hd.below _)⟩

theorem refRightSrv_any (s : Srv) (w : World) : Calls Try.prog 54 #[.agg #[.bool s.refill, .int .i64 s.c, .int .i64 s.t]] w fun e w' => e = .returned (.bool s.right) ∧ Below w.heap.size w w' := by
  go_enter Try.func54, Try.ntmps54
  go_wp2
  all_goals
    go_ret
    refine ⟨ret_b ?_, (Below.refl _ _).alloc (Nat.le_refl _) _⟩
    simp_all [Srv.right] <;> omega
end Go.Proofs.Ytgljmflcbdhigaa
