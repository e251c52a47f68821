/- Tables of a frame: which windows fit, what is open of one, how many open places are ahead. -/
import Derived.Test.YtgljmflcbdhigaaPlainV
import Derived.Test.YtgljmflcbdhigaaClone
import Derived.IntWalk
set_option linter.unusedVariables false
set_option linter.unusedSimpArgs false
namespace Go.Proofs.Ytgljmflcbdhigaa
open Go.RowKit

theorem below_drewN {B n : Nat} {w w' : World} (h : Below B w w') : Below B w (w'.drewN n) := ⟨h.os, h.tape, h.output, h.size, h.block⟩

def fitBad (f end_ : Int) (x : WinD) : Bool := decide (x.at_ < end_) || decide (f ≤ x.at_) || decide (x.len < 1) || decide (f - x.at_ < x.len) || decide (x.part < 0) || decide (6 ≤ x.part)
def fitsFrom (f : Int) : Int → List WinD → Bool
  | _, [] => true
  | en, x :: r => if fitBad f en x then false else fitsFrom f (x.at_ + x.len) r

set_option maxHeartbeats 2000000 in
theorem fits_any (B : Nat) (A : Option Addr) (c : Nat) (l : List WinD) (f : Int) (w : World) (hl : Row repW 154 B w A l) (hn : l.length ≤ 1000) (hB : B ≤ w.heap.size) (h0 : 0 ≤ f) (hf : f ≤ 256) :
    Calls Try.prog 151 #[.int .i64 f, .slice A l.length c] w fun e w' => e = .returned (.bool (fitsFrom f 0 l)) ∧ Below w.heap.size w w' := by
  obtain ⟨n, hn'⟩ : ∃ n, l.length = n := ⟨_, rfl⟩
  rw [hn'] at hn ⊢
  have Hn := Lib.hid hn'
  clear hn'
  obtain ⟨r, hr⟩ : ∃ r, fitsFrom f 0 l = r := ⟨_, rfl⟩
  rw [hr]
  have Hr := Lib.hid hr
  clear hr
  go_enter Try.func151, Try.ntmps151
  go_wp2
  go_loopw [5, 10] (fun a j wr => ∃ (k : Nat) (en : Int), k ≤ n ∧ j = .int .i64 k ∧ a = .int .i64 en ∧ 0 ≤ en ∧ fitsFrom f en (l.drop k) = r ∧ Below w.heap.size w wr) (fun _ j _ => n - (intOf j).toNat)
  case atStart => exact ⟨0, 0, Nat.zero_le _, rfl, rfl, Int.le_refl _, Hr.out, Below.refl _ _⟩
  case round =>
    clear Hr
    obtain ⟨k, en, hk, rfl, rfl, hen, he, hb⟩ := hrel
    by_cases hlt : k < n
    · have hk2 : (k : Int) < (n : Int) := by omega
      obtain ⟨ad, x, rfl, hbk, hx, c0, c1, c2⟩ := at_W (hl.keep fun j hj _ => hb.block j (by omega)) (k := k) (by rw [Hn.out]; omega)
      rw [drop_cons' hx, fitsFrom] at he
      obtain ⟨at_, len, part⟩ := x
      simp only at he c0 c1 c2
      have hbA : ∀ o, Below w.heap.size w (wr.alloc o) := fun o => hb.alloc hb.size _
      clear hx
      by_cases q1 : at_ < en
      · have e : r = false := by rw [← he]; simp [fitBad, q1]
        subst e
        clear he
        go_wp2
        go_ret
        exact ⟨rfl, hbA _⟩
      by_cases q2 : f ≤ at_
      · have e : r = false := by rw [← he]; simp [fitBad, q2]
        subst e
        clear he
        go_wp2
        go_ret
        exact ⟨rfl, hbA _⟩
      by_cases q3 : len < 1
      · have e : r = false := by rw [← he]; simp [fitBad, q3]
        subst e
        clear he
        go_wp2
        go_ret
        exact ⟨rfl, hbA _⟩
      have q1' : en ≤ at_ := by omega
      have q2' : at_ < f := by omega
      by_cases q4 : f - at_ < len
      · have e : r = false := by rw [← he]; simp [fitBad, q4]
        subst e
        clear he
        go_wp2
        go_ret
        exact ⟨rfl, hbA _⟩
      by_cases q5 : part < 0
      · have e : r = false := by rw [← he]; simp [fitBad, q5]
        subst e
        clear he
        go_wp2
        go_ret
        exact ⟨rfl, hbA _⟩
      by_cases q6 : 6 ≤ part
      · have e : r = false := by rw [← he]; simp [fitBad, q6]
        subst e
        clear he
        go_wp2
        go_ret
        exact ⟨rfl, hbA _⟩
      have e : fitsFrom f (at_ + len) (l.drop (k + 1)) = r := by rw [← he]; simp [fitBad]; omega
      have E := Lib.hid e
      clear e he
      go_wp2
      go_roundw
      case rel => exact ⟨k + 1, at_ + len, by omega, by go_num, rfl, by omega, E.out, hbA _⟩
      case measure => simp [intOf] <;> omega
    · have hk2 : ¬ (k : Int) < (n : Int) := by omega
      have e : r = true := by rw [← he, List.drop_of_length_le (by rw [Hn.out]; omega)]; rfl
      subst e
      clear he
      go_wp2
      go_ret
      exact ⟨rfl, hb⟩

/-- From where on a window is open. -/
def WinD.opens (m : Int) (x : WinD) : Int := min (x.at_ + m) (x.at_ + x.len)
set_option maxHeartbeats 1000000 in
theorem open_any (vl : Value) (m : Int) (x : WinD) (w : World) (hv : vl.oneCell' = true) (h0 : 0 ≤ x.at_) (h1 : x.at_ ≤ 256) (h2 : 0 ≤ x.len) (h3 : x.len ≤ 256) (h4 : 0 ≤ m) (h5 : m ≤ 8) :
    Calls Try.prog 133 #[.agg #[vl, .int .i64 m], .agg #[.int .i64 x.at_, .int .i64 x.len, .int .i64 x.part]] w fun e w' => e = .returned (.tuple #[.int .i64 (x.opens m), .int .i64 (x.at_ + x.len)]) ∧ Below w.heap.size w w' := by
  obtain ⟨at_, len, part⟩ := x
  unfold WinD.opens
  simp only at h0 h1 h2 h3 ⊢
  have s1 : IntKind.i64.wrap (at_ + m) = at_ + m := IntWalk.i64_in _ (by omega)
  have s2 : IntKind.i64.wrap (at_ + len) = at_ + len := IntWalk.i64_in _ (by omega)
  have hb : Below w.heap.size w ((w.alloc (.cells #[vl, .int .i64 m] 229)).alloc (.cells #[.int .i64 at_, .int .i64 len, .int .i64 part] 154)) := ((Below.refl _ _).alloc (Nat.le_refl _) _).alloc (by simp) _
  go_enter Try.func133, Try.ntmps133
  go_wp2
  go_quiet (fail)
  go_wp2
  all_goals
    go_ret2
    exact ⟨ret_ei (by omega) rfl, below_drewN hb⟩
end Go.Proofs.Ytgljmflcbdhigaa
