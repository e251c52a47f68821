/- The follower over a whole log: the report's jobs are the document's. -/
import Derived.Test.YtgljmflcbdhigaaAuditI
import Derived.Test.YtgljmflcbdhigaaAuditJ
set_option linter.unusedVariables false
namespace Go.Proofs.Ytgljmflcbdhigaa
open Go.RowKit

theorem see_any (F B : Nat) (jobs : List Job) (high : Bool) (last : Int → Option Int) (x : Entry) (w : World) (h : Fol w F B jobs high last) (hB : B ≤ w.heap.size) (hn : jobs.length ≤ 900) :
    Calls Try.prog 50 #[.pointer (some ⟨F, 0, none⟩), .agg #[.int .i64 x.tick, .int .i64 x.kind, .int .i64 x.a, .int .i64 x.b]] w fun e w' => e = .returned (.tuple #[]) ∧ Fol w' F B (stepJobs x jobs) (stepHigh x high) (stepLast x last) ∧ Below B w w' ∧ Kept w w' := by
  cases hb : x.brk with
  | true => exact see_brk F B jobs high last x w h hB hn hb
  | false =>
    by_cases h0 : x.kind = 0
    · exact see_acc F B jobs high last x w h hB hn h0
    · by_cases h7 : x.kind = 7
      · exact see_high F B jobs high last x w h hB hn hb (.inl h7)
      · by_cases h9 : x.kind = 9
        · exact see_high F B jobs high last x w h hB hn hb (.inr h9)
        · by_cases he : endsK x.kind = 0
          · exact see_none F B jobs high last x w h hB hn hb h0 h7 h9 he
          · exact see_end F B jobs high last x w h hB hn hb h0 h7 h9 he

def stJobs (l : List Entry) : List Job := l.foldl (fun j x => stepJobs x j) []
def stHigh (l : List Entry) : Bool := l.foldl (fun j x => stepHigh x j) false
def stLast (l : List Entry) : Int → Option Int := l.foldl (fun j x => stepLast x j) (fun _ => none)
theorem stJobs_snoc (l : List Entry) (x : Entry) : stJobs (l ++ [x]) = stepJobs x (stJobs l) := by simp [stJobs]
theorem stHigh_snoc (l : List Entry) (x : Entry) : stHigh (l ++ [x]) = stepHigh x (stHigh l) := by simp [stHigh]
theorem stLast_snoc (l : List Entry) (x : Entry) : stLast (l ++ [x]) = stepLast x (stLast l) := by simp [stLast]
theorem stJobs_len (l : List Entry) : (stJobs l).length ≤ l.length := by
  suffices h : ∀ (l : List Entry) (j : List Job), (l.foldl (fun j x => stepJobs x j) j).length ≤ j.length + l.length by simpa [stJobs] using h l []
  intro l
  induction l with
  | nil => intro j; simp
  | cons x l ih =>
    intro j
    have := ih (stepJobs x j)
    have h2 : (stepJobs x j).length ≤ j.length + 1 := by unfold stepJobs; split <;> simp
    simp only [List.foldl_cons, List.length_cons]
    omega

theorem Fol.below {w w' : World} {F B : Nat} {jobs : List Job} {high : Bool} {last : Int → Option Int} (h : Fol w F B jobs high last) (hb : Below w.heap.size w w') : Fol w' F B jobs high last := by
  obtain ⟨jv, M1, l1, c1, M2, l2, c2, idx, h, hg⟩ := h
  exact ⟨jv, M1, l1, c1, M2, l2, c2, idx, h.below hb, hg⟩

/-! ### What the follower comes to is what the document says -/
theorem endOf_snoc (t : Int) (x : Entry) : ∀ l : List Entry, endOf t (l ++ [x]) = if (endOf t l).2 = 0 then (if x.ends t = 0 then (-1, 0) else (x.tick, x.ends t)) else endOf t l
  | [] => by simp [endOf]
  | y :: l => by
    by_cases h : y.ends t = 0
    · have e : ∀ r, endOf t (y :: r) = endOf t r := fun r => by show (if _ then _ else _) = _; rw [if_pos h]
      rw [List.cons_append, e, e]; exact endOf_snoc t x l
    · have e : ∀ r, endOf t (y :: r) = (y.tick, y.ends t) := fun r => by show (if _ then _ else _) = _; rw [if_neg h]
      rw [List.cons_append, e, e, if_neg h]
theorem endOf_zero (t : Int) : ∀ l : List Entry, (endOf t l).2 = 0 → endOf t l = (-1, 0)
  | [], _ => rfl
  | y :: l, h => by
    unfold endOf at h ⊢
    by_cases hy : y.ends t = 0
    · rw [if_pos hy] at h ⊢; exact endOf_zero t l h
    · rw [if_neg hy] at h; exact absurd h hy
theorem jobD_snoc {l : List Entry} {i : Nat} (x y : Entry) (hi : i < l.length) : jobD (l ++ [x]) i y = x.close (jobD l i y) := by
  unfold jobD Entry.close
  rw [List.drop_append_of_le_length (by omega), endOf_snoc]
  by_cases h : (endOf y.a (l.drop (i + 1))).2 = 0
  · have h2 := endOf_zero _ _ h
    by_cases h3 : x.ends y.a = 0
    · simp [h3, h2]
    · simp [h, h3]
  · simp [h]
theorem jobsFrom_snocLog (x : Entry) (l : List Entry) : ∀ (r : List Entry) (k : Nat), k + r.length ≤ l.length → jobsFrom (l ++ [x]) k r = (jobsFrom l k r).map x.close
  | [], _, _ => rfl
  | y :: r, k, h => by
    rw [List.length_cons] at h
    unfold jobsFrom
    rw [jobsFrom_snocLog x l r (k + 1) (by omega)]
    by_cases hy : y.kind = 0
    · rw [if_pos hy, if_pos hy, List.map_cons, jobD_snoc x y (by omega)]
    · rw [if_neg hy, if_neg hy]
theorem jobsD_snoc (l : List Entry) (x : Entry) : jobsD (l ++ [x]) = stepJobs x (jobsD l) := by
  unfold jobsD stepJobs
  rw [jobsFrom_snoc, jobsFrom_snocLog x l l 0 (by omega), Nat.zero_add]
  congr 1
  by_cases hx : x.kind = 0
  · rw [if_pos hx, if_pos hx]
    unfold jobD Entry.newJob
    rw [List.drop_of_length_le (by simp)]
    rfl
  · rw [if_neg hx, if_neg hx]
theorem stJobs_eq (l : List Entry) : stJobs l = jobsD l := by
  suffices h : ∀ (n : Nat) (l : List Entry), l.length = n → stJobs l = jobsD l from h _ l rfl
  intro n
  induction n with
  | zero => intro l hl; have := List.length_eq_zero_iff.1 hl; subst this; rfl
  | succ n ih =>
    intro l hl
    have hne : l ≠ [] := by rintro rfl; simp at hl
    rw [← List.dropLast_concat_getLast hne, stJobs_snoc, jobsD_snoc, ih _ (by simp [hl])]

set_option maxHeartbeats 1000000 in
theorem jobs_any (B : Nat) (A : Option Addr) (c : Nat) (l : List Entry) (w : World) (hl : Row repE 124 B w A l) (hn : l.length ≤ 900) :
    Calls Try.prog 11 #[.slice A l.length c] w fun e w' => ∃ v, e = .returned v ∧ Own repJ 34 0 w.heap.size w' v (jobsD l) ∧ Below w.heap.size w w' := by
  rw [← stJobs_eq]
  obtain ⟨n, hn'⟩ : ∃ n, l.length = n := ⟨_, rfl⟩
  rw [hn']
  have Hn := Lib.hid hn'
  rw [hn'] at hn
  clear hn'
  go_enter Try.func11, Try.ntmps11
  go_wp2_with fail
  refine (follow_any _).mono ?_
  rintro e w1 ⟨F, rfl, hF, hb1⟩
  go_wp2
  go_loopw [9] (fun i wr => ∃ k : Nat, k ≤ n ∧ i = .int .i64 k ∧ Fol wr F w.heap.size (stJobs (l.take k)) (stHigh (l.take k)) (stLast (l.take k)) ∧ Below w.heap.size w wr) (fun i _ => n - (intOf i).toNat)
  case atStart => exact ⟨0, Nat.zero_le _, rfl, hF, hb1⟩
  case round =>
    obtain ⟨k, hk, rfl, hF, hb⟩ := hrel
    by_cases hlt : k < n
    · have hlr : Row repE 124 B wr A l := hl.keep fun j hj _ => hb.block j hj
      obtain ⟨ad, x, rfl, hbk, hx, h0, h1, h2, h3⟩ := at_E hlr (k := k) (by rw [Hn.out]; exact hlt)
      have hjl := stJobs_len (l.take k)
      rw [List.length_take] at hjl
      have e1 : stJobs (l.take (k + 1)) = stepJobs x (stJobs (l.take k)) := by rw [take_snoc' hx]; exact stJobs_snoc _ _
      have e2 : stHigh (l.take (k + 1)) = stepHigh x (stHigh (l.take k)) := by rw [take_snoc' hx]; exact stHigh_snoc _ _
      have e3 : stLast (l.take (k + 1)) = stepLast x (stLast (l.take k)) := by rw [take_snoc' hx]; exact stLast_snoc _ _
      have E1 := Lib.hid e1
      have E2 := Lib.hid e2
      have E3 := Lib.hid e3
      clear e1 e2 e3 hx
      have hsz := hb.size
      have hk2 : (k : Int) < (n : Int) := by omega
      have hbA : ∀ o, Below wr.heap.size wr (wr.alloc o) := fun o => (Below.refl _ _).alloc (Nat.le_refl _) _
      go_wp2_with fail
      refine (see_any F w.heap.size _ _ _ x _ (hF.below (hbA _)) (by simp; omega) (by omega)).mono ?_
      rw [← E1.out, ← E2.out, ← E3.out]
      rintro e w2 ⟨rfl, hF2, hb2, _⟩
      go_wp2
      go_roundw
      case rel => exact ⟨k + 1, by omega, by go_num, hF2, (hb.alloc hsz _).trans hb2⟩
      case measure => simp [intOf]; omega
    · obtain ⟨jv, M1, l1, c1, M2, l2, c2, idx, h, hgd⟩ := hF
      have q0 := h.blk.cell 0 rfl
      have e : l.take k = l := List.take_of_length_le (by rw [Hn.out]; omega)
      rw [e] at h
      have hown := h.own
      clear e h hgd
      go_wp2
      go_ret
      exact ⟨_, rfl, hown, hb⟩
end Go.Proofs.Ytgljmflcbdhigaa
