/- valid.Table, gsched.New. -/
import Derived.Test.YtgljmflcbdhigaaFrameE
import Derived.Test.YtgljmflcbdhigaaLaw3
set_option linter.unusedVariables false
set_option linter.unusedSimpArgs false
namespace Go.Proofs.Ytgljmflcbdhigaa
open Go.RowKit

def CfgD.tab (c : CfgD) : TabD := ⟨c.ws, c.margin, c.frame.toNat⟩
theorem winFrom_fits (f : Int) (np : Nat) (hnp : np ≤ 6) : ∀ (l : List WinD) (en : Int) (k : Nat), winFrom f np en k l < 0 → fitsFrom f en l = true
  | [], en, k, _ => rfl
  | x :: r, en, k, h => by
    unfold winFrom at h
    by_cases hb : winBad f np en x = true
    · rw [if_pos hb] at h; omega
    · rw [if_neg hb] at h
      have hb2 : winBad f np en x = false := by simpa using hb
      simp only [winBad, inD, hasD, Bool.or_eq_false_iff, decide_eq_false_iff_not, Bool.not_eq_false', Bool.and_eq_true, decide_eq_true_eq] at hb2
      unfold fitsFrom
      have hf : fitBad f en x = false := by simp only [fitBad, Bool.or_eq_false_iff, decide_eq_false_iff_not]; omega
      rw [hf]
      simp only [Bool.false_eq_true, if_false]
      exact winFrom_fits f np hnp r _ _ h
theorem check_size {c : CfgD} (h : c.check.1 = 0) : (1 ≤ c.frame ∧ c.frame ≤ 256) ∧ (0 ≤ c.margin ∧ c.margin ≤ 8) ∧ (1 ≤ c.ps.length ∧ c.ps.length ≤ 6) := by
  obtain ⟨h1, _⟩ := (check_ok c).1 h
  unfold sizeE at h1
  by_cases q1 : (!inD c.frame 1 256 || !inD c.margin 0 8) = true
  · rw [if_pos q1] at h1; omega
  · rw [if_neg q1] at h1
    by_cases q2 : (!inD c.ps.length 1 6) = true
    · rw [if_pos q2] at h1; omega
    · simp [inD] at q1 q2
      omega
theorem check_tab {c : CfgD} (h : c.check.1 = 0) : c.tab.ok ∧ (c.tab.f : Int) = c.frame := by
  obtain ⟨h1, h2, h3⟩ := check_size h
  obtain ⟨_, h4, _⟩ := (check_ok c).1 h
  have hf : (c.tab.f : Int) = c.frame := by unfold CfgD.tab; simp only; omega
  unfold winE at h4
  by_cases q1 : 32 < c.ws.length
  · rw [if_pos q1] at h4; simp at h4
  · rw [if_neg q1] at h4
    by_cases q2 : winFrom c.frame c.ps.length 0 0 c.ws < 0
    · refine ⟨⟨by omega, by omega, h2.1, h2.2, by unfold CfgD.tab; simp only; omega, ?_⟩, hf⟩
      rw [hf]
      exact winFrom_fits _ _ h3.2 _ _ _ q2
    · rw [if_neg q2] at h4; simp at h4

section
variable (B : Nat) (c : CfgD) (WA : Option Addr) (wc : Nat) (PA : Option Addr) (pc : Nat) (CA : Option Addr) (cc : Nat) (w : World)
set_option maxHeartbeats 1000000 in
theorem table_no (h : CfgA tO B w c WA wc PA pc CA cc) (hl : c.light = true) (hB : B ≤ w.heap.size) (hk : c.check.1 ≠ 0) :
    Calls Try.prog 91 #[.agg #[.int .i64 c.frame, .int .i64 c.margin, .slice WA c.ws.length wc, .slice PA c.ps.length pc, .slice CA c.cs.length cc]] w fun e w' => e = .returned (.pointer none) ∧ Below w.heap.size w w' := by
  have hA : ∀ o, Below w.heap.size w (w.alloc o) := fun o => (Below.refl _ _).alloc (Nat.le_refl _) o
  have hck := fun o => check_any B c WA wc PA pc CA cc (w.alloc o) (h.below (hA o) (Nat.le_refl _)) hl (Nat.le_trans hB (hA o).size)
  obtain ⟨e1, he1⟩ : ∃ r, c.check.1 = r := ⟨_, rfl⟩
  obtain ⟨e2, he2⟩ : ∃ r, c.check.2 = r := ⟨_, rfl⟩
  rw [he1] at hk
  rw [he1, he2] at hck
  have h0 : (e1 != 0) = true := by simpa using hk
  have HC := Lib.hid hck
  clear hck he1 he2 hk
  go_enter Try.func91, Try.ntmps91
  go_wp2_with fail
  refine (HC.out _).mono ?_
  rintro e w1 ⟨rfl, hb⟩
  have hb1 := (hA _).trans (hb.mono (hA _).size)
  go_wp2
  go_ret
  exact ⟨rfl, hb1⟩

set_option maxHeartbeats 1000000 in
theorem table_yes (h : CfgA tO B w c WA wc PA pc CA cc) (hl : c.light = true) (hB : B ≤ w.heap.size) (hk : c.check.1 = 0) :
    Calls Try.prog 91 #[.agg #[.int .i64 c.frame, .int .i64 c.margin, .slice WA c.ws.length wc, .slice PA c.ps.length pc, .slice CA c.cs.length cc]] w (NewPost c.tab w) := by
  have hA : ∀ o, Below w.heap.size w (w.alloc o) := fun o => (Below.refl _ _).alloc (Nat.le_refl _) o
  have hck := fun o => check_any B c WA wc PA pc CA cc (w.alloc o) (h.below (hA o) (Nat.le_refl _)) hl (Nat.le_trans hB (hA o).size)
  obtain ⟨hok, hf⟩ := check_tab hk
  have hnew := fun W (hW : Below w.heap.size w W) => new_any B WA wc c.tab W (h.ws.below hW (Nat.le_refl _)) (Nat.le_trans hB hW.size) hok
  rw [hf] at hnew
  rw [hk] at hck
  obtain ⟨e2, he2⟩ : ∃ r, c.check.2 = r := ⟨_, rfl⟩
  obtain ⟨f, hf'⟩ : ∃ r, c.frame = r := ⟨_, rfl⟩
  obtain ⟨m, hm'⟩ : ∃ r, c.margin = r := ⟨_, rfl⟩
  obtain ⟨n, hn'⟩ : ∃ r, c.ws.length = r := ⟨_, rfl⟩
  have hm2 : c.tab.m = m := hm'
  have hn2 : c.tab.ws.length = n := hn'
  rw [hm2, hn2, hf'] at hnew
  rw [he2, hf', hm', hn'] at hck
  rw [hf', hm', hn']
  obtain ⟨td, htd⟩ : ∃ t, c.tab = t := ⟨_, rfl⟩
  rw [htd] at hnew ⊢
  have HC := Lib.hid hck
  have HN := Lib.hid hnew
  clear hck hnew he2 hk hf hf' hm' hn' hm2 hn2 hok htd
  go_enter Try.func91, Try.ntmps91
  go_wp2_with fail
  refine (HC.out _).mono ?_
  rintro e w1 ⟨rfl, hb⟩
  have hbx := (Blk.new w 71 #[.int .i64 f, .int .i64 m, .slice WA n wc, .slice PA c.ps.length pc, .slice CA c.cs.length cc]).below hb (by simp)
  have hb1 := (hA (.cells #[.int .i64 f, .int .i64 m, .slice WA n wc, .slice PA c.ps.length pc, .slice CA c.cs.length cc] 71)).trans (hb.mono (hA _).size)
  have x0 := hbx.cell 0 rfl
  have x1 := hbx.cell 1 rfl
  have x2 := hbx.cell 2 rfl
  go_wp2_with fail
  refine (HN.out _ hb1).mono ?_
  rintro e w2 ⟨T, rfl, hT, hTl, hb2⟩
  go_wp2
  go_ret
  exact ⟨T, rfl, hT, Nat.le_trans hb1.size hTl, hb1.trans (hb2.mono hb1.size)⟩
end
end Go.Proofs.Ytgljmflcbdhigaa
