/- The next open tick: the program's and the document's are the same; gsched.Next. -/
import Derived.Test.YtgljmflcbdhigaaRefE
import Derived.Test.YtgljmflcbdhigaaGschD
set_option linter.unusedVariables false
set_option linter.unusedSimpArgs false
namespace Go.Proofs.Ytgljmflcbdhigaa
open Go.RowKit

theorem opens_ge {m : Int} {x : WinD} (hm : 0 ≤ m) (hx : 1 ≤ x.len) : x.at_ ≤ x.opens m := by unfold WinD.opens; omega
theorem isD_open (t : TabD) (ok : t.ok) (p tick : Int) (q : Nat) (hq : tick % (t.f : Int) = q) : isD t p tick = openB t.ws t.m p q := by
  obtain ⟨f1, f2, m1, m2, n1, hfit⟩ := ok
  have hall := fits_all t.f t.ws 0 (Int.le_refl _) hfit
  obtain ⟨_, hs⟩ := fits_sorted t.f t.ws 0 (Int.le_refl _) hfit
  unfold isD
  rw [owner_ownF, hq]
  unfold ownF openB
  cases hh : t.ws.find? (hitD q) with
  | none =>
    rw [List.find?_eq_none] at hh
    symm
    simp only [decide_eq_true_eq, show ((0 : Int) = 2) = False by simp, decide_false, Bool.false_and]
    rw [Bool.eq_false_iff]
    intro h
    rw [List.any_eq_true] at h
    obtain ⟨x, hx, hx2⟩ := h
    have h3 := hall x hx
    have h4 := hh x hx
    simp only [WinD.has, Bool.and_eq_true, decide_eq_true_eq] at hx2
    have h5 := hx2.2.1
    have h7 := opens_ge m1 h3.2.1
    have h6 := hx2.2.2
    exact h4 (by simp only [hitD, Bool.and_eq_true, decide_eq_true_eq]; omega)
  | some x =>
    have hx := List.mem_of_find?_eq_some hh
    have hx2 := List.find?_some hh
    have h3 := hall x hx
    have huniq : ∀ y ∈ t.ws, hitD q y = true → y = x := by
      intro y hy hy2
      obtain ⟨i, hi⟩ := List.getElem?_of_mem hx
      obtain ⟨j, hj⟩ := List.getElem?_of_mem hy
      simp only [hitD, Bool.and_eq_true, decide_eq_true_eq] at hx2 hy2
      rcases Nat.lt_trichotomy i j with h | h | h
      · have := hs i j x y h hi hj; omega
      · subst h
        rw [hi] at hj
        cases hj
        rfl
      · have := hs j i y x h hj hi; omega
    have hany : ∀ b, (x.part = p ∧ x.opens t.m ≤ q) = b → (t.ws.any (WinD.has t.m p q) = true) = b := by
      intro b hb
      rw [← hb, List.any_eq_true]
      apply propext
      constructor
      · rintro ⟨y, hy, hy2⟩
        simp only [WinD.has, Bool.and_eq_true, decide_eq_true_eq] at hy2
        have h4 := hall y hy
        have : y = x := huniq y hy (by
          simp only [hitD, Bool.and_eq_true, decide_eq_true_eq]
          have := hy2.2.1
          have h7 := opens_ge m1 h4.2.1
          omega)
        subst this
        exact ⟨hy2.1, hy2.2.1⟩
      · rintro ⟨h4, h5⟩
        simp only [hitD, Bool.and_eq_true, decide_eq_true_eq] at hx2
        exact ⟨x, hx, by simp only [WinD.has, Bool.and_eq_true, decide_eq_true_eq]; exact ⟨h4, h5, hx2.2⟩⟩
    rw [Bool.eq_iff_iff, hany _ rfl]
    simp only
    split
    · rename_i h
      simp
      intro _
      omega
    · rename_i h
      simp
      intro _
      omega

theorem firstN_uniq {f : Nat} {P : Nat → Bool} {n n' : Nat} (h : FirstN f P n) (h' : FirstN f P n') : n = n' := by
  rcases Nat.lt_trichotomy n n' with h1 | h1 | h1
  · have := h'.2.2 n h1; rw [h.2.1] at this; cases this
  · exact h1
  · have := h.2.2 n' h1; rw [h'.2.1] at this; cases this
/-- Both answer alike. -/
theorem next_same (t : TabD) (ok : t.ok) (p tick : Int) (w w1 w' w1' : World) (e e' : Ending) (h : TNextPost t p tick w e w1) (h' : RNextPost t p (min tick 4611686018427387904) w' e' w1') : ∃ (n : Int) (b : Bool), e = .returned (.tuple #[.int .i64 n, .bool b]) ∧ e' = .returned (.tuple #[.int .i64 n, .bool b]) := by
  obtain ⟨tk, htk⟩ : ∃ x, min tick 4611686018427387904 = x := ⟨_, rfl⟩
  unfold TNextPost at h
  rw [htk] at h h'
  have f1 := ok.f1
  have hmod : ∀ (a i : Nat), tk % (t.f : Int) = a → isD t p (tk + (i : Int)) = openB t.ws t.m p ((a + i) % t.f) := by
    intro a i ha
    refine isD_open t ok p _ _ ?_
    rw [← Int.emod_add_emod, ha]
    norm_cast
  rcases h with ⟨⟨hz, rfl⟩ | ⟨hk, n, a, ha, hn, rfl⟩, _⟩
  · rcases h' with ⟨⟨hno, rfl⟩ | ⟨n', hn', rfl⟩, _⟩
    · exact ⟨0, false, rfl, rfl⟩
    · exfalso
      obtain ⟨a, ha⟩ : ∃ a : Nat, tk % (t.f : Int) = a := ⟨(tk % (t.f : Int)).toNat, by have := Int.emod_nonneg tk (show (t.f : Int) ≠ 0 by omega); omega⟩
      have h1 := hn'.2.1
      simp only [hmod a n' ha] at h1
      rcases hz with hz | hz
      · unfold openB at h1
        rw [List.any_eq_true] at h1
        obtain ⟨x, hx, hx2⟩ := h1
        have h3 := fits_all t.f t.ws 0 (Int.le_refl _) (by have := ok; obtain ⟨_, _, _, _, _, h⟩ := this; exact h) x hx
        simp only [WinD.has, Bool.and_eq_true, decide_eq_true_eq] at hx2
        have : knownD p = true := by simp [knownD]; omega
        rw [hz] at this; cases this
      · rw [none_open t p hz _ (Nat.mod_lt _ (by omega))] at h1
        cases h1
  · rcases h' with ⟨⟨hno, rfl⟩ | ⟨n', hn', rfl⟩, _⟩
    · exfalso
      have h1 := hno n hn.1
      rw [hmod a n ha] at h1
      have h2 := hn.2.1
      simp only at h2
      rw [h1] at h2
      cases h2
    · have : n = n' := firstN_uniq (P := fun i => openB t.ws t.m p ((a + i) % t.f)) hn ⟨hn'.1, by have := hn'.2.1; simpa only [hmod a _ ha] using this, fun j hj => by have := hn'.2.2 j hj; simpa only [hmod a _ ha] using this⟩
      subst this
      exact ⟨_, true, rfl, rfl⟩

set_option maxHeartbeats 1000000 in
theorem snext_any (B S : Nat) (c : CfgD) (T : Nat) (DA : Option Addr) (dc : Nat) (p tick : Int) (w : World) (h : SchR B w S c T DA dc) (ok : c.tab.ok) (ht : -9223372036854775808 ≤ tick) :
    Calls Try.prog 46 #[.pointer (some ⟨S, 0, none⟩), .int .i64 p, .int .i64 tick] w (TNextPost c.tab p tick w) := by
  have kn := snone_some S T (.slice DA c.ps.length dc) w h.blk
  have kt := tnext_any B T c.tab p tick w h.tab ok ht
  have s0 := h.blk.cell 0 rfl
  have lS := h.blk.lt
  have KN := Lib.hid kn
  have KT := Lib.hid kt
  clear kn kt h ok
  go_enter Try.func46, Try.ntmps46
  go_wp2_with fail
  refine KN.out.mono ?_
  rintro e w1 ⟨rfl, rfl⟩
  go_wp2_with fail
  refine KT.out.mono ?_
  rintro e w1 hp
  obtain ⟨n, b, he⟩ : ∃ n b, e = .returned (.tuple #[.int .i64 n, .bool b]) := by
    rcases hp with ⟨⟨_, rfl⟩ | ⟨_, n, a, _, _, rfl⟩, _⟩
    · exact ⟨_, _, rfl⟩
    · exact ⟨_, _, rfl⟩
  subst he
  have HP := Lib.hid hp
  clear hp
  go_wp2
  go_ret2
  exact HP.out
end Go.Proofs.Ytgljmflcbdhigaa
