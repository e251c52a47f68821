/- The looks of valid, one by one: the frame's, the windows'. -/
import Derived.Test.YtgljmflcbdhigaaConfN
set_option linter.unusedVariables false
set_option linter.unusedSimpArgs false
namespace Go.Proofs.Ytgljmflcbdhigaa
open Go.RowKit

def inD (n a b : Int) : Bool := decide (a ≤ n) && decide (n ≤ b)
theorem within_is (n a b : Int) (r : Bool) (h : inD n a b = r) (w : World) : Calls Try.prog 118 #[.int .i64 n, .int .i64 a, .int .i64 b] w fun e w' => e = .returned (.bool r) ∧ w = w' := by
  rw [← h]
  exact within_any n a b w
theorem ret_ei {a b c d : Int} (h1 : a = b) (h2 : c = d) : Ending.returned (.tuple #[.int .i64 a, .int .i64 c]) = .returned (.tuple #[.int .i64 b, .int .i64 d]) := by rw [h1, h2]

def sizeE (f m : Int) (np : Nat) : Int := if !inD f 1 256 || !inD m 0 8 then 20 else if !inD np 1 6 then 1 else 0
set_option maxHeartbeats 1000000 in
theorem size1_any (g : Nat) (f m : Int) (vw vc : Value) (PA : Option Addr) (np pc : Nat) (w : World) (hbx : Blk w g 71 #[.int .i64 f, .int .i64 m, vw, .slice PA np pc, vc]) :
    Calls Try.prog 117 #[.pointer (some ⟨g, 0, none⟩)] w fun e w' => e = .returned (.tuple #[.int .i64 (sizeE f m np), .int .i64 0]) ∧ Drawn w w' := by
  unfold sizeE
  obtain ⟨b1, hb1⟩ : ∃ b, inD f 1 256 = b := ⟨_, rfl⟩
  obtain ⟨b2, hb2⟩ : ∃ b, inD m 0 8 = b := ⟨_, rfl⟩
  obtain ⟨b3, hb3⟩ : ∃ b, inD np 1 6 = b := ⟨_, rfl⟩
  have h1 := fun W => within_is f 1 256 b1 hb1 W
  have h2 := fun W => within_is m 0 8 b2 hb2 W
  have h3 := fun W => within_is np 1 6 b3 hb3 W
  rw [hb1, hb2, hb3]
  have H1 := Lib.hid h1
  have H2 := Lib.hid h2
  have H3 := Lib.hid h3
  clear h1 h2 h3 hb1 hb2 hb3
  have c0 := hbx.cell 0 rfl
  have c1 := hbx.cell 1 rfl
  have c3 := hbx.cell 3 rfl
  go_enter Try.func117, Try.ntmps117
  go_wp2_with fail
  refine (H1.out _).mono ?_
  rintro e w1 ⟨rfl, rfl⟩
  cases b1 with
  | false =>
    go_wp2
    go_ret2
    exact ⟨ret_ei (by simp) rfl, Drawn.refl _⟩
  | true =>
    go_wp2_with fail
    refine (H2.out _).mono ?_
    rintro e w1 ⟨rfl, rfl⟩
    cases b2 with
    | false =>
      go_wp2
      go_ret2
      exact ⟨ret_ei (by simp) rfl, Drawn.refl _⟩
    | true =>
      go_wp2_with fail
      refine (H3.out _).mono ?_
      rintro e w1 ⟨rfl, rfl⟩
      cases b3 with
      | false =>
        go_wp2
        go_ret2
        exact ⟨ret_ei (by simp) rfl, Drawn.refl _⟩
      | true =>
        go_wp2
        go_ret2
        exact ⟨ret_ei (by simp) rfl, Drawn.refl _⟩

/-! ### windows -/
def winBad (f : Int) (np : Nat) (end_ : Int) (x : WinD) : Bool := decide (x.at_ < end_) || decide (f ≤ x.at_) || !inD x.len 1 (f - x.at_) || !hasD np x.part
def winFrom (f : Int) (np : Nat) : Int → Nat → List WinD → Int
  | _, _, [] => -1
  | en, k, x :: r => if winBad f np en x then (k : Int) else winFrom f np (x.at_ + x.len) (k + 1) r

set_option maxHeartbeats 1000000 in
theorem win11_any (G E : Nat) (f m : Int) (vw vc : Value) (PA : Option Addr) (np pc : Nat) (en : Int) (x : WinD) (w : World) (r : Bool) (hr : winBad f np en x = r) (hbx : Blk w G 71 #[.int .i64 f, .int .i64 m, vw, .slice PA np pc, vc]) (hbe : Blk w E 3 #[.int .i64 en]) (h1 : vw.oneCell' = true) (h2 : vc.oneCell' = true) (hen : 0 ≤ en) (hf : f ≤ 256) :
    Calls Try.prog 121 #[.agg #[.int .i64 x.at_, .int .i64 x.len, .int .i64 x.part], .pointer (some ⟨E, 0, none⟩), .pointer (some ⟨G, 0, none⟩)] w fun e w' => e = .returned (.bool r) ∧ Below E w w' ∧ Blk w' E 3 #[.int .i64 (if r then en else x.at_ + x.len)] := by
  obtain ⟨at_, len, part⟩ := x
  simp only at hr ⊢
  unfold winBad at hr
  simp only at hr
  obtain ⟨b3, hb3⟩ : ∃ b, inD len 1 (f - at_) = b := ⟨_, rfl⟩
  obtain ⟨b4, hb4⟩ : ∃ b, hasD np part = b := ⟨_, rfl⟩
  have hi := fun W => within_is len 1 (f - at_) b3 hb3 W
  have hh := fun W => has_is f m vw vc PA np pc part W b4 hb4 h1 h2
  rw [hb3, hb4] at hr
  have HI := Lib.hid hi
  have HH := Lib.hid hh
  have Hr := Lib.hid hr
  have HB3 := Lib.hid hb3
  clear hi hh hb3 hb4 hr
  have e0 := hbe.cell 0 rfl
  have c0 := hbx.cell 0 rfl
  have c1 := hbx.cell 1 rfl
  have c2 := hbx.cell 2 rfl
  have c3 := hbx.cell 3 rfl
  have c4 := hbx.cell 4 rfl
  have lG := hbx.lt
  have lE := hbe.lt
  have hbA : Below w.heap.size w (w.alloc (.cells #[.int .i64 at_, .int .i64 len, .int .i64 part] 154)) := (Below.refl _ _).alloc (Nat.le_refl _) _
  have kA := hbe.below hbA hbe.lt
  have hbx0 := Blk.new w 154 #[.int .i64 at_, .int .i64 len, .int .i64 part]
  by_cases q1 : at_ < en
  · have e : r = true := by rw [← Hr.out]; simp [q1]
    subst e
    go_enter Try.func121, Try.ntmps121
    go_wp2
    go_ret
    exact ⟨rfl, hbA.mono (by omega), kA⟩
  have q1' : en ≤ at_ := by omega
  by_cases q2 : f ≤ at_
  · have e : r = true := by rw [← Hr.out]; simp [q2]
    subst e
    go_enter Try.func121, Try.ntmps121
    go_wp2
    go_ret
    exact ⟨rfl, hbA.mono (by omega), kA⟩
  have q2' : at_ < f := by omega
  go_enter Try.func121, Try.ntmps121
  go_wp2_with fail
  refine (HI.out _).mono ?_
  rintro e w1 ⟨rfl, rfl⟩
  cases b3 with
  | false =>
    have e : r = true := by rw [← Hr.out]; simp
    subst e
    go_wp2
    go_ret
    exact ⟨rfl, hbA.mono (by omega), kA⟩
  | true =>
    go_wp2_with fail
    refine (HH.out _).mono ?_
    rintro e w1 ⟨rfl, hb⟩
    have hb1 : Below w.heap.size w w1 := hbA.trans (hb.mono hbA.size)
    have kB := kA.below hb kA.lt
    have hbx1 := hbx0.below hb hbx0.lt
    cases b4 with
    | false =>
      have e : r = true := by rw [← Hr.out]; simp
      subst e
      go_wp2
      go_ret
      exact ⟨rfl, hb1.mono (by omega), kB⟩
    | true =>
      have e : r = false := by rw [← Hr.out]; simp; omega
      subst e
      have d0 := hbx1.cell 0 rfl
      have d1 := hbx1.cell 1 rfl
      have k0 := kB.cell 0 rfl
      have kf := kB.free 0
      have i1 : 1 ≤ len ∧ len ≤ f - at_ := by have := HB3.out; simpa [inD] using this
      go_wp2
      go_ret
      have hbE : Below E w w1 := hb1.mono (by omega)
      exact ⟨rfl, hbE.setCell (p := ⟨E, 0, none⟩) (Nat.le_refl _) _, kB.set 0 _⟩

set_option maxHeartbeats 1000000 in
theorem indexWin_any (B : Nat) (A : Option Addr) (c : Nat) (l : List WinD) (G E : Nat) (f m : Int) (vw vc : Value) (PA : Option Addr) (np pc : Nat) (en : Int) (w : World) (hl : ∀ W, Below E w W → Row repW 154 B W A l) (hn : l.length ≤ 1000)
    (hbx : Blk w G 71 #[.int .i64 f, .int .i64 m, vw, .slice PA np pc, vc]) (hGE : G < E) (hbe : Blk w E 3 #[.int .i64 en]) (h1 : vw.oneCell' = true) (h2 : vc.oneCell' = true) (hen : 0 ≤ en) (hf : f ≤ 256) :
    Calls Try.prog 120 #[.slice A l.length c, .func (.func 121) #[] #[.pointer (some ⟨E, 0, none⟩), .pointer (some ⟨G, 0, none⟩)]] w fun e w' => e = .returned (.int .i64 (winFrom f np en 0 l)) ∧ Below E w w' := by
  obtain ⟨n, hn'⟩ : ∃ n, l.length = n := ⟨_, rfl⟩
  rw [hn']
  have Hn := Lib.hid hn'
  rw [hn'] at hn
  clear hn'
  obtain ⟨r, hr⟩ : ∃ r, winFrom f np en 0 l = r := ⟨_, rfl⟩
  rw [hr]
  have Hr := Lib.hid hr
  clear hr
  have lE := hbe.lt
  go_enter Try.func120, Try.ntmps120
  go_wp2
  go_loopw [8] (fun j wr => ∃ (k : Nat) (en : Int), k ≤ n ∧ j = .int .i64 k ∧ 0 ≤ en ∧ winFrom f np en k (l.drop k) = r ∧ Blk wr E 3 #[.int .i64 en] ∧ Below E w wr) (fun j _ => n - (intOf j).toNat)
  case atStart => exact ⟨0, en, Nat.zero_le _, rfl, hen, Hr.out, hbe, Below.refl _ _⟩
  case round =>
    clear hen hbe Hr
    obtain ⟨k, en, hk, rfl, hen, he, hbe, hb⟩ := hrel
    by_cases hlt : k < n
    · have hk2 : (k : Int) < (n : Int) := by omega
      have hbx1 := hbx.below hb hGE
      obtain ⟨ad, x, rfl, hbk, hx, c0, c1, c2⟩ := at_W (hl _ hb) (k := k) (by rw [Hn.out]; omega)
      rw [drop_cons' hx, winFrom] at he
      obtain ⟨rt, hrt⟩ : ∃ rt, winBad f np en x = rt := ⟨_, rfl⟩
      have hcall := win11_any G E f m vw vc PA np pc en x wr rt hrt hbx1 hbe h1 h2 hen hf
      have hnext : rt = false → 0 ≤ x.at_ + x.len := fun e => by
        rw [e] at hrt
        simp only [winBad, inD, Bool.or_eq_false_iff, decide_eq_false_iff_not, Bool.not_eq_false', Bool.and_eq_true, decide_eq_true_eq] at hrt
        omega
      rw [hrt] at he
      have He := Lib.hid he
      have HC := Lib.hid hcall
      have Hnext := Lib.hid hnext
      clear he hx hrt hcall hnext
      go_wp2_with fail
      refine HC.out.mono ?_
      rintro e w1 ⟨rfl, hb1, hbe1⟩
      have hb2 : Below E w w1 := hb.trans hb1
      clear c0 c1 c2
      cases rt with
      | true =>
        go_wp2
        go_ret
        exact ⟨ret_i (by have := He.out; simpa using this), hb2⟩
      | false =>
        have hn0 := Hnext.out rfl
        go_wp2
        go_roundw
        case rel => exact ⟨k + 1, x.at_ + x.len, by omega, by go_num, hn0, by have := He.out; simpa using this, hbe1, hb2⟩
        case measure => simp [intOf] <;> omega
    · have hk2 : ¬ (k : Int) < (n : Int) := by omega
      have e : r = -1 := by rw [← he, List.drop_of_length_le (by rw [Hn.out]; omega)]; rfl
      have E := Lib.hid e
      clear he e
      go_wp2
      go_ret
      exact ⟨ret_i E.out.symm, hb⟩

/-- An error, and where. -/
def winE (f : Int) (np : Nat) (l : List WinD) : Int × Int := if 32 < l.length then (21, 32) else if winFrom f np 0 0 l < 0 then (0, 0) else (21, winFrom f np 0 0 l)
set_option maxHeartbeats 1000000 in
theorem windows1_any (B : Nat) (A : Option Addr) (c : Nat) (l : List WinD) (G : Nat) (f m : Int) (vc : Value) (PA : Option Addr) (np pc : Nat) (w : World) (hl : Row repW 154 B w A l) (hn : l.length ≤ 1000) (hB : B ≤ w.heap.size)
    (hbx : Blk w G 71 #[.int .i64 f, .int .i64 m, .slice A l.length c, .slice PA np pc, vc]) (h2 : vc.oneCell' = true) (hf : f ≤ 256) :
    Calls Try.prog 119 #[.pointer (some ⟨G, 0, none⟩)] w fun e w' => e = .returned (.tuple #[.int .i64 (winE f np l).1, .int .i64 (winE f np l).2]) ∧ Below w.heap.size w w' := by
  unfold winE
  have hI := fun (E : Nat) (en : Int) (W : World) a c' d e h => indexWin_any B A c l G E f m (.slice A l.length c) vc PA np pc en W a hn c' d e rfl h2 h hf
  obtain ⟨n, hn'⟩ : ∃ n, l.length = n := ⟨_, rfl⟩
  rw [hn'] at hbx hI hn ⊢
  clear hn'
  have c2 := hbx.cell 2 rfl
  have lG := hbx.lt
  by_cases hm : 32 < n
  · have hm2 : (32 : Int) < (n : Int) := by omega
    rw [if_pos hm]
    go_enter Try.func119, Try.ntmps119
    go_wp2
    go_ret2
    exact ⟨rfl, Below.refl _ _⟩
  · have hm2 : ¬ (32 : Int) < (n : Int) := by omega
    rw [if_neg hm]
    obtain ⟨r, hr⟩ : ∃ r, winFrom f np 0 0 l = r := ⟨_, rfl⟩
    have hI0 := hI w.heap.size 0 (w.alloc (.cells #[.int .i64 0] 3)) (fun W hW => hl.keep fun j hj _ => (((Below.refl _ _).alloc (Nat.le_refl _) _).trans hW).block j hj) (hbx.alloc _) lG (Blk.new _ _ _) (Int.le_refl _)
    rw [hr] at hI0 ⊢
    have HI := Lib.hid hI0
    clear hI hI0 hr
    by_cases h0 : r < 0
    · rw [if_pos h0]
      go_enter Try.func119, Try.ntmps119
      go_wp2_with fail
      refine HI.out.mono ?_
      rintro e w1 ⟨rfl, hb⟩
      have hb1 : Below w.heap.size w w1 := ((Below.refl _ _).alloc (Nat.le_refl _) _).trans hb
      go_wp2
      go_ret2
      exact ⟨rfl, hb1⟩
    · rw [if_neg h0]
      go_enter Try.func119, Try.ntmps119
      go_wp2_with fail
      refine HI.out.mono ?_
      rintro e w1 ⟨rfl, hb⟩
      have hb1 : Below w.heap.size w w1 := ((Below.refl _ _).alloc (Nat.le_refl _) _).trans hb
      go_wp2
      go_ret2
      exact ⟨rfl, hb1⟩
end Go.Proofs.Ytgljmflcbdhigaa
