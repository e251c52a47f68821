/- The next open tick. -/
import Derived.Test.YtgljmflcbdhigaaFrameE
set_option linter.unusedVariables false
set_option linter.unusedSimpArgs false
namespace Go.Proofs.Ytgljmflcbdhigaa
open Go.RowKit

set_option maxHeartbeats 1000000 in
theorem searchNext_any (n : Nat) (g1 g2 g3 : Nat) (P : Nat → Bool) (w : World) (hn : n ≤ 1000000)
    (hf : ∀ i : Nat, i < n → ∀ W, Below w.heap.size w W → Calls Try.prog 141 #[.int .i64 i, .pointer (some ⟨g1, 0, none⟩), .pointer (some ⟨g2, 0, none⟩), .pointer (some ⟨g3, 0, none⟩)] W fun e w' => e = .returned (.bool (P i)) ∧ Below W.heap.size W w') :
    Calls Try.prog 140 #[.int .i64 n, .func (.func 141) #[] #[.pointer (some ⟨g1, 0, none⟩), .pointer (some ⟨g2, 0, none⟩), .pointer (some ⟨g3, 0, none⟩)]] w (SearchPost n P w) := by
  have Hf := Lib.hid hf
  clear hf
  go_enter Try.func140, Try.ntmps140
  go_wp2
  go_loopw [5, 6] (fun a b wr => ∃ i j : Nat, i ≤ j ∧ j ≤ n ∧ a = .int .i64 i ∧ b = .int .i64 j ∧ (j < n → P j = true) ∧ (0 < i → P (i - 1) = false) ∧ Below w.heap.size w wr) (fun a b _ => (intOf b).toNat - (intOf a).toNat)
  case atStart => exact ⟨0, n, Nat.zero_le _, Nat.le_refl _, rfl, rfl, fun h => absurd h (Nat.lt_irrefl _), fun h => absurd h (Nat.lt_irrefl _), Below.refl _ _⟩
  case round =>
    obtain ⟨i, j, hij, hjn, rfl, rfl, hpj, hpi, hb⟩ := hrel
    have Hpj := Lib.hid hpj
    have Hpi := Lib.hid hpi
    clear hpj hpi
    by_cases hlt : i < j
    · have hlt2 : (i : Int) < (j : Int) := by omega
      obtain ⟨h, hh⟩ : ∃ h : Nat, (i + j) / 2 = h := ⟨_, rfl⟩
      have hh1 : i ≤ h ∧ h < j := by omega
      have hc := Hf.out h (by omega) wr hb
      obtain ⟨r, hr⟩ : ∃ r, P h = r := ⟨_, rfl⟩
      rw [hr] at hc
      have HC := Lib.hid hc
      have Hr := Lib.hid hr
      clear hc hr
      have hh2 : ((i : Int) + (j : Int)) / 2 = (h : Int) := by omega
      clear hh
      go_wp2_with fail
      refine HC.out.mono ?_
      rintro e w1 ⟨rfl, hb1⟩
      have hb2 : Below w.heap.size w w1 := hb.trans (hb1.mono hb.size)
      cases r with
      | true =>
        go_wp2
        go_roundw
        case rel => exact ⟨i, h, by omega, by omega, rfl, rfl, fun _ => Hr.out, Hpi.out, hb2⟩
        case measure => simp [intOf] <;> omega
      | false =>
        go_wp2
        go_roundw
        case rel => exact ⟨h + 1, j, by omega, by omega, by go_num, rfl, Hpj.out, fun _ => Hr.out, hb2⟩
        case measure => simp [intOf] <;> omega
    · have hlt2 : ¬ (i : Int) < (j : Int) := by omega
      obtain rfl : i = j := by omega
      go_wp2
      go_ret
      exact ⟨i, rfl, ⟨hjn, Hpj.out, Hpi.out⟩, hb⟩


def knownD (p : Int) : Bool := decide (0 ≤ p) && decide (p < 6)
theorem known_any (B T : Nat) (t : TabD) (p : Int) (w : World) (hT : TabR B w T t) (ok : t.ok) : Calls Try.prog 154 #[.pointer (some ⟨T, 0, none⟩), .int .i64 p] w fun e w' => e = .returned (.bool (knownD p)) ∧ w = w' := by
  obtain ⟨cs, WA, wc, hT, hC⟩ := hT
  have kn := tnone_any T cs t.f w hT hC.c2 (by have := ok.f1; omega)
  have KN := Lib.hid kn
  clear kn
  unfold knownD
  by_cases h1 : 0 ≤ p
  · by_cases h2 : p < 6
    · go_enter Try.func154, Try.ntmps154
      go_wp2_with fail
      refine KN.out.mono ?_
      rintro e w1 ⟨rfl, rfl⟩
      go_wp2
      go_ret
      exact ⟨ret_b (by simp [h1, h2]), rfl⟩
    · have h2' : 6 ≤ p := by omega
      go_enter Try.func154, Try.ntmps154
      go_wp2_with fail
      refine KN.out.mono ?_
      rintro e w1 ⟨rfl, rfl⟩
      go_wp2
      go_ret
      exact ⟨ret_b (by simp [h1] <;> omega), rfl⟩
  · have h1' : p < 0 := by omega
    go_enter Try.func154, Try.ntmps154
    go_wp2_with fail
    refine KN.out.mono ?_
    rintro e w1 ⟨rfl, rfl⟩
    go_wp2
    go_ret
    exact ⟨ret_b (by simp <;> omega), rfl⟩

def TabD.cnt (t : TabD) (p : Int) (i : Nat) : Int := Proofs.Ytgljmflcbdhigaa.cnt (openB t.ws t.m p) i
def TabD.offered (t : TabD) (p : Int) : Int := if knownD p = true then t.cnt p t.f else 0
/-- The cell of a tally. -/
theorem TabR.ahead {B : Nat} {w : World} {T : Nat} {t : TabD} (h : TabR B w T t) (p : Nat) (hp : p < 6) : ∃ ad c, w.cell? ⟨T, 3 + p, none⟩ = some (.slice (some ad) (t.f + 1) c) ∧ (∀ i, i ≤ t.f → w.cell? (ad.add i) = some (.int .i64 (t.cnt p i))) ∧ w.cell? ⟨T, 2, none⟩ = some (.int .i64 t.f) := by
  obtain ⟨cs, WA, wc, h1, h2⟩ := h
  obtain ⟨A, c, h3, h4⟩ := h2.ah p hp
  obtain ⟨ad, x, hA, _, _⟩ := at_I h4.row (k := 0) (by rw [tally_len]; omega)
  subst hA
  refine ⟨ad, c, h1.cell _ h3, fun i hi => ?_, h1.cell _ h2.c2⟩
  obtain ⟨ad2, y, e, hy, hc⟩ := at_I h4.row (k := i) (by rw [tally_len]; omega)
  cases e
  rw [TabD.tally, tallyD, rowOf_get _ _ _ hi] at hy
  cases hy
  exact hc

set_option maxHeartbeats 1000000 in
theorem offered_any (B T : Nat) (t : TabD) (p : Int) (w : World) (hT : TabR B w T t) (ok : t.ok) : Calls Try.prog 139 #[.pointer (some ⟨T, 0, none⟩), .int .i64 p] w fun e w' => e = .returned (.int .i64 (t.offered p)) ∧ Drawn w w' := by
  have kk := known_any B T t p w hT ok
  unfold TabD.offered
  by_cases hk : knownD p = true
  · rw [if_pos hk]
    rw [hk] at kk
    have hk2 : 0 ≤ p ∧ p < 6 := by simpa [knownD] using hk
    obtain ⟨q, rfl⟩ : ∃ q : Nat, p = q := ⟨p.toNat, by omega⟩
    have hq : q < 6 := by omega
    obtain ⟨ad, c, c0, c1, c2⟩ := hT.ahead q hq
    have c3 := c1 t.f (Nat.le_refl _)
    have lT := hT.lt
    obtain ⟨f, hf⟩ : ∃ f, t.f = f := ⟨_, rfl⟩
    rw [hf] at c0 c2 c3 ⊢
    have i1 : (q : Int) < 6 := by omega
    have i2 : (0 : Int) ≤ (q : Int) := by omega
    have i3 : (f : Int) < ((f + 1 : Nat) : Int) := by omega
    have i4 : (0 : Int) ≤ (f : Int) := by omega
    have KK := Lib.hid kk
    clear kk hk c1 hf
    go_enter Try.func139, Try.ntmps139
    go_wp2_with fail
    refine KK.out.mono ?_
    rintro e w1 ⟨rfl, rfl⟩
    go_wp2
    go_quiet (fail)
    go_wp2
    go_ret
    exact ⟨rfl, (Drawn.refl _).drewN _⟩
  · rw [if_neg hk]
    have hk2 : knownD p = false := by simpa using hk
    rw [hk2] at kk
    have KK := Lib.hid kk
    clear kk hk hk2
    go_enter Try.func139, Try.ntmps139
    go_wp2_with fail
    refine KK.out.mono ?_
    rintro e w1 ⟨rfl, rfl⟩
    go_wp2
    go_ret
    exact ⟨rfl, Drawn.refl _⟩

/-- Open places among n from a place on, n being at most a frame. -/
def TabD.count (t : TabD) (p : Int) (a n : Nat) : Int :=
  if n = t.f then t.cnt p t.f else if t.f < a + n then t.cnt p t.f + t.cnt p (a + n - t.f) - t.cnt p a else t.cnt p (a + n) - t.cnt p a
theorem tcnt_bd (t : TabD) (p : Int) (i : Nat) : 0 ≤ t.cnt p i ∧ t.cnt p i ≤ i := cnt_bd _ i

set_option maxRecDepth 100000 in
set_option maxHeartbeats 4000000 in
theorem count_any (B T : Nat) (t : TabD) (p : Int) (tick : Int) (n a : Nat) (w : World) (hT : TabR B w T t) (ok : t.ok) (hk : knownD p = true) (hn : n ≤ t.f) (ha : tick % (t.f : Int) = a) :
    Calls Try.prog 142 #[.pointer (some ⟨T, 0, none⟩), .int .i64 p, .int .i64 tick, .int .i64 n] w fun e w' => e = .returned (.int .i64 (t.count p a n)) ∧ Drawn w w' := by
  have kk := known_any B T t p w hT ok
  rw [hk] at kk
  have hk2 : 0 ≤ p ∧ p < 6 := by simpa [knownD] using hk
  obtain ⟨q, rfl⟩ : ∃ q : Nat, p = q := ⟨p.toNat, by omega⟩
  have hq : q < 6 := by omega
  obtain ⟨ad, c, c0, c1, c2⟩ := hT.ahead q hq
  have lT := hT.lt
  have ko := fun N => quiet_drawn (offered_any B T t q (w.drewN N) (hT.drawn ((Drawn.refl _).drewN N)) ok)
  have km := fun W => mod_any tick t.f W (by have := ok.f1; omega) (by have := ok.f2; omega)
  have ha1 : a < t.f := by
    have := Int.emod_lt_of_pos tick (show (0 : Int) < t.f by have := ok.f1; omega)
    omega
  unfold TabD.offered at ko
  rw [if_pos hk] at ko
  rw [ha] at km
  have f1 := ok.f1
  have f2 := ok.f2
  have ca := c1 a (by omega)
  have bf := tcnt_bd t q t.f
  have ba := tcnt_bd t q a
  obtain ⟨f, hf⟩ : ∃ f, t.f = f := ⟨_, rfl⟩
  unfold TabD.count
  rw [hf] at c0 c1 c2 hn ha1 f1 f2 ko km bf ⊢
  obtain ⟨F, hF⟩ : ∃ x, t.cnt q f = x := ⟨_, rfl⟩
  obtain ⟨G, hG⟩ : ∃ x, t.cnt q a = x := ⟨_, rfl⟩
  rw [hF] at ko bf ⊢
  rw [hG] at ca ba ⊢
  have KK := Lib.hid kk
  have KO := Lib.hid ko
  have KM := Lib.hid km
  have C1 := Lib.hid c1
  have Hq := Lib.hid hq
  have HF := Lib.hid hF
  clear kk ko km c1 hk ok hT hF hG hf ha
  have e1 : max (n : Int) 0 = n := by omega
  have e2 : min (n : Int) 4611686018427387904 = n := by omega
  have g1 : (q : Int) < 6 := by omega
  have g2 : (0 : Int) ≤ (q : Int) := by omega
  have g3 : (f == 0) = false := by simp; omega
  have g4 : ((f : Int) == 0) = false := by simp; omega
  have g5 : ¬ (f : Int) = 0 := by omega
  by_cases hnf : n = f
  · rw [if_pos hnf]
    have e3 : (n : Int) % (f : Int) = 0 := by rw [hnf]; exact Int.emod_self
    have e4 : (n : Int) / (f : Int) = 1 := by rw [hnf]; exact Int.ediv_self (by omega)
    have y1 : IntKind.i64.wrap (F + G) = F + G := IntWalk.i64_in _ (by omega)
    have y2 : IntKind.i64.wrap (F + G - G) = F := by rw [show F + G - G = F by omega]; exact IntWalk.i64_in _ (by omega)
    have y4 : (a : Int) < ((f + 1 : Nat) : Int) := by omega
    have y5 : (0 : Int) ≤ (a : Int) := by omega
    clear hnf
    go_enter Try.func142, Try.ntmps142
    go_wp2_with fail
    refine KK.out.mono ?_
    rintro e w1 ⟨rfl, rfl⟩
    go_wp2_with fail
    refine (KM.out _).mono ?_
    rintro e w1 ⟨rfl, rfl⟩
    go_wp2
    go_quiet ((go_at_call 139; exact KO.out _))
    go_wp2
    go_quiet (fail)
    go_wp2
    go_ret
    exact ⟨rfl, ((Drawn.refl _).drewN _).drewN _⟩
  · rw [if_neg hnf]
    have hn2 : n < f := by omega
    have e3 : (n : Int) % (f : Int) = n := Int.emod_eq_of_lt (by omega) (by omega)
    have e4 : (n : Int) / (f : Int) = 0 := Int.ediv_eq_zero_of_lt (by omega) (by omega)
    have e5 : ((a : Int) + (n : Int)) = ((a + n : Nat) : Int) := by omega
    obtain ⟨b, hb⟩ : ∃ b, a + n = b := ⟨_, rfl⟩
    rw [hb] at e5 ⊢
    have z1 : (0 : Int) ≤ (b : Int) := by omega
    have z2 : (0 : Int) ≤ (a : Int) := by omega
    have z3 : (a : Int) < ((f + 1 : Nat) : Int) := by omega
    by_cases hbf : f < b
    · rw [if_pos hbf]
      obtain ⟨d, hd⟩ : ∃ d, b - f = d := ⟨_, rfl⟩
      have d1 : ((b : Int) - (f : Int)) = (d : Int) := by omega
      have d2 : (d : Int) < ((f + 1 : Nat) : Int) := by omega
      have d3 : (0 : Int) ≤ (d : Int) := by omega
      have d4 : (f : Int) < (b : Int) := by omega
      have cd := C1.out d (by omega)
      have cf := C1.out f (by omega)
      have bd := tcnt_bd t q d
      rw [hd]
      obtain ⟨H, hH⟩ : ∃ x, t.cnt q d = x := ⟨_, rfl⟩
      rw [hH] at cd bd ⊢
      have cf' : w.cell? (ad.add f) = some (.int .i64 F) := by rw [← HF.out]; exact cf
      clear cf hH hd hbf hb hnf
      have y1 : IntKind.i64.wrap (0 + H) = H := by rw [Int.zero_add]; exact IntWalk.i64_in _ (by omega)
      have y0 : IntKind.i64.wrap H = H := IntWalk.i64_in _ (by omega)
      have y2 : IntKind.i64.wrap (H + F) = F + H := by rw [show H + F = F + H from Int.add_comm _ _]; exact IntWalk.i64_in _ (by omega)
      have y3 : IntKind.i64.wrap (F + H - G) = F + H - G := IntWalk.i64_in _ (by omega)
      have y4 : (f : Int) < ((f + 1 : Nat) : Int) := by omega
      have y5 : (0 : Int) ≤ (f : Int) := by omega
      go_enter Try.func142, Try.ntmps142
      go_wp2_with fail
      refine KK.out.mono ?_
      rintro e w1 ⟨rfl, rfl⟩
      go_wp2_with fail
      refine (KM.out _).mono ?_
      rintro e w1 ⟨rfl, rfl⟩
      go_wp2
      go_quiet ((go_at_call 139; exact KO.out _))
      go_wp2
      go_quiet (fail)
      go_wp2
      go_quiet (fail)
      go_wp2
      go_ret
      exact ⟨rfl, ((Drawn.refl _).drewN _).drewN _⟩
    · rw [if_neg hbf]
      have d4 : ¬ (f : Int) < (b : Int) := by omega
      have cb := C1.out b (by omega)
      have bb := tcnt_bd t q b
      obtain ⟨H, hH⟩ : ∃ x, t.cnt q b = x := ⟨_, rfl⟩
      rw [hH] at cb bb ⊢
      clear hH hbf hb hnf
      have y1 : IntKind.i64.wrap (0 + H) = H := by rw [Int.zero_add]; exact IntWalk.i64_in _ (by omega)
      have y0 : IntKind.i64.wrap H = H := IntWalk.i64_in _ (by omega)
      have y3 : IntKind.i64.wrap (H - G) = H - G := IntWalk.i64_in _ (by omega)
      have y4 : (b : Int) < ((f + 1 : Nat) : Int) := by omega
      go_enter Try.func142, Try.ntmps142
      go_wp2_with fail
      refine KK.out.mono ?_
      rintro e w1 ⟨rfl, rfl⟩
      go_wp2_with fail
      refine (KM.out _).mono ?_
      rintro e w1 ⟨rfl, rfl⟩
      go_wp2
      go_quiet ((go_at_call 139; exact KO.out _))
      go_wp2
      go_quiet (fail)
      go_wp2
      go_ret
      exact ⟨rfl, ((Drawn.refl _).drewN _).drewN _⟩
end Go.Proofs.Ytgljmflcbdhigaa
