/- The next open tick: Table.Next. -/
import Derived.Test.YtgljmflcbdhigaaFrameF
set_option linter.unusedVariables false
set_option linter.unusedSimpArgs false
namespace Go.Proofs.Ytgljmflcbdhigaa
open Go.RowKit

def nextP (t : TabD) (p : Int) (a : Nat) (i : Nat) : Bool := decide (0 < t.count p a (i + 1))

set_option maxHeartbeats 1000000 in
theorem next1_any (B T : Nat) (t : TabD) (p tick : Int) (a i : Nat) (g1 g2 g3 : Nat) (w : World) (hT : TabR B w T t) (ok : t.ok) (hk : knownD p = true) (hi : i < t.f) (ha : tick % (t.f : Int) = a)
    (h1 : Blk w g1 118 #[.pointer (some ⟨T, 0, none⟩)]) (h2 : Blk w g2 3 #[.int .i64 p]) (h3 : Blk w g3 3 #[.int .i64 tick]) :
    Calls Try.prog 141 #[.int .i64 i, .pointer (some ⟨g1, 0, none⟩), .pointer (some ⟨g2, 0, none⟩), .pointer (some ⟨g3, 0, none⟩)] w fun e w' => e = .returned (.bool (nextP t p a i)) ∧ Drawn w w' := by
  have d1 := h1.cell 0 rfl
  have d2 := h2.cell 0 rfl
  have d3 := h3.cell 0 rfl
  have hc := count_any B T t p tick (i + 1) a w hT ok hk (by omega) ha
  have f2 := ok.f2
  have e1 : ((i + 1 : Nat) : Int) = (i : Int) + 1 := by omega
  rw [e1] at hc
  unfold nextP
  obtain ⟨C, hC⟩ : ∃ x, t.count p a (i + 1) = x := ⟨_, rfl⟩
  rw [hC] at hc ⊢
  have HC := Lib.hid hc
  clear hc hC ok hT ha
  go_enter Try.func141, Try.ntmps141
  go_wp2_with fail
  refine HC.out.mono ?_
  rintro e w1 ⟨rfl, hd⟩
  go_wp2
  go_ret
  exact ⟨rfl, hd⟩

/-! ### plain -/
theorem bcnt_succ (g : Nat → Bool) (i : Nat) : cnt g (i + 1) = cnt g i + (if g i then 1 else 0) := rfl
theorem count_zero (t : TabD) (p : Int) (a : Nat) (hf : 1 ≤ t.f) (ha : a < t.f) : t.count p a 0 = 0 := by
  unfold TabD.count
  rw [if_neg (by omega), if_neg (by omega)]
  simp
theorem count_succ (t : TabD) (p : Int) (a k : Nat) (hf : 1 ≤ t.f) (ha : a < t.f) (hk : k < t.f) : t.count p a (k + 1) = t.count p a k + (if openB t.ws t.m p ((a + k) % t.f) then 1 else 0) := by
  have key : ∀ n, n ≤ t.f → t.count p a n = if t.f < a + n then t.cnt p t.f + t.cnt p (a + n - t.f) - t.cnt p a else t.cnt p (a + n) - t.cnt p a := by
    intro n hn
    unfold TabD.count
    by_cases h : n = t.f
    · rw [if_pos h]
      subst h
      by_cases h0 : a = 0
      · subst h0
        rw [if_neg (by omega)]
        simp [TabD.cnt, cnt]
      · rw [if_pos (by omega), show a + t.f - t.f = a by omega]
        omega
    · rw [if_neg h]
  rw [key _ (by omega), key _ (by omega)]
  unfold TabD.cnt
  by_cases h1 : t.f < a + k
  · rw [if_pos (by omega), if_pos h1, show a + (k + 1) - t.f = (a + k - t.f) + 1 by omega, bcnt_succ]
    have hm : (a + k) % t.f = a + k - t.f := by
      rw [Nat.mod_eq_sub_mod (by omega), Nat.mod_eq_of_lt (by omega)]
    rw [hm]
    omega
  · by_cases h2 : t.f = a + k
    · rw [if_pos (by omega), if_neg h1, show a + (k + 1) - t.f = 0 + 1 by omega, bcnt_succ, ← h2, Nat.mod_self]
      simp [cnt]
      omega
    · rw [if_neg (by omega), if_neg h1, show a + (k + 1) = (a + k) + 1 by omega, bcnt_succ, Nat.mod_eq_of_lt (by omega)]
      omega
theorem count_mono (t : TabD) (p : Int) (a : Nat) (hf : 1 ≤ t.f) (ha : a < t.f) : ∀ n, n ≤ t.f → ∀ j, j < n → (if openB t.ws t.m p ((a + j) % t.f) then 1 else 0) ≤ t.count p a n ∧ 0 ≤ t.count p a n := by
  intro n
  induction n with
  | zero => intro _ j hj; omega
  | succ n ih =>
    intro hn j hj
    rw [count_succ t p a n hf ha (by omega)]
    have h0 : 0 ≤ t.count p a n := by
      cases n with
      | zero => rw [count_zero t p a hf ha]; omega
      | succ n => exact (ih (by omega) n (by omega)).2
    by_cases hjn : j = n
    · subst hjn
      exact ⟨by split <;> omega, by split <;> omega⟩
    · have := (ih (by omega) j (by omega)).1
      constructor
      · split <;> split <;> simp_all <;> omega
      · split <;> omega
/-- The first open place. -/
def FirstN (f : Nat) (P : Nat → Bool) (n : Nat) : Prop := n < f ∧ P n = true ∧ ∀ j, j < n → P j = false
theorem between_first (t : TabD) (p : Int) (a n : Nat) (hf : 1 ≤ t.f) (ha : a < t.f) (ho : t.cnt p t.f ≠ 0) (h : Between t.f (nextP t p a) n) : FirstN t.f (fun i => openB t.ws t.m p ((a + i) % t.f)) n := by
  obtain ⟨h1, h2, h3⟩ := h
  have hlt : n < t.f := by
    rcases Nat.lt_or_ge n t.f with h | h
    · exact h
    · exfalso
      obtain rfl : n = t.f := by omega
      have h4 := h3 (by omega)
      unfold nextP at h4
      rw [show t.f - 1 + 1 = t.f by omega] at h4
      have h5 : t.count p a t.f = t.cnt p t.f := by unfold TabD.count; rw [if_pos rfl]
      have := tcnt_bd t p t.f
      simp only [decide_eq_false_iff_not, h5] at h4
      omega
  have hz : t.count p a n ≤ 0 := by
    rcases Nat.eq_zero_or_pos n with h | h
    · subst h; rw [count_zero t p a hf ha]; omega
    · have h4 := h3 h
      unfold nextP at h4
      rw [show n - 1 + 1 = n by omega] at h4
      simpa using h4
  refine ⟨hlt, ?_, fun j hj => ?_⟩
  · have h4 := h2 hlt
    unfold nextP at h4
    rw [count_succ t p a n hf ha hlt] at h4
    simp only [decide_eq_true_eq] at h4
    cases hh : openB t.ws t.m p ((a + n) % t.f) with
    | true => exact hh
    | false => simp [hh] at h4; omega
  · have h4 := (count_mono t p a hf ha n h1 j hj).1
    cases hh : openB t.ws t.m p ((a + j) % t.f) with
    | false => exact hh
    | true => simp [hh] at h4; omega
theorem none_open (t : TabD) (p : Int) (ho : t.cnt p t.f = 0) : ∀ i, i < t.f → openB t.ws t.m p i = false := by
  have : ∀ n, ∀ i, i < n → openB t.ws t.m p i = true → 1 ≤ t.cnt p n := by
    intro n
    induction n with
    | zero => intro i hi; omega
    | succ n ih =>
      intro i hi h
      have e : t.cnt p (n + 1) = t.cnt p n + (if openB t.ws t.m p n then 1 else 0) := rfl
      have := tcnt_bd t p n
      rw [e]
      by_cases hin : i = n
      · subst hin; simp [h]; omega
      · have := ih i (by omega) h
        split <;> omega
  intro i hi
  cases hh : openB t.ws t.m p i with
  | false => rfl
  | true => have := this t.f i hi hh; omega

theorem TabR.frame {B : Nat} {w : World} {T : Nat} {t : TabD} (h : TabR B w T t) : w.cell? ⟨T, 2, none⟩ = some (.int .i64 t.f) := (h.ahead 0 (by omega)).choose_spec.choose_spec.2.2
def TNextPost (t : TabD) (p tick : Int) (w : World) (e : Ending) (w' : World) : Prop :=
  (((knownD p = false ∨ t.cnt p t.f = 0) ∧ e = .returned (.tuple #[.int .i64 0, .bool false])) ∨
   (knownD p = true ∧ ∃ n a : Nat, (min tick 4611686018427387904) % (t.f : Int) = a ∧ FirstN t.f (fun i => openB t.ws t.m p ((a + i) % t.f)) n ∧ e = .returned (.tuple #[.int .i64 (min tick 4611686018427387904 + n), .bool true]))) ∧ Below w.heap.size w w'

set_option maxRecDepth 100000 in
set_option maxHeartbeats 4000000 in
theorem tnext_any (B T : Nat) (t : TabD) (p tick : Int) (w : World) (hT : TabR B w T t) (ok : t.ok) (ht : -9223372036854775808 ≤ tick) :
    Calls Try.prog 97 #[.pointer (some ⟨T, 0, none⟩), .int .i64 p, .int .i64 tick] w (TNextPost t p tick w) := by
  have hbA : Below w.heap.size w (((w.alloc (.cells #[.pointer (some ⟨T, 0, none⟩)] 118)).alloc (.cells #[.int .i64 p] 3)).alloc (.cells #[.int .i64 tick] 3)) := (((Below.refl _ _).alloc (Nat.le_refl _) _).alloc (by simp) _).alloc (by simp <;> omega) _
  have hg1 := ((Blk.new w 118 #[.pointer (some ⟨T, 0, none⟩)]).alloc (.cells #[.int .i64 p] 3)).alloc (.cells #[.int .i64 tick] 3)
  have hg2 := (Blk.new' (w.alloc (.cells #[.pointer (some ⟨T, 0, none⟩)] 118)) (w.heap.size + 1) 3 #[.int .i64 p] (by simp)).alloc (.cells #[.int .i64 tick] 3)
  have hg3 := Blk.new' ((w.alloc (.cells #[.pointer (some ⟨T, 0, none⟩)] 118)).alloc (.cells #[.int .i64 p] 3)) (w.heap.size + 2) 3 #[.int .i64 tick] (by simp)
  have hsz : (((w.alloc (.cells #[.pointer (some ⟨T, 0, none⟩)] 118)).alloc (.cells #[.int .i64 p] 3)).alloc (.cells #[.int .i64 tick] 3)).heap.size = w.heap.size + 3 := by simp
  obtain ⟨W3, hW3⟩ : ∃ x, ((w.alloc (.cells #[.pointer (some ⟨T, 0, none⟩)] 118)).alloc (.cells #[.int .i64 p] 3)).alloc (.cells #[.int .i64 tick] 3) = x := ⟨_, rfl⟩
  have HW := Lib.hid hW3
  rw [hW3] at hbA hg1 hg2 hg3 hsz
  clear hW3
  have hT3 := hT.below hbA (Nat.le_refl _)
  have ho := offered_any B T t p W3 hT3 ok
  have f1 := ok.f1
  have f2 := ok.f2
  obtain ⟨tk, htk⟩ : ∃ x, min tick 4611686018427387904 = x := ⟨_, rfl⟩
  have htk2 : tk ≤ 4611686018427387904 := by omega
  have htk3 : -9223372036854775808 ≤ tk := by omega
  obtain ⟨a, ha⟩ : ∃ a : Nat, tk % (t.f : Int) = a := ⟨(tk % (t.f : Int)).toNat, by have := Int.emod_nonneg tk (show (t.f : Int) ≠ 0 by omega); omega⟩
  have ha1 : a < t.f := by
    have := Int.emod_lt_of_pos tk (show (0 : Int) < t.f by omega)
    omega
  have lT := hT3.lt
  by_cases hz : t.offered p = 0
  · have hz2 : knownD p = false ∨ t.cnt p t.f = 0 := by
      unfold TabD.offered at hz
      cases hk : knownD p with
      | false => exact .inl rfl
      | true => rw [hk, if_pos rfl] at hz; exact .inr hz
    rw [hz] at ho
    have d1 : W3.cell? ⟨w.heap.size, 0, none⟩ = some (.pointer (some ⟨T, 0, none⟩)) := hg1.cell 0 rfl
    have d2 : W3.cell? ⟨w.heap.size + 1, 0, none⟩ = some (.int .i64 p) := hg2.cell 0 rfl
    rw [← HW.out] at d1 d2 ho
    have HO := Lib.hid ho
    have HZ := Lib.hid hz2
    have HB := Lib.hid hbA
    clear ho hz hz2 ok hT hT3 hg1 hg2 hg3 hbA
    go_enter Try.func97, Try.ntmps97
    go_wp2_with fail
    refine HO.out.mono ?_
    rintro e w1 ⟨rfl, hd⟩
    rw [HW.out] at hd
    have hb1 := (HB.out.trans ((hd.below W3.heap.size).mono HB.out.size))
    go_wp2
    refine bodyPost_ret (v := .tuple #[.int .i64 0, .bool false]) ?_ rfl ?_
    · simp [results, Try.results97, go_sem]
    · exact ⟨.inl ⟨HZ.out, rfl⟩, hb1⟩
  · have hk : knownD p = true := by
      cases hk : knownD p with
      | true => rfl
      | false => exact absurd (by unfold TabD.offered; rw [hk]; rfl) hz
    have hz2 : t.cnt p t.f ≠ 0 := by
      unfold TabD.offered at hz
      rwa [hk, if_pos rfl] at hz
    rcases (show (tick ≤ 4611686018427387904 ∧ tick = tk) ∨ (4611686018427387904 < tick ∧ tk = 4611686018427387904) by omega) with ⟨g, e⟩ | ⟨g, e⟩
    · subst e
      obtain ⟨F, hF⟩ : ∃ x, t.offered p = x := ⟨_, rfl⟩
      rw [hF] at ho hz
      have z1 : (F == 0) = false := by simpa using hz
      have d1 : W3.cell? ⟨w.heap.size, 0, none⟩ = some (.pointer (some ⟨T, 0, none⟩)) := hg1.cell 0 rfl
      have d2 : W3.cell? ⟨w.heap.size + 1, 0, none⟩ = some (.int .i64 p) := hg2.cell 0 rfl
      rw [← HW.out] at d1 d2 ho
      have hfin := fun n => between_first t p a n f1 ha1 hz2
      have hs := fun (W : World) (h1 : Blk W w.heap.size 118 #[.pointer (some ⟨T, 0, none⟩)]) (h2 : Blk W (w.heap.size + 1) 3 #[.int .i64 p]) (h3 : Blk W (w.heap.size + 1 + 1) 3 #[.int .i64 tick]) (h4 : TabR B W T t) =>
        searchNext_any t.f w.heap.size (w.heap.size + 1) (w.heap.size + 1 + 1) (nextP t p a) W (by omega) (fun i hi W' hW' =>
          (next1_any B T t p tick a i w.heap.size (w.heap.size + 1) (w.heap.size + 1 + 1) W' (h4.below hW' (Nat.le_refl _)) ok hk hi ha (h1.below hW' h1.lt) (h2.below hW' h2.lt) (h3.below hW' h3.lt)).mono fun e w' ⟨a, b⟩ => ⟨a, b.below _⟩)
      obtain ⟨f, hf⟩ : ∃ f, t.f = f := ⟨_, rfl⟩
      have Ha := Lib.hid ha
      rw [hf] at hs f1 f2 ha1
      have HO := Lib.hid ho
      have HS := Lib.hid hs
      have HT := Lib.hid hT3
      have HB := Lib.hid hbA
      have HF := Lib.hid hfin
      have HK := Lib.hid hk
      have H0 := Lib.hid hT
      have Hf := Lib.hid hf
      have Htk := Lib.hid htk
      clear ho hs hT hT3 hbA hfin hk hz hz2 hF ok ha hf
      go_enter Try.func97, Try.ntmps97
      go_wp2_with fail
      refine HO.out.mono ?_
      rintro e w1 ⟨rfl, hd⟩
      rw [HW.out] at hd
      have hb1 := (HB.out.trans ((hd.below W3.heap.size).mono HB.out.size))
      have k1 := hg1.drawn hd
      have k2 := hg2.drawn hd
      have k3 := hg3.drawn hd
      have c3 := (HT.out.drawn hd).frame
      rw [Hf.out] at c3
      clear d1 d2 hg1 hg2 hg3
      have d1 : w1.cell? ⟨w.heap.size, 0, none⟩ = some (.pointer (some ⟨T, 0, none⟩)) := k1.cell 0 rfl
      have d2 : w1.cell? ⟨w.heap.size + 1, 0, none⟩ = some (.int .i64 p) := k2.cell 0 rfl
      have d3 : w1.cell? ⟨w.heap.size + 1 + 1, 0, none⟩ = some (.int .i64 tick) := k3.cell 0 rfl
      have d4 := k3.free 0
      have m1 := k1.far (p := ⟨w.heap.size + 1 + 1, 0, none⟩) (show w.heap.size ≠ w.heap.size + 1 + 1 by omega) (.int .i64 tick)
      have m2 := k2.far (p := ⟨w.heap.size + 1 + 1, 0, none⟩) (show w.heap.size + 1 ≠ w.heap.size + 1 + 1 by omega) (.int .i64 tick)
      have m3 : Blk (w1.setCell ⟨w.heap.size + 1 + 1, 0, none⟩ (.int .i64 tick)) (w.heap.size + 1 + 1) 3 #[.int .i64 tick] := k3.set 0 (.int .i64 tick)
      have hb2 := hb1.setCell (p := ⟨w.heap.size + 1 + 1, 0, none⟩) (show w.heap.size ≤ w.heap.size + 1 + 1 by omega) (.int .i64 tick)
      have m4 := H0.out.below hb2 (Nat.le_refl _)
      have lT2 := m4.lt
      have c4 := m4.frame
      rw [Hf.out] at c4
      have q1 : (w1.setCell ⟨w.heap.size + 1 + 1, 0, none⟩ (.int .i64 tick)).cell? ⟨w.heap.size, 0, none⟩ = some (.pointer (some ⟨T, 0, none⟩)) := m1.cell 0 rfl
      have q3 : (w1.setCell ⟨w.heap.size + 1 + 1, 0, none⟩ (.int .i64 tick)).cell? ⟨w.heap.size + 1 + 1, 0, none⟩ = some (.int .i64 tick) := m3.cell 0 rfl
      have M := And.intro m1 (And.intro m2 (And.intro m3 m4))
      have HM := Lib.hid M
      clear k1 k2 k3 m1 m2 m3 m4 M
      have hs2 := HS.out _ HM.out.1 HM.out.2.1 HM.out.2.2.1 HM.out.2.2.2
      have HS2 := Lib.hid hs2
      clear hs2 HM HS
      go_wp2_with fail
      refine HS2.out.mono ?_
      rintro e w2 ⟨r, rfl, hbt, hb3⟩
      have hb4 := hb2.trans (hb3.mono hb2.size)
      have hr := hbt.1
      have q4 : w2.cell? ⟨w.heap.size + 1 + 1, 0, none⟩ = some (.int .i64 tick) := by rw [hb3.cell (World.block_lt_of_cell? _ _ q3)]; exact q3
      have y1 : IntKind.i64.wrap (tick + (r : Int)) = tick + (r : Int) := IntWalk.i64_in _ (by omega)
      have Hr := Lib.hid (HF.out r (by rw [Hf.out]; exact hbt))
      clear hbt HF
      go_wp2
      refine bodyPost_ret (v := .tuple #[.int .i64 (tick + r), .bool true]) ?_ rfl ?_
      · simp [results, Try.results97, go_sem]
      · exact ⟨.inr ⟨HK.out, r, a, by rw [Htk.out]; exact Ha.out, Hr.out, by rw [Htk.out]⟩, hb4⟩
    · subst e
      obtain ⟨F, hF⟩ : ∃ x, t.offered p = x := ⟨_, rfl⟩
      rw [hF] at ho hz
      have z1 : (F == 0) = false := by simpa using hz
      have d1 : W3.cell? ⟨w.heap.size, 0, none⟩ = some (.pointer (some ⟨T, 0, none⟩)) := hg1.cell 0 rfl
      have d2 : W3.cell? ⟨w.heap.size + 1, 0, none⟩ = some (.int .i64 p) := hg2.cell 0 rfl
      rw [← HW.out] at d1 d2 ho
      have hfin := fun n => between_first t p a n f1 ha1 hz2
      have hs := fun (W : World) (h1 : Blk W w.heap.size 118 #[.pointer (some ⟨T, 0, none⟩)]) (h2 : Blk W (w.heap.size + 1) 3 #[.int .i64 p]) (h3 : Blk W (w.heap.size + 1 + 1) 3 #[.int .i64 4611686018427387904]) (h4 : TabR B W T t) =>
        searchNext_any t.f w.heap.size (w.heap.size + 1) (w.heap.size + 1 + 1) (nextP t p a) W (by omega) (fun i hi W' hW' =>
          (next1_any B T t p 4611686018427387904 a i w.heap.size (w.heap.size + 1) (w.heap.size + 1 + 1) W' (h4.below hW' (Nat.le_refl _)) ok hk hi ha (h1.below hW' h1.lt) (h2.below hW' h2.lt) (h3.below hW' h3.lt)).mono fun e w' ⟨a, b⟩ => ⟨a, b.below _⟩)
      obtain ⟨f, hf⟩ : ∃ f, t.f = f := ⟨_, rfl⟩
      have Ha := Lib.hid ha
      rw [hf] at hs f1 f2 ha1
      have HO := Lib.hid ho
      have HS := Lib.hid hs
      have HT := Lib.hid hT3
      have HB := Lib.hid hbA
      have HF := Lib.hid hfin
      have HK := Lib.hid hk
      have H0 := Lib.hid hT
      have Hf := Lib.hid hf
      have HTK := Lib.hid htk
      clear ho hs hT hT3 hbA hfin hk hz hz2 hF ok ha hf
      go_enter Try.func97, Try.ntmps97
      go_wp2_with fail
      refine HO.out.mono ?_
      rintro e w1 ⟨rfl, hd⟩
      rw [HW.out] at hd
      have hb1 := (HB.out.trans ((hd.below W3.heap.size).mono HB.out.size))
      have k1 := hg1.drawn hd
      have k2 := hg2.drawn hd
      have k3 := hg3.drawn hd
      have c3 := (HT.out.drawn hd).frame
      rw [Hf.out] at c3
      clear d1 d2 hg1 hg2 hg3
      have d1 : w1.cell? ⟨w.heap.size, 0, none⟩ = some (.pointer (some ⟨T, 0, none⟩)) := k1.cell 0 rfl
      have d2 : w1.cell? ⟨w.heap.size + 1, 0, none⟩ = some (.int .i64 p) := k2.cell 0 rfl
      have d3 : w1.cell? ⟨w.heap.size + 1 + 1, 0, none⟩ = some (.int .i64 tick) := k3.cell 0 rfl
      have d4 := k3.free 0
      have m1 := k1.far (p := ⟨w.heap.size + 1 + 1, 0, none⟩) (show w.heap.size ≠ w.heap.size + 1 + 1 by omega) (.int .i64 4611686018427387904)
      have m2 := k2.far (p := ⟨w.heap.size + 1 + 1, 0, none⟩) (show w.heap.size + 1 ≠ w.heap.size + 1 + 1 by omega) (.int .i64 4611686018427387904)
      have m3 : Blk (w1.setCell ⟨w.heap.size + 1 + 1, 0, none⟩ (.int .i64 4611686018427387904)) (w.heap.size + 1 + 1) 3 #[.int .i64 4611686018427387904] := k3.set 0 (.int .i64 4611686018427387904)
      have hb2 := hb1.setCell (p := ⟨w.heap.size + 1 + 1, 0, none⟩) (show w.heap.size ≤ w.heap.size + 1 + 1 by omega) (.int .i64 4611686018427387904)
      have m4 := H0.out.below hb2 (Nat.le_refl _)
      have lT2 := m4.lt
      have c4 := m4.frame
      rw [Hf.out] at c4
      have q1 : (w1.setCell ⟨w.heap.size + 1 + 1, 0, none⟩ (.int .i64 4611686018427387904)).cell? ⟨w.heap.size, 0, none⟩ = some (.pointer (some ⟨T, 0, none⟩)) := m1.cell 0 rfl
      have q3 : (w1.setCell ⟨w.heap.size + 1 + 1, 0, none⟩ (.int .i64 4611686018427387904)).cell? ⟨w.heap.size + 1 + 1, 0, none⟩ = some (.int .i64 4611686018427387904) := m3.cell 0 rfl
      have M := And.intro m1 (And.intro m2 (And.intro m3 m4))
      have HM := Lib.hid M
      clear k1 k2 k3 m1 m2 m3 m4 M
      have hs2 := HS.out _ HM.out.1 HM.out.2.1 HM.out.2.2.1 HM.out.2.2.2
      have HS2 := Lib.hid hs2
      clear hs2 HM HS
      go_wp2_with fail
      refine HS2.out.mono ?_
      rintro e w2 ⟨r, rfl, hbt, hb3⟩
      have hb4 := hb2.trans (hb3.mono hb2.size)
      have hr := hbt.1
      have q4 : w2.cell? ⟨w.heap.size + 1 + 1, 0, none⟩ = some (.int .i64 4611686018427387904) := by rw [hb3.cell (World.block_lt_of_cell? _ _ q3)]; exact q3
      have y1 : IntKind.i64.wrap (4611686018427387904 + (r : Int)) = 4611686018427387904 + (r : Int) := IntWalk.i64_in _ (by omega)
      have Hr := Lib.hid (HF.out r (by rw [Hf.out]; exact hbt))
      clear hbt HF
      go_wp2
      refine bodyPost_ret (v := .tuple #[.int .i64 (4611686018427387904 + r), .bool true]) ?_ rfl ?_
      · simp [results, Try.results97, go_sem]
      · exact ⟨.inr ⟨HK.out, r, a, by rw [HTK.out]; exact Ha.out, Hr.out, by rw [HTK.out]⟩, hb4⟩
end Go.Proofs.Ytgljmflcbdhigaa
