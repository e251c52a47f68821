/- Whose tick it is. -/
import Derived.Test.YtgljmflcbdhigaaFrameC
set_option linter.unusedVariables false
set_option linter.unusedSimpArgs false
namespace Go.Proofs.Ytgljmflcbdhigaa
open Go.RowKit

theorem mod_any (a : Int) (b : Int) (w : World) (hb : 1 ≤ b) (hb2 : b ≤ 4611686018427387904) : Calls Try.prog 131 #[.int .i64 a, .int .i64 b] w fun e w' => e = .returned (.int .i64 (a % b)) ∧ w = w' := by
  have hz := rem_ne b hb
  have h1 : ¬ b < 1 := by omega
  have hz' : ¬ b = 0 := by omega
  have hr : a.tmod b < b := Int.tmod_lt_of_pos a (by omega)
  have hr2 : -b < a.tmod b := Int.lt_tmod_of_pos a (by omega)
  have he : a % b = a.tmod b + b * b2i (decide (a.tmod b < 0)) := by
    by_cases h : a.tmod b < 0
    · rw [decide_eq_true h]
      have h3 := Int.emod_nonneg a hz'
      have h4 := Int.emod_lt_of_pos a (show 0 < b by omega)
      have h5 : (a - a.tmod b) % b = 0 := by
        rw [Int.tmod_def]
        rw [show a - (a - b * a.tdiv b) = b * a.tdiv b by omega]
        exact Int.mul_emod_right _ _
      have h6 : (a % b - a.tmod b) % b = 0 := by rw [Int.sub_emod, Int.emod_emod_of_dvd _ (Int.dvd_refl b), ← Int.sub_emod]; exact h5
      have h7 : a % b - a.tmod b = b := by
        obtain ⟨q, hq⟩ := Int.dvd_of_emod_eq_zero h6
        have : q = 1 := by
          have g1 : 0 < b * q := by omega
          have g2 : b * q < b * 2 := by omega
          have g3 : 0 < q := Int.pos_of_mul_pos_right g1 (by omega)
          have g4 : q < 2 := Int.lt_of_mul_lt_mul_left g2 (by omega)
          omega
        rw [hq, this, Int.mul_one]
      simp [b2i]
      omega
    · rw [decide_eq_false h]
      have : a % b = a.tmod b := by
        by_cases ha : 0 ≤ a
        · rw [Int.tmod_eq_emod_of_nonneg ha]
        · have h5 : a.tmod b = 0 := by
            have h6 := Int.tmod_nonneg b (show 0 ≤ -a by omega)
            rw [Int.neg_tmod] at h6
            omega
          rw [h5]
          exact Int.emod_eq_zero_of_dvd (Int.dvd_of_tmod_eq_zero h5)
      simp [b2i, this]
  obtain ⟨r, hrr⟩ : ∃ r, a.tmod b = r := ⟨_, rfl⟩
  rw [hrr] at hr hr2 he
  rw [he]
  have Hr := Lib.hid hrr
  clear he
  by_cases h : r < 0
  · have hd : decide (r < 0) = true := by simpa using h
    go_enter Try.func131, Try.ntmps131
    go_wp2
    go_ret
    exact ⟨ret_i (by simp [b2i]), rfl⟩
  · have hd : decide (r < 0) = false := by simpa using h
    go_enter Try.func131, Try.ntmps131
    go_wp2
    go_ret
    exact ⟨ret_i (by simp [b2i]), rfl⟩

/-! ### sort.Search -/
def Between (n : Nat) (P : Nat → Bool) (r : Nat) : Prop := r ≤ n ∧ (r < n → P r = true) ∧ (0 < r → P (r - 1) = false)
def SearchPost (n : Nat) (P : Nat → Bool) (w : World) (e : Ending) (w' : World) : Prop := ∃ r : Nat, e = .returned (.int .i64 r) ∧ Between n P r ∧ Below w.heap.size w w'

set_option maxHeartbeats 1000000 in
theorem searchAt_any (n : Nat) (g1 g2 : Nat) (P : Nat → Bool) (w : World) (hn : n ≤ 1000000)
    (hf : ∀ i : Nat, i < n → ∀ W, Below w.heap.size w W → Calls Try.prog 153 #[.int .i64 i, .pointer (some ⟨g1, 0, none⟩), .pointer (some ⟨g2, 0, none⟩)] W fun e w' => e = .returned (.bool (P i)) ∧ Below W.heap.size W w') :
    Calls Try.prog 140 #[.int .i64 n, .func (.func 153) #[] #[.pointer (some ⟨g1, 0, none⟩), .pointer (some ⟨g2, 0, none⟩)]] w (SearchPost n P w) := by
  have Hf := Lib.hid hf
  clear hf
  go_enter Try.func140, Try.ntmps140
  go_wp2
  go_loopw [5, 6] (fun a b wr => ∃ i j : Nat, i ≤ j ∧ j ≤ n ∧ a = .int .i64 i ∧ b = .int .i64 j ∧ (j < n → P j = true) ∧ (0 < i → P (i - 1) = false) ∧ Below w.heap.size w wr) (fun a b _ => (intOf b).toNat - (intOf a).toNat)
  case atStart => exact ⟨0, n, Nat.zero_le _, Nat.le_refl _, rfl, rfl, fun h => absurd h (Nat.lt_irrefl _), fun h => absurd h (Nat.lt_irrefl _), Below.refl _ _⟩
  case round =>
    obtain ⟨i, j, hij, hjn, rfl, rfl, hpj, hpi, hb⟩ := hrel
    have Hpj := Lib.hid hpj
    have Hpi := Lib.hid hpi
    clear hpj hpi
    by_cases hlt : i < j
    · have hlt2 : (i : Int) < (j : Int) := by omega
      obtain ⟨h, hh⟩ : ∃ h : Nat, (i + j) / 2 = h := ⟨_, rfl⟩
      have hh1 : i ≤ h ∧ h < j := by omega
      have hc := Hf.out h (by omega) wr hb
      obtain ⟨r, hr⟩ : ∃ r, P h = r := ⟨_, rfl⟩
      rw [hr] at hc
      have HC := Lib.hid hc
      have Hr := Lib.hid hr
      clear hc hr
      have hh2 : ((i : Int) + (j : Int)) / 2 = (h : Int) := by omega
      clear hh
      go_wp2_with fail
      refine HC.out.mono ?_
      rintro e w1 ⟨rfl, hb1⟩
      have hb2 : Below w.heap.size w w1 := hb.trans (hb1.mono hb.size)
      cases r with
      | true =>
        go_wp2
        go_roundw
        case rel => exact ⟨i, h, by omega, by omega, rfl, rfl, fun _ => Hr.out, Hpi.out, hb2⟩
        case measure => simp [intOf] <;> omega
      | false =>
        go_wp2
        go_roundw
        case rel => exact ⟨h + 1, j, by omega, by omega, by go_num, rfl, Hpj.out, fun _ => Hr.out, hb2⟩
        case measure => simp [intOf] <;> omega
    · have hlt2 : ¬ (i : Int) < (j : Int) := by omega
      obtain rfl : i = j := by omega
      go_wp2
      go_ret
      exact ⟨i, rfl, ⟨hjn, Hpj.out, Hpi.out⟩, hb⟩

/-! ### at -/
def winAt (ws : List WinD) (q : Int) : Option WinD := ws.find? fun x => decide (x.at_ ≤ q) && decide (q < x.at_ + x.len)
theorem fits_sorted (f : Int) : ∀ (l : List WinD) (en : Int), 0 ≤ en → fitsFrom f en l = true → (∀ x ∈ l, en ≤ x.at_) ∧ ∀ (i j : Nat) x y, i < j → l[i]? = some x → l[j]? = some y → x.at_ + x.len ≤ y.at_
  | [], en, _, _ => by simp
  | z :: r, en, h0, h => by
    unfold fitsFrom at h
    split at h
    · cases h
    · rename_i hb
      simp only [fitBad, Bool.or_eq_true, decide_eq_true_eq, not_or] at hb
      obtain ⟨h1, h2⟩ := fits_sorted f r _ (by omega) h
      refine ⟨fun x hx => ?_, fun i j x y hij hi hj => ?_⟩
      · rcases List.mem_cons.1 hx with rfl | hx
        · omega
        · have := h1 x hx; omega
      · cases j with
        | zero => omega
        | succ j =>
          rw [List.getElem?_cons_succ] at hj
          cases i with
          | zero =>
            cases hi
            exact h1 y (List.mem_of_getElem? hj)
          | succ i => exact h2 i j x y (by omega) (by simpa using hi) hj
theorem winAt_none {f : Int} {ws : List WinD} (hf : fitsFrom f 0 ws = true) {q : Int} {r : Nat} (hb : Between ws.length (fun i => match ws[i]? with | some x => decide (q < x.at_) | none => true) r) (h : r = 0 ∨ ∃ x, ws[r - 1]? = some x ∧ x.len ≤ q - x.at_) : winAt ws q = none := by
  obtain ⟨_, hs⟩ := fits_sorted f ws 0 (Int.le_refl _) hf
  have hall := fits_all f ws 0 (Int.le_refl _) hf
  unfold winAt
  rw [List.find?_eq_none]
  intro x hx
  simp only [Bool.and_eq_true, decide_eq_true_eq, not_and, Int.not_lt]
  intro hq
  obtain ⟨i, hi⟩ := List.getElem?_of_mem hx
  have hil := (List.getElem?_eq_some_iff.1 hi).1
  by_cases hir : r ≤ i
  · exfalso
    have h1 := hb.2.1 (by omega)
    obtain ⟨y, hy⟩ : ∃ y, ws[r]? = some y := ⟨_, List.getElem?_eq_getElem (by omega)⟩
    simp only [hy, decide_eq_true_eq] at h1
    rcases Nat.lt_or_ge r i with hlt | hge
    · have := hs r i y x hlt hy hi
      have := hall y (List.mem_of_getElem? hy)
      omega
    · obtain rfl : r = i := by omega
      rw [hy] at hi
      cases hi
      omega
  · rcases h with h | ⟨y, hy, hy2⟩
    · omega
    · rcases Nat.lt_or_ge i (r - 1) with hlt | hge
      · have := hs i (r - 1) x y hlt hi hy
        have h2 := hb.2.2 (by omega)
        simp only [hy, decide_eq_false_iff_not] at h2
        omega
      · obtain rfl : i = r - 1 := by omega
        rw [hy] at hi
        cases hi
        omega
theorem winAt_some {f : Int} {ws : List WinD} (hf : fitsFrom f 0 ws = true) {q : Int} {r : Nat} (hb : Between ws.length (fun i => match ws[i]? with | some x => decide (q < x.at_) | none => true) r) (h0 : 0 < r) {x : WinD} (hx : ws[r - 1]? = some x) (hl : q - x.at_ < x.len) : winAt ws q = some x := by
  obtain ⟨_, hs⟩ := fits_sorted f ws 0 (Int.le_refl _) hf
  have h2 := hb.2.2 h0
  simp only [hx, decide_eq_false_iff_not] at h2
  unfold winAt
  cases hh : ws.find? (fun x => decide (x.at_ ≤ q) && decide (q < x.at_ + x.len)) with
  | none =>
    rw [List.find?_eq_none] at hh
    exact absurd (by simp; omega) (hh x (List.mem_of_getElem? hx))
  | some y =>
    have h3 := List.find?_some hh
    simp only [Bool.and_eq_true, decide_eq_true_eq] at h3
    obtain ⟨j, hj⟩ := List.getElem?_of_mem (List.mem_of_find?_eq_some hh)
    rcases Nat.lt_trichotomy j (r - 1) with h | h | h
    · have := hs j (r - 1) y x h hj hx; omega
    · subst h
      rw [hx] at hj
      exact hj.symm
    · have := hs (r - 1) j x y h hx hj; omega

set_option maxHeartbeats 1000000 in
theorem at1_any (B g1 g2 : Nat) (WA : Option Addr) (wc : Nat) (ws : List WinD) (m q : Int) (i : Nat) (x : WinD) (w : World) (h1 : Blk w g1 229 #[.slice WA ws.length wc, .int .i64 m]) (h2 : Blk w g2 3 #[.int .i64 q]) (hl : Row repW 154 B w WA ws) (hi : ws[i]? = some x) (hn : ws.length ≤ 1000) :
    Calls Try.prog 153 #[.int .i64 i, .pointer (some ⟨g1, 0, none⟩), .pointer (some ⟨g2, 0, none⟩)] w fun e w' => e = .returned (.bool (decide (q < x.at_))) ∧ Drawn w w' := by
  have hil := (List.getElem?_eq_some_iff.1 hi).1
  obtain ⟨ad, y, rfl, hbk, hy, c0, c1, c2⟩ := at_W hl (k := i) hil
  rw [hi] at hy
  cases hy
  obtain ⟨n, hn'⟩ : ∃ n, ws.length = n := ⟨_, rfl⟩
  rw [hn'] at h1 hil hn
  have d0 := h1.cell 0 rfl
  have d1 := h2.cell 0 rfl
  have i1 : (0 : Int) ≤ (i : Int) := by omega
  have i2 : (i : Int) < (n : Int) := by omega
  clear hn' hi
  go_enter Try.func153, Try.ntmps153
  go_wp2
  go_quiet (fail)
  go_wp2
  go_ret
  exact ⟨rfl, (Drawn.refl _).drewN _⟩

def atV : Option WinD → Value
  | none => .tuple #[.agg #[.int .i64 0, .int .i64 0, .int .i64 0], .bool false]
  | some x => .tuple #[.agg #[.int .i64 x.at_, .int .i64 x.len, .int .i64 x.part], .bool true]

set_option maxHeartbeats 2000000 in
theorem at_any (B : Nat) (WA : Option Addr) (wc : Nat) (ws : List WinD) (m q : Int) (f : Int) (w : World) (hl : Row repW 154 B w WA ws) (hn : ws.length ≤ 32) (hf : fitsFrom f 0 ws = true) (hf2 : f ≤ 256) (hq : 0 ≤ q ∧ q ≤ 256) :
    Calls Try.prog 132 #[.agg #[.slice WA ws.length wc, .int .i64 m], .int .i64 q] w fun e w' => e = .returned (atV (winAt ws q)) ∧ Below w.heap.size w w' := by
  obtain ⟨P, hP⟩ : ∃ P, (fun i : Nat => match ws[i]? with | some x => decide (q < x.at_) | none => true) = P := ⟨_, rfl⟩
  have hnone := fun r => winAt_none (q := q) (r := r) hf
  have hsome := fun r => winAt_some (q := q) (r := r) hf
  rw [hP] at hnone hsome
  have hall := fits_all f ws 0 (Int.le_refl _) hf
  have hl2 := fun W (hW : Below w.heap.size w W) => hl.keep (w' := W) fun j hj _ => hW.block j hj
  have hc := fun (W : World) (g1 g2 : Nat) (h1 : Blk W g1 229 #[.slice WA ws.length wc, .int .i64 m]) (h2 : Blk W g2 3 #[.int .i64 q]) (hr : Row repW 154 B W WA ws) =>
    searchAt_any ws.length g1 g2 P W (by omega) (fun i hi W' hW' => by
      have hx := List.getElem?_eq_getElem hi
      have hPi : P i = decide (q < ws[i].at_) := by rw [← hP]; simp only [hx]
      rw [hPi]
      exact (at1_any B g1 g2 WA wc ws m q i ws[i] W' (h1.below hW' h1.lt) (h2.below hW' h2.lt) (hr.keep fun j hj _ => hW'.block j hj) hx (by omega)).mono fun e w' ⟨a, b⟩ => ⟨a, b.below _⟩)
  obtain ⟨n, hn'⟩ : ∃ n, ws.length = n := ⟨_, rfl⟩
  have hPl : ∀ r : Nat, r < n → ∃ x, ws[r]? = some x := fun r hr => ⟨_, List.getElem?_eq_getElem (by omega)⟩
  rw [hn'] at hc hn hnone hsome ⊢
  have Hc := Lib.hid hc
  have Hnone := Lib.hid hnone
  have Hsome := Lib.hid hsome
  have Hl := Lib.hid hl2
  have Hall := Lib.hid hall
  have HPl := Lib.hid hPl
  have Hn := Lib.hid hn'
  clear hc hnone hsome hl2 hall hP hPl hn' hf
  obtain ⟨o, ho⟩ : ∃ o, winAt ws q = o := ⟨_, rfl⟩
  rw [ho]
  have Ho := Lib.hid ho
  clear ho
  go_enter Try.func132, Try.ntmps132
  go_wp2_with fail
  have hbA : Below w.heap.size w (((w.alloc (.cells #[.slice WA n wc, .int .i64 m] 229)).alloc (.cells #[.int .i64 q] 3)).alloc (.cells #[.int .i64 0, .int .i64 0, .int .i64 0] 154)) := (((Below.refl _ _).alloc (Nat.le_refl _) _).alloc (by simp) _).alloc (by simp <;> omega) _
  have hg1 := ((Blk.new w 229 #[.slice WA n wc, .int .i64 m]).alloc (.cells #[.int .i64 q] 3)).alloc (.cells #[.int .i64 0, .int .i64 0, .int .i64 0] 154)
  have hg2 := (Blk.new' (w.alloc (.cells #[.slice WA n wc, .int .i64 m] 229)) (w.heap.size + 1) 3 #[.int .i64 q] (by simp)).alloc (.cells #[.int .i64 0, .int .i64 0, .int .i64 0] 154)
  have hg3 := Blk.new' ((w.alloc (.cells #[.slice WA n wc, .int .i64 m] 229)).alloc (.cells #[.int .i64 q] 3)) (w.heap.size + 2) 154 #[.int .i64 0, .int .i64 0, .int .i64 0] (by simp)
  refine (Hc.out _ _ _ hg1 hg2 (Hl.out _ hbA)).mono ?_
  rintro e w1 ⟨r, rfl, hbt, hb⟩
  have hb1 : Below w.heap.size w w1 := hbA.trans (hb.mono hbA.size)
  have k1 := hg1.below hb hg1.lt
  have k2 := hg2.below hb hg2.lt
  have k3 := hg3.below hb hg3.lt
  have hN := fun h => Hnone.out r hbt h
  have hS := fun h x hx h2 => Hsome.out r hbt h (x := x) hx h2
  have hrn := hbt.1
  clear hbt hbA hg1 hg2 hg3 hb
  have e0 := k3.cell 0 rfl
  have e1 := k3.cell 1 rfl
  have e2 := k3.cell 2 rfl
  have f0 := k3.free 0
  have f1 := k3.free 1
  have f2 := k3.free 2
  have d0 := k1.cell 0 rfl
  have d1 := k2.cell 0 rfl
  rcases r with _ | k
  · have eo : o = none := by rw [← Ho.out]; exact hN (.inl rfl)
    subst eo
    clear hN hS
    have hq := fun N => (((k3.drewN N).set 0 (.int .i64 0)).set 1 (.int .i64 0)).set 2 (.int .i64 0)
    have p0 := fun N => (hq N).cell 0 rfl
    have p1 := fun N => (hq N).cell 1 rfl
    have p2 := fun N => (hq N).cell 2 rfl
    have hb2 := fun N => (((below_drewN (n := N) hb1).setCell (p := ⟨w.heap.size + 2, 0, none⟩) (show w.heap.size ≤ w.heap.size + 2 by omega) (.int .i64 0)).setCell (p := ⟨w.heap.size + 2, 1, none⟩) (show w.heap.size ≤ w.heap.size + 2 by omega) (.int .i64 0)).setCell (p := ⟨w.heap.size + 2, 2, none⟩) (show w.heap.size ≤ w.heap.size + 2 by omega) (.int .i64 0)
    go_wp2
    go_quiet (fail)
    go_wp2
    refine bodyPost_ret (v := .tuple #[.agg #[.int .i64 0, .int .i64 0, .int .i64 0], .bool false]) ?_ rfl ?_
    · simp [results, Try.results132, go_sem, p0, p1, p2]
    · exact ⟨rfl, hb2 _⟩
  · obtain ⟨x, hx⟩ := HPl.out k (by omega)
    obtain ⟨ad, y, rfl, hbk, hy, c0, c1, c2⟩ := at_W (Hl.out _ hb1) (k := k) (by rw [Hn.out]; omega)
    rw [hx] at hy
    cases hy
    have hxf := Hall.out x (List.mem_of_getElem? hx)
    have ek : ((k + 1 : Nat) : Int) = (k : Int) + 1 := by omega
    have i1 : IntKind.i64.wrap ((k : Int) + 1 - 1) = (k : Int) := by rw [IntWalk.i64_in _ (by omega)]; omega
    have i2 : (0 : Int) ≤ (k : Int) := by omega
    have i3 : (k : Int) < (n : Int) := by omega
    have i4 : ((k : Int) + 1 == 0) = false := by simp; omega
    have i5 : IntKind.i64.wrap (q - x.at_) = q - x.at_ := IntWalk.i64_in _ (by omega)
    rw [ek]
    by_cases hlen : x.len ≤ q - x.at_
    · have eo : o = none := by rw [← Ho.out]; exact hN (.inr ⟨x, by simpa using hx, hlen⟩)
      subst eo
      clear hN hS hx ek hxf
      have hq := fun N => (((k3.drewN N).set 0 (.int .i64 0)).set 1 (.int .i64 0)).set 2 (.int .i64 0)
      have p0 := fun N => (hq N).cell 0 rfl
      have p1 := fun N => (hq N).cell 1 rfl
      have p2 := fun N => (hq N).cell 2 rfl
      have hb2 := fun N => (((below_drewN (n := N) hb1).setCell (p := ⟨w.heap.size + 2, 0, none⟩) (show w.heap.size ≤ w.heap.size + 2 by omega) (.int .i64 0)).setCell (p := ⟨w.heap.size + 2, 1, none⟩) (show w.heap.size ≤ w.heap.size + 2 by omega) (.int .i64 0)).setCell (p := ⟨w.heap.size + 2, 2, none⟩) (show w.heap.size ≤ w.heap.size + 2 by omega) (.int .i64 0)
      go_wp2
      go_quiet (fail)
      go_wp2
      refine bodyPost_ret (v := .tuple #[.agg #[.int .i64 0, .int .i64 0, .int .i64 0], .bool false]) ?_ rfl ?_
      · simp [results, Try.results132, go_sem, p0, p1, p2]
      · exact ⟨rfl, hb2 _⟩
    · have hlen2 : q - x.at_ < x.len := by omega
      have eo : o = some x := by rw [← Ho.out]; exact hS (by omega) x (by simpa using hx) hlen2
      subst eo
      clear hN hS hx ek
      have hq := fun N => (((k3.drewN N).set 0 (.int .i64 x.at_)).set 1 (.int .i64 x.len)).set 2 (.int .i64 x.part)
      have p0 := fun N => (hq N).cell 0 rfl
      have p1 := fun N => (hq N).cell 1 rfl
      have p2 := fun N => (hq N).cell 2 rfl
      have hb2 := fun N => (((below_drewN (n := N) hb1).setCell (p := ⟨w.heap.size + 2, 0, none⟩) (show w.heap.size ≤ w.heap.size + 2 by omega) (.int .i64 x.at_)).setCell (p := ⟨w.heap.size + 2, 1, none⟩) (show w.heap.size ≤ w.heap.size + 2 by omega) (.int .i64 x.len)).setCell (p := ⟨w.heap.size + 2, 2, none⟩) (show w.heap.size ≤ w.heap.size + 2 by omega) (.int .i64 x.part)
      go_wp2
      go_quiet (fail)
      go_wp2
      refine bodyPost_ret (v := .tuple #[.agg #[.int .i64 x.at_, .int .i64 x.len, .int .i64 x.part], .bool true]) ?_ rfl ?_
      · simp [results, Try.results132, go_sem, p0, p1, p2]
      · exact ⟨rfl, hb2 _⟩
end Go.Proofs.Ytgljmflcbdhigaa
