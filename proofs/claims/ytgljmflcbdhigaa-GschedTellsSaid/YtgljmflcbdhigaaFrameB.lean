/- How many open places are ahead: a partition's tally. -/
import Derived.Test.YtgljmflcbdhigaaFrameA
import Derived.Test.YtgljmflcbdhigaaOver
import Derived.Deep.OwnRows
set_option linter.unusedVariables false
set_option linter.unusedSimpArgs false
namespace Go.Proofs.Ytgljmflcbdhigaa
open Go.RowKit

/-- Is a place of the frame open to a partition? -/
def WinD.has (m p : Int) (i : Nat) (x : WinD) : Bool := decide (x.part = p) && (decide (x.opens m ≤ i) && decide ((i : Int) < x.at_ + x.len))
def openB (ws : List WinD) (m p : Int) (i : Nat) : Bool := ws.any (WinD.has m p i)
def cnt (g : Nat → Bool) : Nat → Int
  | 0 => 0
  | i + 1 => cnt g i + (if g i then 1 else 0)
/-- A row of numbers, by a function. -/
def rowOf (f : Nat) (h : Nat → Int) : List Int := (List.range (f + 1)).map h
def tallyD (f : Nat) (ws : List WinD) (m p : Int) : List Int := rowOf f (cnt (openB ws m p))
/-- 1 at each place behind one that is so. -/
def mark (g : Nat → Bool) (j : Nat) : Int := match j with | 0 => 0 | i + 1 => if g i then 1 else 0

theorem cnt_bd (g : Nat → Bool) : ∀ i : Nat, 0 ≤ cnt g i ∧ cnt g i ≤ i
  | 0 => by simp [cnt]
  | i + 1 => by
    have := cnt_bd g i
    unfold cnt
    split <;> omega
theorem mark_bd (g : Nat → Bool) (i : Nat) : 0 ≤ mark g i ∧ mark g i ≤ 1 := by
  cases i with
  | zero => simp [mark]
  | succ i => unfold mark; split <;> omega
theorem rowOf_len (f : Nat) (h : Nat → Int) : (rowOf f h).length = f + 1 := by simp [rowOf]
theorem rowOf_get (f : Nat) (h : Nat → Int) (i : Nat) (hi : i ≤ f) : (rowOf f h)[i]? = some (h i) := by simp [rowOf, List.getElem?_range (show i < f + 1 by omega)]
theorem rowOf_congr (f : Nat) (h h' : Nat → Int) (e : ∀ j, j ≤ f → h j = h' j) : rowOf f h = rowOf f h' := by
  apply List.map_congr_left
  intro j hj
  exact e j (by have := List.mem_range.1 hj; omega)
theorem rowOf_set (f : Nat) (h h' : Nat → Int) (k : Nat) (v : Int) (hk : k ≤ f) (h1 : h' k = v) (h2 : ∀ j, j ≤ f → j ≠ k → h' j = h j) : (rowOf f h).set k v = rowOf f h' := by
  apply List.ext_getElem?
  intro j
  by_cases hj : j = k
  · subst hj
    rw [List.getElem?_set_self (by rw [rowOf_len]; omega), rowOf_get _ _ _ hk, h1]
  · rw [List.getElem?_set_ne (fun e => hj e.symm)]
    by_cases hl : j ≤ f
    · rw [rowOf_get _ _ _ hl, rowOf_get _ _ _ hl, h2 j hl hj]
    · rw [List.getElem?_eq_none (by rw [rowOf_len]; omega), List.getElem?_eq_none (by rw [rowOf_len]; omega)]
/-- Windows that fit. -/
theorem fits_all (f : Int) : ∀ (l : List WinD) (en : Int), 0 ≤ en → fitsFrom f en l = true → ∀ x ∈ l, 0 ≤ x.at_ ∧ 1 ≤ x.len ∧ x.at_ + x.len ≤ f ∧ 0 ≤ x.part ∧ x.part < 6
  | [], en, _, _ => by simp
  | y :: r, en, h0, h => by
    unfold fitsFrom at h
    split at h
    · cases h
    · rename_i hb
      simp only [fitBad, Bool.or_eq_true, decide_eq_true_eq, not_or] at hb
      intro x hx
      rcases List.mem_cons.1 hx with rfl | hx
      · omega
      · exact fits_all f r _ (by omega) h x hx

/-- A place of a row of numbers is written. -/
theorem Own.setInt {e B : Nat} {w : World} {g n cap : Nat} {xs : List Int} (h : Own repI e 0 B w (.slice (some ⟨g, 0, none⟩) n cap) xs) (k : Nat) (hk : k < xs.length) (v : Int) : Own repI e 0 B (w.setCell ⟨g, k, none⟩ (.int .i64 v)) (.slice (some ⟨g, 0, none⟩) n cap) (xs.set k v) := by
  have := Own.set_flat (f := 0) h (List.getElem?_eq_getElem hk) (y := v) (.int .i64 v) rfl (fun f' hf => by
    cases f' with
    | zero => exact absurd rfl hf
    | succ f' => rfl)
  rwa [Nat.mul_one, Nat.add_zero] at this
theorem Own.cellInt {e B0 B : Nat} {w : World} {g n cap : Nat} {xs : List Int} (h : Own repI e B0 B w (.slice (some ⟨g, 0, none⟩) n cap) xs) {k : Nat} {x : Int} (hk : xs[k]? = some x) : w.cell? ⟨g, k, none⟩ = some (.int .i64 x) := by
  obtain ⟨cs, hcs, hc⟩ := h.cellAt hk
  have hcs : cs = [.int .i64 x] := hcs
  subst hcs
  have := hc 0 _ rfl
  simpa [repI, Rep.flat] using this
theorem Own.made {B : Nat} {w : World} (n : Nat) (hn : n ≤ maxLen) (hB : B ≤ w.heap.size) : Own repI 3 0 B (w.alloc (.cells (madeCells #[.int .i64 0] n) 3)) (.slice (some ⟨w.heap.size, 0, none⟩) n n) (List.replicate n 0) := by
  have hs := size_madeCells #[Value.int .i64 0] n
  have hg : ∀ i, i < n → (madeCells #[Value.int .i64 0] n)[i]? = some (.int .i64 0) := fun i hi => by
    simp [madeCells, Array.getElem?_range, hi, Nat.mod_one]
  refine ⟨(madeCells #[Value.int .i64 0] n).toList, ⟨by simp [hs, repI, Rep.flat], .inr ⟨w.heap.size, n, _, by simp, hB, heap_alloc_new w _, by simp, hn, by rw [hs]; simp [repI, Rep.flat], by rw [List.length_replicate]; exact List.take_of_length_le (by simp [hs, repI, Rep.flat])⟩⟩, fun i x hi => ?_⟩
  have hl := (List.getElem?_eq_some_iff.1 hi).1
  rw [List.length_replicate] at hl
  rw [List.getElem?_replicate, if_pos hl] at hi
  cases hi
  refine ⟨[.int .i64 0], rfl, fun j u hj => ?_⟩
  cases j with
  | succ j => simp at hj
  | zero =>
    simp only [List.getElem?_cons_zero, Option.some.injEq] at hj
    subst hj
    have := hg i hl
    simpa [repI, Rep.flat] using this

set_option maxHeartbeats 4000000 in
theorem tally_any (B : Nat) (T : Nat) (cs : Array Value) (WA : Option Addr) (wc : Nat) (ws : List WinD) (m p : Int) (f : Nat) (w : World) (hT : Blk w T 232 cs) (c0 : cs[0]? = some (.slice WA ws.length wc)) (c1 : cs[1]? = some (.int .i64 m)) (c2 : cs[2]? = some (.int .i64 f))
    (hl : Row repW 154 B w WA ws) (hn : ws.length ≤ 1000) (hB : B ≤ w.heap.size) (hf : f ≤ 256) (hm : 0 ≤ m ∧ m ≤ 8) (hfit : ∀ x ∈ ws, 0 ≤ x.at_ ∧ 1 ≤ x.len ∧ x.at_ + x.len ≤ f ∧ 0 ≤ x.part ∧ x.part < 6) :
    Calls Try.prog 152 #[.pointer (some ⟨T, 0, none⟩), .int .i64 p] w fun e w' => ∃ v, e = .returned v ∧ Own repI 3 0 w.heap.size w' v (tallyD f ws m p) ∧ Below w.heap.size w w' := by
  obtain ⟨n, hn'⟩ : ∃ n, ws.length = n := ⟨_, rfl⟩
  rw [hn'] at hn c0
  have Hn := Lib.hid hn'
  have t0 := hT.cell 0 c0
  have t1 := hT.cell 1 c1
  have t2 := hT.cell 2 c2
  have lT := hT.lt
  have Hfit := Lib.hid hfit
  have hmk := fun W => run_make_row' (P := Try.prog) 42 3 (.int .i64 0) 8 Try.underlying42 info_I rfl .i64 .i64 (f + 1) (by omega) (by omega) W
  have ec : ((f + 1 : Nat) : Int) = (f : Int) + 1 := by omega
  rw [ec] at hmk
  have h0 := c0
  have h1 := c1
  have h2 := c2
  clear ec hfit hn' c0 c1 c2
  go_enter Try.func152, Try.ntmps152
  go_wp2
  generalize hW : World.alloc _ _ = W1
  have hb1 : Below w.heap.size w W1 := by rw [← hW]; exact (Below.refl _ _).alloc (Nat.le_refl _) _
  have hT1 : Blk W1 T 232 cs := by rw [← hW]; exact hT.alloc _
  have ho1 : Own repI 3 0 w.heap.size W1 (.slice (some ⟨w.heap.size, 0, none⟩) (f + 1) (f + 1)) (rowOf f (mark (openB (ws.take 0) m p))) := by
    rw [← hW]
    have := Own.made (B := w.heap.size) (w := w) (f + 1) (by unfold maxLen; omega) (Nat.le_refl _)
    have e : rowOf f (mark (openB (ws.take 0) m p)) = List.replicate (f + 1) 0 := by
      apply List.ext_getElem?
      intro j
      by_cases hj : j ≤ f
      · rw [rowOf_get _ _ _ hj, List.getElem?_replicate, if_pos (by omega)]
        cases j <;> simp [mark, openB]
      · rw [List.getElem?_eq_none (by rw [rowOf_len]; omega), List.getElem?_eq_none (by rw [List.length_replicate]; omega)]
    rw [e]
    exact this
  clear hW hmk t0 t1 t2
  go_loopw [24] (fun j wr => ∃ k : Nat, k ≤ n ∧ j = .int .i64 k ∧ Own repI 3 0 w.heap.size wr (.slice (some ⟨w.heap.size, 0, none⟩) (f + 1) (f + 1)) (rowOf f (mark (openB (ws.take k) m p))) ∧ Blk wr T 232 cs ∧ Below w.heap.size w wr) (fun j _ => n - (intOf j).toNat)
  case atStart => exact ⟨0, Nat.zero_le _, rfl, ho1, hT1, hb1⟩
  case round =>
    clear ho1 hT1 hb1
    obtain ⟨k, hk, rfl, ho, hT, hb⟩ := hrel
    by_cases hlt : k < n
    · have hk2 : (k : Int) < (n : Int) := by omega
      obtain ⟨ad, x, rfl, hbk, hx, c0, c1, c2⟩ := at_W (hl.keep fun j hj _ => hb.block j (by omega)) (k := k) (by rw [Hn.out]; omega)
      have hxf := Hfit.out x (List.mem_of_getElem? hx)
      have htk := take_snoc' hx
      have Htk := Lib.hid htk
      clear hx htk
      by_cases hp : x.part = p
      · have hp' : (x.part != p) = false := by simp [hp]
        have Hp := Lib.hid hp
        clear hp
        have ko := fun W => open_any (.slice (some ad) n wc) m x W rfl hxf.1 (by omega) (by omega) (by omega) hm.1 hm.2
        obtain ⟨a, ha⟩ : ∃ a : Nat, x.opens m = a := ⟨(x.opens m).toNat, by unfold WinD.opens; omega⟩
        obtain ⟨b, hb'⟩ : ∃ b : Nat, x.at_ + x.len = b := ⟨(x.at_ + x.len).toNat, by omega⟩
        have hab : a ≤ b := by have : x.opens m ≤ x.at_ + x.len := by unfold WinD.opens; omega
                               omega
        have hbf : b ≤ f := by omega
        rw [ha, hb'] at ko
        have KO := Lib.hid ko
        have Ha := Lib.hid ha
        have Hb := Lib.hid hb'
        clear ko ha hb'
        have t0 := hT.cell 0 h0
        have t1 := hT.cell 1 h1
        have lT := hT.lt
        go_wp2
        generalize hW : World.alloc _ _ = W2
        have hb2 : Below wr.heap.size wr W2 := by rw [← hW]; exact (Below.refl _ _).alloc (Nat.le_refl _) _
        have hx2 : Blk W2 wr.heap.size 154 #[.int .i64 x.at_, .int .i64 x.len, .int .i64 x.part] := by rw [← hW]; exact Blk.new _ _ _
        have s0 := (hT.below hb2 hT.lt).cell 0 h0
        have s1 := (hT.below hb2 hT.lt).cell 1 h1
        have x0 := hx2.cell 0 rfl
        have x1 := hx2.cell 1 rfl
        have x2 := hx2.cell 2 rfl
        have hsz := hb.size
        have z1 : Below W2.heap.size W2 W2.drew := (Below.refl _ _).drew
        clear hW t0 t1 c0 c1 c2
        go_cut [8, 9] (fun u v wx => u = .int .i64 a ∧ v = .int .i64 b ∧ Below wr.heap.size wr wx)
        case first =>
          go_region_with (first | (go_at_call 133; refine (KO.out _).mono ?_; rintro e w3 ⟨rfl, hb3⟩; have hb4 : Below wr.heap.size wr w3 := hb2.trans ((z1.trans (hb3.mono z1.size)).mono hb2.size)))
          all_goals (go_wp2_with fail; go_meet; exact ⟨rfl, rfl, hb4⟩)
        case rest =>
          obtain ⟨rfl, rfl, hb4⟩ := hcut
          have ho4 := ho.below hb4 (Nat.le_refl _)
          have hT4 := hT.below hb4 hT.lt
          have hb5 : Below w.heap.size w wc := hb.trans (hb4.mono hsz)
          clear hb2 hx2 s0 s1 x0 x1 x2 z1 ho hT hb hb4
          have ho5 : Own repI 3 0 w.heap.size wc (.slice (some ⟨w.heap.size, 0, none⟩) (f + 1) (f + 1)) (rowOf f (mark fun j => openB (ws.take k) m p j || (decide (a ≤ j) && decide (j < a)))) := by
            rw [rowOf_congr f _ (mark (openB (ws.take k) m p)) (fun j _ => by cases j with
              | zero => rfl
              | succ j => 
                have : (decide (a ≤ j) && decide (j < a)) = false := by simp
                simp only [mark, this, Bool.or_false])]
            exact ho4
          go_wp2
          go_loopw [10] (fun j wr => ∃ i : Nat, a ≤ i ∧ i ≤ b ∧ j = .int .i64 i ∧ Own repI 3 0 w.heap.size wr (.slice (some ⟨w.heap.size, 0, none⟩) (f + 1) (f + 1)) (rowOf f (mark fun j => openB (ws.take k) m p j || (decide (a ≤ j) && decide (j < i)))) ∧ Blk wr T 232 cs ∧ Below w.heap.size w wr) (fun j _ => b - (intOf j).toNat)
          case atStart => exact ⟨a, Nat.le_refl _, hab, rfl, ho5, hT4, hb5⟩
          case round =>
            clear ho4 ho5 hT4 hb5
            obtain ⟨i, hai, hib, rfl, ho, hT, hb⟩ := hrel
            by_cases hlb : i < b
            · have hlb2 : (i : Int) < (b : Int) := by omega
              have hc := ho.cellInt (rowOf_get f _ (i + 1) (by omega))
              have hfr := ho.free (i + 1)
              have hif : i + 1 ≤ f := by omega
              have ho2 := ho.setInt (i + 1) (by rw [rowOf_len]; omega) 1
              rw [rowOf_set f _ (mark fun j => openB (ws.take k) m p j || (decide (a ≤ j) && decide (j < i + 1))) (i + 1) 1 hif (by simp [mark]; omega) (fun j _ hj => by
                cases j with
                | zero => rfl
                | succ j =>
                  have : (decide (a ≤ j) && decide (j < i + 1)) = (decide (a ≤ j) && decide (j < i)) := by rw [Bool.eq_iff_iff]; simp; omega
                  simp only [mark, this])] at ho2
              have Ho2 := Lib.hid ho2
              have hT2 := hT.far (p := ⟨w.heap.size, i + 1, none⟩) (by show T ≠ w.heap.size; omega) (.int .i64 1)
              have hb2 := hb.setCell (p := ⟨w.heap.size, i + 1, none⟩) (Nat.le_refl _) (.int .i64 1)
              clear ho2 ho
              go_wp2
              exact ⟨⟨i + 1, by omega, by omega, by go_num, Ho2.out, hT2, hb2⟩, by simp [intOf]; omega⟩
            · have hlb2 : ¬ (i : Int) < (b : Int) := by omega
              obtain rfl : i = b := by omega
              have ho2 : Own repI 3 0 w.heap.size wr (.slice (some ⟨w.heap.size, 0, none⟩) (f + 1) (f + 1)) (rowOf f (mark (openB (ws.take (k + 1)) m p))) := by
                rw [rowOf_congr f (mark (openB (ws.take (k + 1)) m p)) (mark fun j => openB (ws.take k) m p j || (decide (a ≤ j) && decide (j < i))) (fun j _ => by cases j with
                  | zero => rfl
                  | succ j =>
                    have : openB (ws.take (k + 1)) m p j = (openB (ws.take k) m p j || (decide (a ≤ j) && decide (j < i))) := by
                      rw [Htk.out]
                      simp only [openB, List.any_append, List.any_cons, List.any_nil, Bool.or_false]
                      congr 1
                      simp only [WinD.has, Hp.out, Ha.out, Hb.out, decide_true, Bool.true_and]
                      rw [Bool.eq_iff_iff]; simp
                    simp only [mark, this])]
                exact ho
              have Ho2 := Lib.hid ho2
              clear ho ho2
              go_wp2
              go_roundw
              case rel => exact ⟨k + 1, by omega, by go_num, Ho2.out, hT, hb⟩
              case measure => simp [intOf] <;> omega
      · have hp' : (x.part != p) = true := by simp [hp]
        have hopen : ∀ j, openB (ws.take (k + 1)) m p j = openB (ws.take k) m p j := fun j => by rw [Htk.out]; simp [openB, List.any_append, WinD.has, hp]
        have ho2 : Own repI 3 0 w.heap.size wr (.slice (some ⟨w.heap.size, 0, none⟩) (f + 1) (f + 1)) (rowOf f (mark (openB (ws.take (k + 1)) m p))) := by rw [rowOf_congr f _ (mark (openB (ws.take k) m p)) (fun j _ => by cases j <;> simp [mark, hopen])]; exact ho
        have Hp := Lib.hid hp
        clear hopen ho hp
        go_wp2
        go_roundw
        case rel => exact ⟨k + 1, by omega, by go_num, ho2.alloc _, hT.alloc _, hb.alloc hb.size _⟩
        case measure => simp [intOf] <;> omega
    · have hk2 : ¬ (k : Int) < (n : Int) := by omega
      have e : ws.take k = ws := List.take_of_length_le (by rw [Hn.out]; omega)
      rw [e] at ho
      clear e
      generalize hg : openB ws m p = g at ho
      have Hg := Lib.hid hg
      clear hg
      have ho2 : Own repI 3 0 w.heap.size wr (.slice (some ⟨w.heap.size, 0, none⟩) (f + 1) (f + 1)) (rowOf f fun j => if j < 1 then cnt g j else mark g j) := by
        rw [rowOf_congr f _ (mark g) (fun j _ => by
          by_cases hj : j < 1
          · obtain rfl : j = 0 := by omega
            rfl
          · rw [if_neg hj])]
        exact ho
      clear ho
      go_wp2
      go_loopw [11] (fun j wr => ∃ i : Nat, 1 ≤ i ∧ i ≤ f + 1 ∧ j = .int .i64 i ∧ Own repI 3 0 w.heap.size wr (.slice (some ⟨w.heap.size, 0, none⟩) (f + 1) (f + 1)) (rowOf f fun j => if j < i then cnt g j else mark g j) ∧ Blk wr T 232 cs ∧ Below w.heap.size w wr) (fun j _ => f + 1 - (intOf j).toNat)
      case atStart => exact ⟨1, Nat.le_refl _, by omega, rfl, ho2, hT, hb⟩
      case round =>
        clear ho2 hT hb
        obtain ⟨i, hi1, hi2, rfl, ho, hT, hb⟩ := hrel
        have t2 := hT.cell 2 h2
        by_cases hlf : i ≤ f
        · have hlf2 : (i : Int) ≤ (f : Int) := by omega
          obtain ⟨q, rfl⟩ : ∃ q, i = q + 1 := ⟨i - 1, by omega⟩
          have hc1 := ho.cellInt (rowOf_get f _ (q + 1) hlf)
          have hc0 := ho.cellInt (rowOf_get f _ q (by omega))
          simp only [Nat.lt_irrefl, if_false, show q < q + 1 by omega, if_true, mark] at hc1 hc0
          have hbd := cnt_bd g q
          obtain ⟨u, hu⟩ : ∃ u : Int, (if g q = true then (1 : Int) else 0) = u := ⟨_, rfl⟩
          have hu2 : 0 ≤ u ∧ u ≤ 1 := by rw [← hu]; split <;> omega
          have hcs : cnt g (q + 1) = u + cnt g q := by show cnt g q + (if g q = true then (1 : Int) else 0) = _; rw [hu]; omega
          rw [hu] at hc1
          have hfr := ho.free (q + 1)
          have ho2 := ho.setInt (q + 1) (by rw [rowOf_len]; omega) (u + cnt g q)
          rw [rowOf_set f _ (fun j => if j < q + 1 + 1 then cnt g j else mark g j) (q + 1) (u + cnt g q) hlf (by simp only [show q + 1 < q + 1 + 1 by omega, if_true]; exact hcs) (fun j _ hj => by
            by_cases h : j < q + 1
            · rw [if_pos h, if_pos (by omega)]
            · rw [if_neg h, if_neg (by omega)])] at ho2
          have Ho2 := Lib.hid ho2
          clear ho ho2 hu hcs
          generalize hcq : cnt g q = cq at hc0 hbd Ho2
          have hT2 := hT.far (p := ⟨w.heap.size, q + 1, none⟩) (by show T ≠ w.heap.size; omega) (.int .i64 (u + cq))
          have hb2 := hb.setCell (p := ⟨w.heap.size, q + 1, none⟩) (Nat.le_refl _) (.int .i64 (u + cq))
          clear hcq
          have w1 : IntKind.i64.wrap ((q : Int) + 1 - 1) = (q : Int) := by rw [IntWalk.i64_in _ (by omega)]; omega
          have w2 : IntKind.i64.wrap (u + cq) = u + cq := IntWalk.i64_in _ (by omega)
          have i1 : (q : Int) < ((f + 1 : Nat) : Int) := by omega
          have i2 : (q : Int) + 1 < ((f + 1 : Nat) : Int) := by omega
          have i3 : (0 : Int) ≤ (q : Int) + 1 := by omega
          have i4 : ((q : Int) + 1).toNat = q + 1 := by omega
          go_wp2
          go_region
          have hfin := (⟨Ho2.out.drew, hT2.drew, hb2.drew⟩ : Own repI 3 0 w.heap.size (wr.setCell ⟨w.heap.size, q + 1, none⟩ (.int .i64 (u + cq))).drew (.slice (some ⟨w.heap.size, 0, none⟩) (f + 1) (f + 1)) (rowOf f fun j => if j < q + 1 + 1 then cnt g j else mark g j) ∧ Blk (wr.setCell ⟨w.heap.size, q + 1, none⟩ (.int .i64 (u + cq))).drew T 232 cs ∧ Below w.heap.size w (wr.setCell ⟨w.heap.size, q + 1, none⟩ (.int .i64 (u + cq))).drew)
          have Hfin := Lib.hid hfin
          clear hfin w1 w2 i1 i2 i3 i4
          go_wp2
          exact ⟨⟨q + 1 + 1, by omega, by omega, by go_num, Hfin.out⟩, by simp [intOf]; omega⟩
        · have hlf2 : ¬ (i : Int) ≤ (f : Int) := by omega
          obtain rfl : i = f + 1 := by omega
          have e : (rowOf f fun j => if j < f + 1 then cnt g j else mark g j) = tallyD f ws m p := by
            unfold tallyD
            rw [Hg.out]
            exact rowOf_congr f _ _ (fun j hj => by rw [if_pos (by omega)])
          rw [e] at ho
          clear e
          go_wp2
          go_ret
          exact ⟨_, rfl, ho, hb⟩
end Go.Proofs.Ytgljmflcbdhigaa
