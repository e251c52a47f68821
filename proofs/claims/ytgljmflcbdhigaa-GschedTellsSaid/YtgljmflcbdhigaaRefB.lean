/- The document's check: windows, channels, whole. -/
import Derived.Test.YtgljmflcbdhigaaRefA
set_option linter.unusedVariables false
set_option linter.unusedSimpArgs false
namespace Go.Proofs.Ytgljmflcbdhigaa
open Go.RowKit

def refWin (f : Int) (np : Nat) (l : List WinD) : Int := if 32 < l.length then 32 else winFrom f np 0 0 l

set_option maxRecDepth 100000 in
set_option maxHeartbeats 4000000 in
theorem refWindows_any (B : Nat) (A : Option Addr) (c : Nat) (l : List WinD) (f m : Int) (vc : Value) (PA : Option Addr) (np pc : Nat) (w : World) (hl : Row repW 155 B w A l) (hn : l.length ≤ 1000) (h2 : vc.oneCell' = true) (hf : f ≤ 256) :
    Calls Try.prog 134 #[.agg #[.int .i64 f, .int .i64 m, .slice A l.length c, .slice PA np pc, vc]] w fun e w' => e = .returned (.int .i64 (refWin f np l)) ∧ Below w.heap.size w w' := by
  unfold refWin
  obtain ⟨r, hr⟩ : ∃ r, winFrom f np 0 0 l = r := ⟨_, rfl⟩
  rw [hr]
  have hH := fun (p : Int) (b : Bool) (hb : hasD np p = b) W => refHas_is f m (.slice A l.length c) vc PA np pc p W b hb rfl h2
  obtain ⟨n, hn'⟩ : ∃ n, l.length = n := ⟨_, rfl⟩
  rw [hn'] at hn hH ⊢
  have Hn := Lib.hid hn'
  have Hr := Lib.hid hr
  have HH := Lib.hid hH
  clear hn' hr hH
  have hA : ∀ o, Below w.heap.size w (w.alloc o) := fun o => (Below.refl _ _).alloc (Nat.le_refl _) o
  by_cases hm : 32 < n
  · have hm2 : (32 : Int) < (n : Int) := by omega
    rw [if_pos hm]
    go_enter Try.func134, Try.ntmps134
    go_wp2
    go_ret
    exact ⟨rfl, hA _⟩
  have hm2 : ¬ (32 : Int) < (n : Int) := by omega
  rw [if_neg hm]
  go_enter Try.func134, Try.ntmps134
  go_wp2
  go_loopw [3, 4] (fun a j wr => ∃ (k : Nat) (en : Int), k ≤ n ∧ j = .int .i64 k ∧ a = .int .i64 en ∧ 0 ≤ en ∧ winFrom f np en k (l.drop k) = r ∧ Blk wr w.heap.size 64 #[.int .i64 f, .int .i64 m, .slice A n c, .slice PA np pc, vc] ∧ Below w.heap.size w wr) (fun _ j _ => n - (intOf j).toNat)
  case atStart => exact ⟨0, 0, Nat.zero_le _, rfl, rfl, Int.le_refl _, Hr.out, Blk.new _ _ _, hA _⟩
  case round =>
    clear Hr
    obtain ⟨k, en, hk, rfl, rfl, hen, he, hbx, hb⟩ := hrel
    have x0 := hbx.cell 0 rfl
    have x1 := hbx.cell 1 rfl
    have x2 := hbx.cell 2 rfl
    have x3 := hbx.cell 3 rfl
    have x4 := hbx.cell 4 rfl
    by_cases hlt : k < n
    · have hk2 : (k : Int) < (n : Int) := by omega
      obtain ⟨ad, x, rfl, hbk, hx, c0, c1, c2⟩ := at_W (hl.keep fun j hj _ => hb.block j (by omega)) (k := k) (by rw [Hn.out]; omega)
      rw [drop_cons' hx, winFrom] at he
      obtain ⟨at_, len, part⟩ := x
      simp only at he c0 c1 c2
      have hbA : ∀ o, Below w.heap.size w (wr.alloc o) := fun o => hb.alloc hb.size _
      have lx := hbx.lt
      clear hx
      by_cases q1 : at_ < en
      · have e : (k : Int) = r := by rw [← he]; simp [winBad, q1]
        have E := Lib.hid e
        clear he e
        go_wp2
        go_ret
        exact ⟨ret_i E.out, hbA _⟩
      by_cases q2 : f ≤ at_
      · have e : (k : Int) = r := by rw [← he]; simp [winBad, q2]
        have E := Lib.hid e
        clear he e
        go_wp2
        go_ret
        exact ⟨ret_i E.out, hbA _⟩
      by_cases q3 : len < 1
      · have e : (k : Int) = r := by
          rw [← he]
          have : inD len 1 (f - at_) = false := by simp [inD]; omega
          simp [winBad, this]
        have E := Lib.hid e
        clear he e
        go_wp2
        go_ret
        exact ⟨ret_i E.out, hbA _⟩
      have q1' : en ≤ at_ := by omega
      have q2' : at_ < f := by omega
      by_cases q4 : f - at_ < len
      · have e : (k : Int) = r := by
          rw [← he]
          have : inD len 1 (f - at_) = false := by simp [inD]; omega
          simp [winBad, this]
        have E := Lib.hid e
        clear he e
        go_wp2
        go_ret
        exact ⟨ret_i E.out, hbA _⟩
      obtain ⟨b, hb'⟩ : ∃ b, hasD np part = b := ⟨_, rfl⟩
      have hc := HH.out part b hb'
      have HC := Lib.hid hc
      have he2 : (if (!b) = true then (k : Int) else winFrom f np (at_ + len) (k + 1) (l.drop (k + 1))) = r := by
        rw [← he, ← hb']
        have e1 : inD len 1 (f - at_) = true := by simp [inD]; omega
        have e2 : decide (at_ < en) = false := by simpa using q1
        have e3 : decide (f ≤ at_) = false := by simpa using q2
        simp only [winBad, e1, e2, e3, Bool.not_true, Bool.false_or, Bool.or_false]
      have He := Lib.hid he2
      clear hc hb' he he2
      go_wp2_with fail
      refine (HC.out _).mono ?_
      rintro e w2 ⟨rfl, hb2⟩
      have hbB : Below w.heap.size w w2 := (hbA (.cells #[.int .i64 at_, .int .i64 len, .int .i64 part] 155)).trans (hb2.mono (hbA _).size)
      have hz := (Blk.new wr 155 #[.int .i64 at_, .int .i64 len, .int .i64 part]).below hb2 (by simp)
      have hbx2 := (hbx.alloc (.cells #[.int .i64 at_, .int .i64 len, .int .i64 part] 155)).below hb2 (by simp; omega)
      have z0 := hz.cell 0 rfl
      have z1 := hz.cell 1 rfl
      clear hb2 x0 x1 x2 x3 x4 c0 c1 c2
      cases b with
      | false =>
        have e : (k : Int) = r := by have := He.out; simpa using this
        have E := Lib.hid e
        clear e
        go_wp2
        go_ret
        exact ⟨ret_i E.out, hbB⟩
      | true =>
        go_wp2
        go_roundw
        case rel => exact ⟨k + 1, at_ + len, by omega, by go_num, rfl, by omega, by have := He.out; simpa using this, hbx2, hbB⟩
        case measure => simp [intOf] <;> omega
    · have hk2 : ¬ (k : Int) < (n : Int) := by omega
      have e : r = -1 := by rw [← he, List.drop_of_length_le (by rw [Hn.out]; omega)]; rfl
      have E := Lib.hid e
      clear he e
      go_wp2
      go_ret
      exact ⟨ret_i E.out.symm, hb⟩

set_option maxHeartbeats 1000000 in
theorem refChannel_any (f m : Int) (vw vc : Value) (PA : Option Addr) (np pc : Nat) (h : ChanD) (w : World) (h1 : vw.oneCell' = true) (h2 : vc.oneCell' = true) :
    Calls Try.prog 137 #[.agg #[.int .i64 f, .int .i64 m, vw, .slice PA np pc, vc], .agg #[.bool h.queue, .int .i64 h.frm, .int .i64 h.to_, .int .i64 h.size]] w fun e w' => e = .returned (.bool (chanOk np h)) ∧ Below w.heap.size w w' := by
  obtain ⟨q, a, b, s⟩ := h
  unfold chanOk
  simp only
  obtain ⟨b1, hb1⟩ : ∃ e, hasD np a = e := ⟨_, rfl⟩
  obtain ⟨b2, hb2⟩ : ∃ e, hasD np b = e := ⟨_, rfl⟩
  have hn : namesD np a [b] = (b1 && (b2 && !decide (a = b))) := by
    unfold namesD
    rw [hb1]
    simp only [namesFrom, List.contains_cons, List.contains_nil, Bool.or_false, hb2]
    by_cases e : b = a
    · subst e; simp
    · have e' : ¬ a = b := fun h => e h.symm
      cases b2 <;> simp [e, e']
  rw [hn]
  have k1 := fun W => refHas_is f m vw vc PA np pc a W b1 hb1 h1 h2
  have k2 := fun W => refHas_is f m vw vc PA np pc b W b2 hb2 h1 h2
  have K1 := Lib.hid k1
  have K2 := Lib.hid k2
  clear k1 k2 hb1 hb2 hn
  have hA : ∀ o o', Below w.heap.size w ((w.alloc o).alloc o') := fun o o' => ((Below.refl _ _).alloc (Nat.le_refl _) o).alloc (by simp) o'
  obtain ⟨ms, hms⟩ : ∃ ms : Int, (if q = true then (16 : Int) else 1000) = ms := ⟨_, rfl⟩
  rw [hms]
  have Hms := Lib.hid hms
  clear hms
  cases q with
  | true =>
    have e : (16 : Int) = ms := Hms.out
    subst e
    go_enter Try.func137, Try.ntmps137
    go_wp2_with fail
    refine (K1.out _).mono ?_
    rintro e w1 ⟨rfl, hb⟩
    have hg := ((Blk.new w 64 #[.int .i64 f, .int .i64 m, vw, .slice PA np pc, vc]).alloc (.cells #[.bool true, .int .i64 a, .int .i64 b, .int .i64 s] 158)).below hb (by simp; omega)
    have hx := (Blk.new' (w.alloc (.cells #[.int .i64 f, .int .i64 m, vw, .slice PA np pc, vc] 64)) (w.heap.size + 1) 158 #[.bool true, .int .i64 a, .int .i64 b, .int .i64 s] (by simp)).below hb (by simp)
    have hb1 : Below w.heap.size w w1 := (hA (.cells #[.int .i64 f, .int .i64 m, vw, .slice PA np pc, vc] 64) (.cells #[.bool true, .int .i64 a, .int .i64 b, .int .i64 s] 158)).trans (hb.mono (hA _ _).size)
    clear hb
    cases b1 with
    | false =>
      go_wp2
      go_ret
      exact ⟨ret_b (by simp), hb1⟩
    | true =>
      have g0 := hg.cell 0 rfl
      have g1 := hg.cell 1 rfl
      have g2 := hg.cell 2 rfl
      have g3 := hg.cell 3 rfl
      have g4 := hg.cell 4 rfl
      have x2 := hx.cell 2 rfl
      go_wp2_with fail
      refine (K2.out _).mono ?_
      rintro e w2 ⟨rfl, hb⟩
      have hx2 := hx.below hb hx.lt
      have hb2 := hb1.trans (hb.mono hb1.size)
      clear g0 g1 g2 g3 g4 x2 hb
      cases b2 with
      | false =>
        go_wp2
        go_ret
        exact ⟨ret_b (by simp), hb2⟩
      | true =>
        have x1 := hx2.cell 1 rfl
        have x2 := hx2.cell 2 rfl
        have x3 := hx2.cell 3 rfl
        by_cases hab : a = b
        · have q1 : (a != b) = false := by simp [hab]
          have q2 : decide (a = b) = true := by simp [hab]
          have Q2 := Lib.hid q2
          clear hab q2
          go_wp2
          go_ret
          exact ⟨ret_b (by rw [Q2.out]; simp), hb2⟩
        have q1 : (a != b) = true := by simp [hab]
        have q2 : decide (a = b) = false := by simp [hab]
        have Q2 := Lib.hid q2
        clear hab q2
        by_cases hs1 : 1 ≤ s
        · by_cases hs2 : s ≤ 16
          · go_wp2
            go_ret
            exact ⟨ret_b (by rw [Q2.out]; simp [inD, hs1, hs2]), hb2⟩
          · go_wp2
            go_ret
            exact ⟨ret_b (by rw [Q2.out]; have : ¬ s ≤ 16 := (by omega); simp [inD, hs1, this]), hb2⟩
        · go_wp2
          go_ret
          exact ⟨ret_b (by rw [Q2.out]; simp [inD]; omega), hb2⟩
  | false =>
    have e : (1000 : Int) = ms := Hms.out
    subst e
    go_enter Try.func137, Try.ntmps137
    go_wp2_with fail
    refine (K1.out _).mono ?_
    rintro e w1 ⟨rfl, hb⟩
    have hg := ((Blk.new w 64 #[.int .i64 f, .int .i64 m, vw, .slice PA np pc, vc]).alloc (.cells #[.bool false, .int .i64 a, .int .i64 b, .int .i64 s] 158)).below hb (by simp; omega)
    have hx := (Blk.new' (w.alloc (.cells #[.int .i64 f, .int .i64 m, vw, .slice PA np pc, vc] 64)) (w.heap.size + 1) 158 #[.bool false, .int .i64 a, .int .i64 b, .int .i64 s] (by simp)).below hb (by simp)
    have hb1 : Below w.heap.size w w1 := (hA (.cells #[.int .i64 f, .int .i64 m, vw, .slice PA np pc, vc] 64) (.cells #[.bool false, .int .i64 a, .int .i64 b, .int .i64 s] 158)).trans (hb.mono (hA _ _).size)
    clear hb
    cases b1 with
    | false =>
      go_wp2
      go_ret
      exact ⟨ret_b (by simp), hb1⟩
    | true =>
      have g0 := hg.cell 0 rfl
      have g1 := hg.cell 1 rfl
      have g2 := hg.cell 2 rfl
      have g3 := hg.cell 3 rfl
      have g4 := hg.cell 4 rfl
      have x2 := hx.cell 2 rfl
      go_wp2_with fail
      refine (K2.out _).mono ?_
      rintro e w2 ⟨rfl, hb⟩
      have hx2 := hx.below hb hx.lt
      have hb2 := hb1.trans (hb.mono hb1.size)
      clear g0 g1 g2 g3 g4 x2 hb
      cases b2 with
      | false =>
        go_wp2
        go_ret
        exact ⟨ret_b (by simp), hb2⟩
      | true =>
        have x1 := hx2.cell 1 rfl
        have x2 := hx2.cell 2 rfl
        have x3 := hx2.cell 3 rfl
        by_cases hab : a = b
        · have q1 : (a != b) = false := by simp [hab]
          have q2 : decide (a = b) = true := by simp [hab]
          have Q2 := Lib.hid q2
          clear hab q2
          go_wp2
          go_ret
          exact ⟨ret_b (by rw [Q2.out]; simp), hb2⟩
        have q1 : (a != b) = true := by simp [hab]
        have q2 : decide (a = b) = false := by simp [hab]
        have Q2 := Lib.hid q2
        clear hab q2
        by_cases hs1 : 1 ≤ s
        · by_cases hs2 : s ≤ 1000
          · go_wp2
            go_ret
            exact ⟨ret_b (by rw [Q2.out]; simp [inD, hs1, hs2]), hb2⟩
          · go_wp2
            go_ret
            exact ⟨ret_b (by rw [Q2.out]; have : ¬ s ≤ 1000 := (by omega); simp [inD, hs1, this]), hb2⟩
        · go_wp2
          go_ret
          exact ⟨ret_b (by rw [Q2.out]; simp [inD]; omega), hb2⟩
/-! ### Check -/
theorem winE_ref (f : Int) (np : Nat) (l : List WinD) : (refWin f np l < 0 ∧ winE f np l = (0, 0)) ∨ (0 ≤ refWin f np l ∧ winE f np l = (21, refWin f np l)) := by
  unfold refWin winE
  by_cases h : 32 < l.length
  · rw [if_pos h, if_pos h]; right; exact ⟨by decide, rfl⟩
  · rw [if_neg h, if_neg h]
    by_cases h2 : winFrom f np 0 0 l < 0
    · left; rw [if_pos h2]; exact ⟨h2, rfl⟩
    · right; rw [if_neg h2]; exact ⟨by omega, rfl⟩
def CfgD.rest (c : CfgD) : Int × Int :=
  if (partsFrom c.ps.length 0 c.ps).1 ≠ 0 then partsFrom c.ps.length 0 c.ps else if (chanE c.ps.length c.cs).1 ≠ 0 then chanE c.ps.length c.cs else (0, 0)
theorem check_bad {c : CfgD} (h : ¬ ((1 ≤ c.frame ∧ c.frame ≤ 256) ∧ (0 ≤ c.margin ∧ c.margin ≤ 8))) : c.check = (20, 0) := by
  have : sizeE c.frame c.margin c.ps.length = 20 := by unfold sizeE; rw [if_pos (by simp [inD]; omega)]
  unfold CfgD.check
  rw [this]; simp
theorem check_bad2 {c : CfgD} (h : (1 ≤ c.frame ∧ c.frame ≤ 256) ∧ (0 ≤ c.margin ∧ c.margin ≤ 8)) (h2 : ¬ (1 ≤ c.ps.length ∧ c.ps.length ≤ 6)) : c.check = (1, 0) := by
  have : sizeE c.frame c.margin c.ps.length = 1 := by unfold sizeE; rw [if_neg (by simp [inD]; omega), if_pos (by simp [inD]; omega)]
  unfold CfgD.check
  rw [this]; simp
theorem check_good {c : CfgD} (h : (1 ≤ c.frame ∧ c.frame ≤ 256) ∧ (0 ≤ c.margin ∧ c.margin ≤ 8)) (h2 : 1 ≤ c.ps.length ∧ c.ps.length ≤ 6) : c.check = if (winE c.frame c.ps.length c.ws).1 ≠ 0 then winE c.frame c.ps.length c.ws else c.rest := by
  have : sizeE c.frame c.margin c.ps.length = 0 := by unfold sizeE; rw [if_neg (by simp [inD]; omega), if_neg (by simp [inD]; omega)]
  unfold CfgD.check CfgD.rest
  rw [this]; simp

set_option maxRecDepth 100000 in
set_option maxHeartbeats 4000000 in
theorem refCheck6_any (B : Nat) (c : CfgD) (WA : Option Addr) (wk : Nat) (PA : Option Addr) (pc : Nat) (CA : Option Addr) (cc : Nat) (w : World) (h : CfgA tR B w c WA wk PA pc CA cc) (hl : c.light = true) (hB : B ≤ w.heap.size) :
    Calls Try.prog 95 #[.agg #[.int .i64 c.frame, .int .i64 c.margin, .slice WA c.ws.length wk, .slice PA c.ps.length pc, .slice CA c.cs.length cc]] w fun e w' => e = .returned (.tuple #[.int .i64 c.check.1, .int .i64 c.check.2]) ∧ Below w.heap.size w w' := by
  have hA : ∀ o, Below w.heap.size w (w.alloc o) := fun o => (Below.refl _ _).alloc (Nat.le_refl _) o
  simp only [CfgD.light, Bool.and_eq_true, decide_eq_true_eq, List.all_eq_true] at hl
  obtain ⟨⟨⟨l1, l2⟩, l3⟩, l4⟩ := hl
  have hps := h.ps
  have hcs := h.cs
  have hwin := fun W (hW : Below w.heap.size w W) (hf : c.frame ≤ 256) => refWindows_any B WA wk c.ws c.frame c.margin (.slice CA c.cs.length cc) PA c.ps.length pc W (h.ws.row.keep fun j hj _ => hW.block j hj) (by omega) rfl hf
  have hnam := fun W (p : Int) (A : Option Addr) (cp : Nat) (l : List Int) => refNames_any B c.frame c.margin (.slice WA c.ws.length wk) (.slice CA c.cs.length cc) PA c.ps.length pc p A cp l W rfl rfl
  have hcha := fun W (x : ChanD) => refChannel_any c.frame c.margin (.slice WA c.ws.length wk) (.slice CA c.cs.length cc) PA c.ps.length pc x W rfl rfl
  have hb1 := check_bad (c := c)
  have hb2 := check_bad2 (c := c)
  have hb3 := check_good (c := c)
  have hwe := winE_ref c.frame c.ps.length c.ws
  obtain ⟨r1, r2, hr⟩ : ∃ r1 r2, c.check = (r1, r2) := ⟨_, _, rfl⟩
  rw [hr] at hb1 hb2 hb3 ⊢
  unfold CfgD.rest at hb3
  obtain ⟨f, hf⟩ : ∃ f, c.frame = f := ⟨_, rfl⟩
  obtain ⟨m, hm⟩ : ∃ f, c.margin = f := ⟨_, rfl⟩
  obtain ⟨n, hn⟩ : ∃ f, c.ps.length = f := ⟨_, rfl⟩
  obtain ⟨nw, hnw⟩ : ∃ f, c.ws.length = f := ⟨_, rfl⟩
  obtain ⟨nc, hnc⟩ : ∃ f, c.cs.length = f := ⟨_, rfl⟩
  simp only [hf, hm, hn, hnw, hnc] at hwin hnam hcha hb1 hb2 hb3 hwe l2 ⊢
  obtain ⟨q, hq⟩ : ∃ q, refWin f n c.ws = q := ⟨_, rfl⟩
  rw [hq] at hwin hwe
  have Hn := Lib.hid hn
  have Hnc := Lib.hid hnc
  have HW := Lib.hid hwin
  have HNm := Lib.hid hnam
  have HCh := Lib.hid hcha
  have Hb1 := Lib.hid hb1
  have Hb2 := Lib.hid hb2
  have Hb3 := Lib.hid hb3
  have Hwe := Lib.hid hwe
  have L4 := Lib.hid l4
  clear hf hm hn hnw hnc hq hr hwin hnam hcha hb1 hb2 hb3 hwe l4 h
  by_cases q1 : (1 ≤ f ∧ f ≤ 256) ∧ (0 ≤ m ∧ m ≤ 8)
  case neg =>
    have e := Hb1.out q1
    injection e with e1 e2
    subst e1 e2
    have q1' : ¬ (1 ≤ f) ∨ ¬ (f ≤ 256) ∨ ¬ (0 ≤ m) ∨ ¬ (m ≤ 8) := by omega
    clear q1 Hb1 Hb2 Hb3 Hwe
    rcases q1' with q | q | q | q
    · have q' : f < 1 := by omega
      go_enter Try.func95, Try.ntmps95
      go_wp2
      go_ret2
      exact ⟨rfl, hA _⟩
    · have q' : ¬ f < 1 := by omega
      have q'' : 256 < f := by omega
      go_enter Try.func95, Try.ntmps95
      go_wp2
      go_ret2
      exact ⟨rfl, hA _⟩
    · have q' : m < 0 := by omega
      by_cases g1 : f < 1
      · go_enter Try.func95, Try.ntmps95
        go_wp2
        go_ret2
        exact ⟨rfl, hA _⟩
      by_cases g2 : 256 < f
      · go_enter Try.func95, Try.ntmps95
        go_wp2
        go_ret2
        exact ⟨rfl, hA _⟩
      go_enter Try.func95, Try.ntmps95
      go_wp2
      go_ret2
      exact ⟨rfl, hA _⟩
    · have q' : 8 < m := by omega
      have q'' : ¬ m < 0 := by omega
      by_cases g1 : f < 1
      · go_enter Try.func95, Try.ntmps95
        go_wp2
        go_ret2
        exact ⟨rfl, hA _⟩
      by_cases g2 : 256 < f
      · go_enter Try.func95, Try.ntmps95
        go_wp2
        go_ret2
        exact ⟨rfl, hA _⟩
      go_enter Try.func95, Try.ntmps95
      go_wp2
      go_ret2
      exact ⟨rfl, hA _⟩
  case pos =>
  have g1 : ¬ f < 1 := by omega
  have g2 : ¬ 256 < f := by omega
  have g3 : ¬ m < 0 := by omega
  have g4 : ¬ 8 < m := by omega
  by_cases q2 : 1 ≤ n ∧ n ≤ 6
  case neg =>
    have e := Hb2.out q1 q2
    injection e with e1 e2
    subst e1 e2
    have q2' : ¬ (1 ≤ n) ∨ ¬ (n ≤ 6) := by omega
    clear q1 q2 Hb1 Hb2 Hb3 Hwe
    rcases q2' with q | q
    · have q' : (n : Int) < 1 := by omega
      go_enter Try.func95, Try.ntmps95
      go_wp2
      go_ret2
      exact ⟨rfl, hA _⟩
    · have q' : (6 : Int) < (n : Int) := by omega
      have q'' : ¬ (n : Int) < 1 := by omega
      go_enter Try.func95, Try.ntmps95
      go_wp2
      go_ret2
      exact ⟨rfl, hA _⟩
  case pos =>
  have g5 : ¬ (n : Int) < 1 := by omega
  have g6 : ¬ (6 : Int) < (n : Int) := by omega
  have hres := Hb3.out q1 q2
  have hwe := Hwe.out
  have HW2 : Hid (∀ W, Below w.heap.size w W → Calls Try.prog 134 #[.agg #[.int .i64 f, .int .i64 m, .slice WA nw wk, .slice PA n pc, .slice CA nc cc]] W fun e w' => e = .returned (.int .i64 q) ∧ Below W.heap.size W w') := Lib.hid fun W hW => HW.out W hW q1.1.2
  clear Hb1 Hb2 Hb3 Hwe HW
  rcases hwe with ⟨hq, hwe⟩ | ⟨hq, hwe⟩
  case inr =>
    rw [hwe] at hres
    have e : (r1, r2) = ((21 : Int), q) := by simpa using hres
    injection e with e1 e2
    subst e1 e2
    clear hres hwe q1 q2
    go_enter Try.func95, Try.ntmps95
    go_wp2_with fail
    refine (HW2.out _ (hA _)).mono ?_
    rintro e w1 ⟨rfl, hb⟩
    have hb1 := (hA (.cells #[.int .i64 f, .int .i64 m, .slice WA nw wk, .slice PA n pc, .slice CA nc cc] 64)).trans (hb.mono (hA _).size)
    go_wp2
    go_ret2
    exact ⟨rfl, hb1⟩
  case inl =>
  rw [hwe] at hres
  have hres2 : (r1, r2) = if (partsFrom n 0 c.ps).1 ≠ 0 then partsFrom n 0 c.ps else if (chanE n c.cs).1 ≠ 0 then chanE n c.cs else (0, 0) := by simpa using hres
  have Hres := Lib.hid hres2
  clear hres hres2 hwe
  go_enter Try.func95, Try.ntmps95
  go_wp2_with fail
  refine (HW2.out _ (hA _)).mono ?_
  rintro e w1 ⟨rfl, hb⟩
  have hb1 := (hA (.cells #[.int .i64 f, .int .i64 m, .slice WA nw wk, .slice PA n pc, .slice CA nc cc] 64)).trans (hb.mono (hA _).size)
  have hbx1 := (Blk.new w 64 #[.int .i64 f, .int .i64 m, .slice WA nw wk, .slice PA n pc, .slice CA nc cc]).below hb (by simp)
  obtain ⟨pr, hpr⟩ : ∃ x, partsFrom n 0 c.ps = x := ⟨_, rfl⟩
  have Hpr := Lib.hid hpr
  clear hb hpr HW2 g1 g2 g3 g4 g5 g6 q1
  go_wp2
  go_loopw [5] (fun j wr => ∃ k : Nat, k ≤ n ∧ j = .int .i64 k ∧ partsFrom n k (c.ps.drop k) = pr ∧ Blk wr w.heap.size 64 #[.int .i64 f, .int .i64 m, .slice WA nw wk, .slice PA n pc, .slice CA nc cc] ∧ Below w.heap.size w wr) (fun j _ => n - (intOf j).toNat)
  case atStart => exact ⟨0, Nat.zero_le _, rfl, Hpr.out, hbx1, hb1⟩
  case round =>
    clear hbx1 hb1
    obtain ⟨k, hk, rfl, he, hbx, hb⟩ := hrel
    have x3 := hbx.cell 3 rfl
    by_cases hlt : k < n
    · have hk2 : (k : Int) < (n : Int) := by omega
      have hk0 : (0 : Int) ≤ (k : Int) := by omega
      obtain ⟨ad, p, TA, tc, SA, sc, DA, dc, rfl, hbk, hx, c0, c1, c2, c3, c4, c5, s1, s2, s3⟩ := at_P (hps.row.keep fun j hj _ => hb.block j hj) (k := k) (by rw [Hn.out]; omega)
      rw [drop_cons' hx, partsFrom] at he
      have hpf := L4.out p (List.mem_of_getElem? hx)
      simp only [PartD.few, Bool.and_eq_true, decide_eq_true_eq] at hpf
      have hrg := refRights_any B TA SA tc sc (.slice DA p.ds.length dc) p wr (by have := hb.size; omega) rfl s1.row s2.row (by omega) (by omega)
      obtain ⟨e1, he1⟩ : ∃ e, p.rights = e := ⟨_, rfl⟩
      obtain ⟨b1, hb1⟩ : ∃ b, namesD n k p.ds = b := ⟨_, rfl⟩
      rw [he1] at hrg he
      have hnm := fun W (hW : Below wr.heap.size wr W) => HNm.out W k DA dc p.ds (s3.row.keep fun j hj _ => hW.block j hj) (by omega) (by have := hb.size; have := hW.size; omega)
      rw [hb1] at hnm he
      have HR := Lib.hid hrg
      have HN0 := Lib.hid hnm
      have He := Lib.hid he
      clear he1 hb1 hrg hnm he hx s1 s2 s3
      have hsz := hb.size
      go_wp2_with fail
      refine HR.out.mono ?_
      rintro e w2 ⟨rfl, hb2⟩
      have hbx2 := hbx.below hb2 hbx.lt
      have hbw2 : Below w.heap.size w w2 := hb.trans (hb2.mono hsz)
      have d2 := cb hb2 c2
      have HN : Hid (∀ W, Below w2.heap.size w2 W → Calls Try.prog 136 #[.agg #[.int .i64 f, .int .i64 m, .slice WA nw wk, .slice (some ad) n pc, .slice CA nc cc], .int .i64 k, .slice DA p.ds.length dc] W fun e w' => e = .returned (.bool b1) ∧ Below W.heap.size W w') := Lib.hid fun W hW => HN0.out W (hb2.trans (hW.mono hb2.size))
      clear HN0 HR hbx hb x3 c0 c1 c2 c3 c4 c5 hb2
      by_cases h0 : e1 = 0
      · subst h0
        have x0 := hbx2.cell 0 rfl
        have x1 := hbx2.cell 1 rfl
        have x2 := hbx2.cell 2 rfl
        have x3 := hbx2.cell 3 rfl
        have x4 := hbx2.cell 4 rfl
        go_wp2
        go_cut [67] (fun u wx => u = .bool (!b1) ∧ Below w2.heap.size w2 wx)
        case first =>
          have z1 : Below w2.heap.size w2 w2.drew := (Below.refl _ _).drew
          have hSS : ∀ W, Below w2.heap.size w2 W → W.cell? ⟨w.heap.size, 0, none⟩ = some (.int .i64 f) ∧ W.cell? ⟨w.heap.size, 1, none⟩ = some (.int .i64 m) ∧ W.cell? ⟨w.heap.size, 2, none⟩ = some (.slice WA nw wk) ∧ W.cell? ⟨w.heap.size, 3, none⟩ = some (.slice (some ad) n pc) ∧ W.cell? ⟨w.heap.size, 4, none⟩ = some (.slice CA nc cc) ∧ W.cell? ⟨(ad.add (k * 6)).block, (ad.add (k * 6)).off + 2, none⟩ = some (.slice DA p.ds.length dc) := fun W hW => ⟨cb hW x0, cb hW x1, cb hW x2, cb hW x3, cb hW x4, cb hW d2⟩
          have HSS := Lib.hid hSS
          clear hSS
          refine wp_region_held_drew (S := fun W : World => W.cell? ⟨w.heap.size, 0, none⟩ = some (.int .i64 f) ∧ W.cell? ⟨w.heap.size, 1, none⟩ = some (.int .i64 m) ∧ W.cell? ⟨w.heap.size, 2, none⟩ = some (.slice WA nw wk) ∧ W.cell? ⟨w.heap.size, 3, none⟩ = some (.slice (some ad) n pc) ∧ W.cell? ⟨w.heap.size, 4, none⟩ = some (.slice CA nc cc) ∧ W.cell? ⟨(ad.add (k * 6)).block, (ad.add (k * 6)).off + 2, none⟩ = some (.slice DA p.ds.length dc)) (by kernel_rfl) (HSS.out _ z1) (fun hHeld => ?_)
          clear x0 x1 x2 x3 x4 d2
          refine wpAnyH_take (i := 0) (v := ?_) rfl (by kernel_rfl) (by kernel_rfl) (by kernel_rfl) (fun _ _ _ h => h) (Or.inl ⟨by rfl, ?_⟩) hHeld ?_
          rotate_left 1
          · intro W hSw
            go_simp
            with_reducible rfl
          simp only [Act.put, List.getElem_toArray, List.getElem_cons_succ, List.getElem_cons_zero, List.setIfInBounds_toArray, List.set_cons_zero, List.set_cons_succ]
          refine wpAnyH_take (i := 1) (v := ?_) rfl (by kernel_rfl) (by kernel_rfl) (by kernel_rfl) (fun _ _ _ h => h) (Or.inl ⟨by rfl, ?_⟩) hHeld ?_
          rotate_left 1
          · intro W hSw
            go_simp
            with_reducible rfl
          simp only [Act.put, List.getElem_toArray, List.getElem_cons_succ, List.getElem_cons_zero, List.setIfInBounds_toArray, List.set_cons_zero, List.set_cons_succ]
          refine wpAnyH_take (i := 2) (v := ?_) rfl (by kernel_rfl) (by kernel_rfl) (by kernel_rfl) (fun _ _ _ h => h) (Or.inl ⟨by rfl, ?_⟩) hHeld ?_
          rotate_left 1
          · intro W hSw
            go_simp
            with_reducible rfl
          simp only [Act.put, List.getElem_toArray, List.getElem_cons_succ, List.getElem_cons_zero, List.setIfInBounds_toArray, List.set_cons_zero, List.set_cons_succ]
          refine wpAnyH_take (i := 3) (v := ?_) rfl (by kernel_rfl) (by kernel_rfl) (by kernel_rfl) (fun _ _ _ h => h) (Or.inl ⟨by rfl, ?_⟩) hHeld ?_
          rotate_left 1
          · intro W hSw
            go_simp
            with_reducible rfl
          simp only [Act.put, List.getElem_toArray, List.getElem_cons_succ, List.getElem_cons_zero, List.setIfInBounds_toArray, List.set_cons_zero, List.set_cons_succ]
          refine wpAnyH_take (i := 4) (v := ?_) rfl (by kernel_rfl) (by kernel_rfl) (by kernel_rfl) (fun _ _ _ h => h) (Or.inl ⟨by rfl, ?_⟩) hHeld ?_
          rotate_left 1
          · intro W hSw
            go_simp
            with_reducible rfl
          simp only [Act.put, List.getElem_toArray, List.getElem_cons_succ, List.getElem_cons_zero, List.setIfInBounds_toArray, List.set_cons_zero, List.set_cons_succ]
          refine wpAnyH_take (i := 5) (v := ?_) rfl (by kernel_rfl) (by kernel_rfl) (by kernel_rfl) (fun _ _ _ h => h) (Or.inl ⟨by rfl, ?_⟩) hHeld ?_
          rotate_left 1
          · intro W hSw
            go_simp
            with_reducible rfl
          simp only [Act.put, List.getElem_toArray, List.getElem_cons_succ, List.getElem_cons_zero, List.setIfInBounds_toArray, List.set_cons_zero, List.set_cons_succ]
          refine wpAnyH_take (i := 6) (v := ?_) rfl (by kernel_rfl) (by kernel_rfl) (by kernel_rfl) (fun _ _ _ h => h) (Or.inl ⟨by rfl, ?_⟩) hHeld ?_
          rotate_left 1
          · intro W hSw
            go_simp
            with_reducible rfl
          simp only [Act.put, List.getElem_toArray, List.getElem_cons_succ, List.getElem_cons_zero, List.setIfInBounds_toArray, List.set_cons_zero, List.set_cons_succ]
          refine wpAnyH_take (i := 7) (v := ?_) rfl (by kernel_rfl) (by kernel_rfl) (by kernel_rfl) (fun _ _ _ h => h) (Or.inl ⟨by rfl, ?_⟩) hHeld ?_
          rotate_left 1
          · intro W hSw
            go_simp
            with_reducible rfl
          simp only [Act.put, List.getElem_toArray, List.getElem_cons_succ, List.getElem_cons_zero, List.setIfInBounds_toArray, List.set_cons_zero, List.set_cons_succ]
          refine wpAnyH_ready (rs := [8]) (by kernel_rfl) (by simp) ?_
          refine AllReadyH.cons rfl (fun K hK => ?_) AllReadyH.nil
          try simp only [List.getElem_toArray, List.getElem_cons_succ, List.getElem_cons_zero]
          go_simp
          go_at_call 136
          refine (HN.out _ z1).mono ?_
          rintro e w4 ⟨rfl, hb4⟩
          have hw4 : Below w2.heap.size w2 w4 := z1.trans (hb4.mono z1.size)
          refine hK.out _ _ (HSS.out _ hw4) (fun hHeld => ?_)
          clear hK K
          try simp only [Act.put, List.getElem_toArray, List.getElem_cons_succ, List.getElem_cons_zero, List.setIfInBounds_toArray, List.set_cons_zero, List.set_cons_succ]
          refine wpAnyH_take (i := 9) (v := ?_) rfl (by kernel_rfl) (by kernel_rfl) (by kernel_rfl) (fun _ _ _ h => h) (Or.inl ⟨by rfl, ?_⟩) hHeld ?_
          rotate_left 1
          · intro W hSw
            go_simp
            with_reducible rfl
          simp only [Act.put, List.getElem_toArray, List.getElem_cons_succ, List.getElem_cons_zero, List.setIfInBounds_toArray, List.set_cons_zero, List.set_cons_succ]
          refine wpAnyH_done (by kernel_rfl) ?_ _
          go_wp2_with fail
          go_meet
          exact ⟨rfl, hw4⟩
        case rest =>
          obtain ⟨rfl, hbw⟩ := hcut
          have hbx3 := hbx2.below hbw hbx2.lt
          have hbW : Below w.heap.size w wc := hbw2.trans (hbw.mono hbw2.size)
          clear x0 x1 x2 x3 x4 d2 hbx2 hbw2 hbw
          cases b1 with
          | false =>
            have e : ((24 : Int), (k : Int)) = pr := by have := He.out; simpa using this
            have e2 := Hres.out
            rw [Hpr.out, ← e] at e2
            have e3 : (r1, r2) = ((24 : Int), (k : Int)) := by simpa using e2
            injection e3 with e3 e4
            have E3 := Lib.hid e3
            have E4 := Lib.hid e4
            clear e e2 e3 e4
            go_wp2
            go_ret2
            exact ⟨ret_ei E3.out.symm E4.out.symm, hbW⟩
          | true =>
            go_wp2
            go_roundw
            case rel => exact ⟨k + 1, by omega, by go_num, by have := He.out; simpa using this, hbx3, hbW⟩
            case measure => simp [intOf] <;> omega
      · have h0' : (e1 != 0) = true := by simpa using h0
        have e : (e1, (k : Int)) = pr := by have := He.out; simpa [h0] using this
        have e2 := Hres.out
        rw [Hpr.out, ← e] at e2
        have e3 : (r1, r2) = (e1, (k : Int)) := by simpa [h0] using e2
        injection e3 with e3 e4
        have E3 := Lib.hid e3
        have E4 := Lib.hid e4
        have H0 := Lib.hid h0
        clear e e2 e3 e4 h0
        go_wp2
        go_ret2
        exact ⟨ret_ei E3.out.symm E4.out.symm, hbw2⟩
    · have hk2 : ¬ (k : Int) < (n : Int) := by omega
      have e : pr = (0, 0) := by rw [← he, List.drop_of_length_le (by rw [Hn.out]; omega)]; rfl
      have e2 := Hres.out
      rw [Hpr.out, e] at e2
      have e3 : (r1, r2) = if (chanE n c.cs).1 ≠ 0 then chanE n c.cs else (0, 0) := by simpa using e2
      have x4 := hbx.cell 4 rfl
      unfold chanE at e3
      rw [Hnc.out] at e3
      clear he e e2 Hres Hpr
      by_cases q8 : 8 < nc
      · have q8' : (8 : Int) < nc := by omega
        rw [if_pos q8] at e3
        have e4 : (r1, r2) = ((25 : Int), (8 : Int)) := by simpa using e3
        injection e4 with e4 e5
        have E4 := Lib.hid e4
        have E5 := Lib.hid e5
        clear e3 e4 e5
        go_wp2
        go_ret2
        exact ⟨ret_ei E4.out.symm E5.out.symm, hb⟩
      have q8' : ¬ (8 : Int) < nc := by omega
      rw [if_neg q8] at e3
      obtain ⟨ix, hix⟩ : ∃ x, indexD (fun h => !chanOk n h) 0 c.cs = x := ⟨_, rfl⟩
      rw [hix] at e3
      have Hix := Lib.hid hix
      have E3 := Lib.hid e3
      clear hix e3
      go_wp2
      go_loopw [7] (fun j wr => ∃ k : Nat, k ≤ nc ∧ j = .int .i64 k ∧ indexD (fun h => !chanOk n h) k (c.cs.drop k) = ix ∧ Blk wr w.heap.size 64 #[.int .i64 f, .int .i64 m, .slice WA nw wk, .slice PA n pc, .slice CA nc cc] ∧ Below w.heap.size w wr) (fun j _ => nc - (intOf j).toNat)
      case atStart => exact ⟨0, Nat.zero_le _, rfl, Hix.out, hbx, hb⟩
      case round =>
        clear hbx hb x3 x4
        obtain ⟨k, hk, rfl, he, hbx, hb⟩ := hrel
        have x0 := hbx.cell 0 rfl
        have x1 := hbx.cell 1 rfl
        have x2 := hbx.cell 2 rfl
        have x3 := hbx.cell 3 rfl
        have x4 := hbx.cell 4 rfl
        by_cases hlt : k < nc
        · have hk2 : (k : Int) < (nc : Int) := by omega
          have hk0 : (0 : Int) ≤ (k : Int) := by omega
          obtain ⟨ad, x, rfl, hbk, hx, c0, c1, c2, c3⟩ := at_C (hcs.row.keep fun j hj _ => hb.block j hj) (k := k) (by rw [Hnc.out]; omega)
          rw [drop_cons' hx, indexD] at he
          obtain ⟨b, hbb⟩ : ∃ b, chanOk n x = b := ⟨_, rfl⟩
          have hc := fun W => HCh.out W x
          rw [hbb] at he hc
          have HC := Lib.hid hc
          have He := Lib.hid he
          have hsz := hb.size
          clear hbb hc he hx
          go_wp2
          go_cut [87] (fun u wx => u = .bool (!b) ∧ Below wr.heap.size wr wx)
          case first =>
            have z1 : Below wr.heap.size wr wr.drew := (Below.refl _ _).drew
            have hSS : ∀ W, Below wr.heap.size wr W → W.cell? ⟨w.heap.size, 0, none⟩ = some (.int .i64 f) ∧ W.cell? ⟨w.heap.size, 1, none⟩ = some (.int .i64 m) ∧ W.cell? ⟨w.heap.size, 2, none⟩ = some (.slice WA nw wk) ∧ W.cell? ⟨w.heap.size, 3, none⟩ = some (.slice PA n pc) ∧ W.cell? ⟨w.heap.size, 4, none⟩ = some (.slice (some ad) nc cc) ∧ W.cell? (ad.add (k * 4)) = some (.bool x.queue) ∧ W.cell? ⟨(ad.add (k * 4)).block, (ad.add (k * 4)).off + 1, none⟩ = some (.int .i64 x.frm) ∧ W.cell? ⟨(ad.add (k * 4)).block, (ad.add (k * 4)).off + 2, none⟩ = some (.int .i64 x.to_) ∧ W.cell? ⟨(ad.add (k * 4)).block, (ad.add (k * 4)).off + 3, none⟩ = some (.int .i64 x.size) := fun W hW => ⟨cb hW x0, cb hW x1, cb hW x2, cb hW x3, cb hW x4, cb hW c0, cb hW c1, cb hW c2, cb hW c3⟩
            have HSS := Lib.hid hSS
            clear hSS
            refine wp_region_held_drew (S := fun W : World => W.cell? ⟨w.heap.size, 0, none⟩ = some (.int .i64 f) ∧ W.cell? ⟨w.heap.size, 1, none⟩ = some (.int .i64 m) ∧ W.cell? ⟨w.heap.size, 2, none⟩ = some (.slice WA nw wk) ∧ W.cell? ⟨w.heap.size, 3, none⟩ = some (.slice PA n pc) ∧ W.cell? ⟨w.heap.size, 4, none⟩ = some (.slice (some ad) nc cc) ∧ W.cell? (ad.add (k * 4)) = some (.bool x.queue) ∧ W.cell? ⟨(ad.add (k * 4)).block, (ad.add (k * 4)).off + 1, none⟩ = some (.int .i64 x.frm) ∧ W.cell? ⟨(ad.add (k * 4)).block, (ad.add (k * 4)).off + 2, none⟩ = some (.int .i64 x.to_) ∧ W.cell? ⟨(ad.add (k * 4)).block, (ad.add (k * 4)).off + 3, none⟩ = some (.int .i64 x.size)) (by kernel_rfl) (HSS.out _ z1) (fun hHeld => ?_)
            clear x0 x1 x2 x3 x4 c0 c1 c2 c3
            refine wpAnyH_take (i := 0) (v := ?_) rfl (by kernel_rfl) (by kernel_rfl) (by kernel_rfl) (fun _ _ _ h => h) (Or.inl ⟨by rfl, ?_⟩) hHeld ?_
            rotate_left 1
            · intro W hSw
              go_simp
              with_reducible rfl
            simp only [Act.put, List.getElem_toArray, List.getElem_cons_succ, List.getElem_cons_zero, List.setIfInBounds_toArray, List.set_cons_zero, List.set_cons_succ]
            refine wpAnyH_take (i := 1) (v := ?_) rfl (by kernel_rfl) (by kernel_rfl) (by kernel_rfl) (fun _ _ _ h => h) (Or.inl ⟨by rfl, ?_⟩) hHeld ?_
            rotate_left 1
            · intro W hSw
              go_simp
              with_reducible rfl
            simp only [Act.put, List.getElem_toArray, List.getElem_cons_succ, List.getElem_cons_zero, List.setIfInBounds_toArray, List.set_cons_zero, List.set_cons_succ]
            refine wpAnyH_take (i := 2) (v := ?_) rfl (by kernel_rfl) (by kernel_rfl) (by kernel_rfl) (fun _ _ _ h => h) (Or.inl ⟨by rfl, ?_⟩) hHeld ?_
            rotate_left 1
            · intro W hSw
              go_simp
              with_reducible rfl
            simp only [Act.put, List.getElem_toArray, List.getElem_cons_succ, List.getElem_cons_zero, List.setIfInBounds_toArray, List.set_cons_zero, List.set_cons_succ]
            refine wpAnyH_take (i := 3) (v := ?_) rfl (by kernel_rfl) (by kernel_rfl) (by kernel_rfl) (fun _ _ _ h => h) (Or.inl ⟨by rfl, ?_⟩) hHeld ?_
            rotate_left 1
            · intro W hSw
              go_simp
              with_reducible rfl
            simp only [Act.put, List.getElem_toArray, List.getElem_cons_succ, List.getElem_cons_zero, List.setIfInBounds_toArray, List.set_cons_zero, List.set_cons_succ]
            refine wpAnyH_take (i := 4) (v := ?_) rfl (by kernel_rfl) (by kernel_rfl) (by kernel_rfl) (fun _ _ _ h => h) (Or.inl ⟨by rfl, ?_⟩) hHeld ?_
            rotate_left 1
            · intro W hSw
              go_simp
              with_reducible rfl
            simp only [Act.put, List.getElem_toArray, List.getElem_cons_succ, List.getElem_cons_zero, List.setIfInBounds_toArray, List.set_cons_zero, List.set_cons_succ]
            refine wpAnyH_take (i := 5) (v := ?_) rfl (by kernel_rfl) (by kernel_rfl) (by kernel_rfl) (fun _ _ _ h => h) (Or.inl ⟨by rfl, ?_⟩) hHeld ?_
            rotate_left 1
            · intro W hSw
              go_simp
              with_reducible rfl
            simp only [Act.put, List.getElem_toArray, List.getElem_cons_succ, List.getElem_cons_zero, List.setIfInBounds_toArray, List.set_cons_zero, List.set_cons_succ]
            refine wpAnyH_ready (rs := [6]) (by kernel_rfl) (by simp) ?_
            refine AllReadyH.cons rfl (fun K hK => ?_) AllReadyH.nil
            try simp only [List.getElem_toArray, List.getElem_cons_succ, List.getElem_cons_zero]
            go_simp
            go_at_call 137
            refine (HC.out _).mono ?_
            rintro e w4 ⟨rfl, hb4⟩
            have hw4 : Below wr.heap.size wr w4 := z1.trans (hb4.mono z1.size)
            refine hK.out _ _ (HSS.out _ hw4) (fun hHeld => ?_)
            clear hK K
            try simp only [Act.put, List.getElem_toArray, List.getElem_cons_succ, List.getElem_cons_zero, List.setIfInBounds_toArray, List.set_cons_zero, List.set_cons_succ]
            refine wpAnyH_take (i := 7) (v := ?_) rfl (by kernel_rfl) (by kernel_rfl) (by kernel_rfl) (fun _ _ _ h => h) (Or.inl ⟨by rfl, ?_⟩) hHeld ?_
            rotate_left 1
            · intro W hSw
              go_simp
              with_reducible rfl
            simp only [Act.put, List.getElem_toArray, List.getElem_cons_succ, List.getElem_cons_zero, List.setIfInBounds_toArray, List.set_cons_zero, List.set_cons_succ]
            refine wpAnyH_done (by kernel_rfl) ?_ _
            go_wp2_with fail
            go_meet
            exact ⟨rfl, hw4⟩
          case rest =>
            obtain ⟨rfl, hbw⟩ := hcut
            have hbx3 := hbx.below hbw hbx.lt
            have hbW : Below w.heap.size w wc := hb.trans (hbw.mono hsz)
            clear x0 x1 x2 x3 x4 c0 c1 c2 c3 hbx hb hbw
            cases b with
            | false =>
              have e : (k : Int) = ix := by have := He.out; simpa using this
              have e4 : (r1, r2) = ((25 : Int), (k : Int)) := by
                have := E3.out
                rw [← e, if_neg (show ¬ (k : Int) < 0 by omega)] at this
                simpa using this
              injection e4 with e4 e5
              have E4 := Lib.hid e4
              have E5 := Lib.hid e5
              clear e e4 e5
              go_wp2
              go_ret2
              exact ⟨ret_ei E4.out.symm E5.out.symm, hbW⟩
            | true =>
              go_wp2
              go_roundw
              case rel => exact ⟨k + 1, by omega, by go_num, by have := He.out; simpa using this, hbx3, hbW⟩
              case measure => simp [intOf] <;> omega
        · have hk2 : ¬ (k : Int) < (nc : Int) := by omega
          have e : ix = -1 := by rw [← he, List.drop_of_length_le (by rw [Hnc.out]; omega)]; rfl
          have e4 : (r1, r2) = ((0 : Int), (0 : Int)) := by have := E3.out; rw [e] at this; simpa using this
          injection e4 with e4 e5
          have E4 := Lib.hid e4
          have E5 := Lib.hid e5
          clear he e e4 e5
          go_wp2
          go_ret2
          exact ⟨ret_ei E4.out.symm E5.out.symm, hb⟩
end Go.Proofs.Ytgljmflcbdhigaa
