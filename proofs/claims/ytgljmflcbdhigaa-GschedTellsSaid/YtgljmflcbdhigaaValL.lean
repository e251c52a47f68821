/- The law on partitions, walked. -/
import Derived.Test.YtgljmflcbdhigaaValK
import Derived.Test.YtgljmflcbdhigaaLaw3
import Derived.Test.YtgljmflcbdhigaaOver
set_option linter.unusedVariables false
set_option linter.unusedSimpArgs false
namespace Go.Proofs.Ytgljmflcbdhigaa
open Go.RowKit

theorem CfgA.of_post {c : CfgD} {w w' : World} {vw vp vc : Value} (ow : Own repW 154 0 w.heap.size w' vw c.ws) (op : Own tO.rep 52 0 w.heap.size w' vp c.ps) (oc : Own repC 157 0 w.heap.size w' vc c.cs) :
    ∃ WA wc PA pc CA cc, vw = .slice WA c.ws.length wc ∧ vp = .slice PA c.ps.length pc ∧ vc = .slice CA c.cs.length cc ∧ CfgA tO 0 w' c WA wc PA pc CA cc := by
  obtain ⟨WA, wc, h1, k1⟩ := ow.slc
  obtain ⟨PA, pc, h2, k2⟩ := op.slc
  obtain ⟨CA, cc, h3, k3⟩ := oc.slc
  exact ⟨WA, wc, PA, pc, CA, cc, h1, h2, h3, k1, k2, k3⟩

theorem only_light (c : CfgD) (i : Nat) (h : c.light = true) : (c.only i).light = true := by
  simp only [CfgD.light, Bool.and_eq_true, decide_eq_true_eq, List.all_eq_true] at h ⊢
  obtain ⟨⟨⟨l1, l2⟩, l3⟩, l4⟩ := h
  have hz := zeroTo_len i c.ps.length c.ps
  have hzf := zeroTo_few i c.ps.length c.ps l4
  unfold CfgD.only
  split
  · exact ⟨⟨⟨by simp, by simp only; omega⟩, by simp⟩, hzf⟩
  · exact ⟨⟨⟨l1, by simp only; omega⟩, l3⟩, hzf⟩
theorem only_any1 (c : CfgD) (i n gc G B : Nat) (f m : Int) (hn : c.ps.length = n) (hf : c.frame = f) (hm : c.margin = m) (hi : i < n) (hl : c.light = true) (W : World) (hp : Own tO.rep 52 0 B W (.slice (some ⟨G, 0, none⟩) n gc) (zeroTo i n c.ps)) :
    Calls Try.prog 37 #[.agg #[.int .i64 f, .int .i64 m, .slice none 0 0, .slice (some ⟨G, 0, none⟩) n gc, .slice none 0 0]] W fun e w' => e = .returned (.tuple #[.int .i64 (c.only i).check.1, .int .i64 (c.only i).check.2]) ∧ Below W.heap.size W w' := by
  subst hn hf hm
  have hz := zeroTo_len i c.ps.length c.ps
  obtain ⟨A, c', hv, hs⟩ := hp.slc
  injection hv with h1 h2 h3
  subst h1 h3
  have h := check_any 0 (c.only i) none 0 (some ⟨G, 0, none⟩) gc none 0 W (by unfold CfgD.only; rw [if_pos hi]; exact ⟨Slc.empty, hs, Slc.empty⟩) (only_light c i hl) (Nat.zero_le _)
  have e1 : (c.only i).frame = c.frame := by unfold CfgD.only; rw [if_pos hi]
  have e2 : (c.only i).margin = c.margin := by unfold CfgD.only; rw [if_pos hi]
  have e3 : (c.only i).ws.length = 0 := by unfold CfgD.only; rw [if_pos hi]; rfl
  have e4 : (c.only i).ps.length = c.ps.length := by unfold CfgD.only; rw [if_pos hi]; exact hz
  have e5 : (c.only i).cs.length = 0 := by unfold CfgD.only; rw [if_pos hi]; rfl
  rwa [e1, e2, e3, e4, e5] at h
theorem only_any2 (c : CfgD) (n gc G B k1 c1 k3 c3 : Nat) (A1 A3 : Option Addr) (f m : Int) (hn : c.ps.length = n) (hf : c.frame = f) (hm : c.margin = m) (hk1 : c.ws.length = k1) (hk3 : c.cs.length = k3) (hl : c.light = true) (W : World) (hp : Own tO.rep 52 0 B W (.slice (some ⟨G, 0, none⟩) n gc) (zeroTo n n c.ps))
    (hw : Own repW 154 0 B W (.slice A1 k1 c1) c.ws) (hc : Own repC 157 0 B W (.slice A3 k3 c3) c.cs) :
    Calls Try.prog 37 #[.agg #[.int .i64 f, .int .i64 m, .slice A1 k1 c1, .slice (some ⟨G, 0, none⟩) n gc, .slice A3 k3 c3]] W fun e w' => e = .returned (.tuple #[.int .i64 (c.only n).check.1, .int .i64 (c.only n).check.2]) ∧ Below W.heap.size W w' := by
  subst hn hf hm hk1 hk3
  have hz := zeroTo_len c.ps.length c.ps.length c.ps
  obtain ⟨A, c', hv, hs⟩ := hp.slc
  injection hv with h1 h2 h3
  subst h1 h3
  obtain ⟨A, c', hv, hs1⟩ := hw.slc
  injection hv with h1 h2 h3
  subst h1 h3
  obtain ⟨A, c', hv, hs3⟩ := hc.slc
  injection hv with h1 h2 h3
  subst h1 h3
  have hi : ¬ c.ps.length < c.ps.length := Nat.lt_irrefl _
  have h := check_any 0 (c.only c.ps.length) A1 c1 (some ⟨G, 0, none⟩) gc A3 c3 W (by unfold CfgD.only; rw [if_neg hi]; exact ⟨hs1, hs, hs3⟩) (only_light c _ hl) (Nat.zero_le _)
  have e1 : (c.only c.ps.length).frame = c.frame := by unfold CfgD.only; rw [if_neg hi]
  have e2 : (c.only c.ps.length).margin = c.margin := by unfold CfgD.only; rw [if_neg hi]
  have e3 : (c.only c.ps.length).ws.length = c.ws.length := by unfold CfgD.only; rw [if_neg hi]
  have e4 : (c.only c.ps.length).ps.length = c.ps.length := by unfold CfgD.only; rw [if_neg hi]; exact hz
  have e5 : (c.only c.ps.length).cs.length = c.cs.length := by unfold CfgD.only; rw [if_neg hi]
  rwa [e1, e2, e3, e4, e5] at h

set_option maxRecDepth 100000 in
set_option maxHeartbeats 4000000 in
theorem validParts_any (c : CfgD) (WA : Option Addr) (wc : Nat) (PA : Option Addr) (pc : Nat) (CA : Option Addr) (cc : Nat) (w : World) (h : CfgA tR w.heap.size w c WA wc PA pc CA cc) :
    Calls Try.prog 6 #[.agg #[.int .i64 c.frame, .int .i64 c.margin, .slice WA c.ws.length wc, .slice PA c.ps.length pc, .slice CA c.cs.length cc]] w fun e w' => e = .returned (.bool true) ∧ Below w.heap.size w w' := by
  have hbA : ∀ o, Below w.heap.size w (w.alloc o) := fun o => (Below.refl _ _).alloc (Nat.le_refl _) _
  have hlight := fun o => light_any w.heap.size c WA wc PA pc CA cc (w.alloc o) (h.below (hbA o) (Nat.le_refl _))
  have hcfg := fun (hl : c.light = true) W (hW : Below w.heap.size w W) => config_any w.heap.size c WA wc PA pc CA cc W (h.below hW (Nat.le_refl _)) hl hW.size
  obtain ⟨v1, hv1⟩ : ∃ v, Value.slice WA c.ws.length wc = v := ⟨_, rfl⟩
  obtain ⟨v3, hv3⟩ : ∃ v, Value.slice CA c.cs.length cc = v := ⟨_, rfl⟩
  have o1 : v1.oneCell' = true := by rw [← hv1]; rfl
  have o3 : v3.oneCell' = true := by rw [← hv3]; rfl
  obtain ⟨n, hn'⟩ : ∃ n, c.ps.length = n := ⟨_, rfl⟩
  obtain ⟨f, hf⟩ : ∃ r, c.frame = r := ⟨_, rfl⟩
  obtain ⟨m, hm⟩ : ∃ r, c.margin = r := ⟨_, rfl⟩
  rw [hv1, hv3, hn', hf, hm] at hlight hcfg ⊢
  have Hn := Lib.hid hn'
  have Hf := Lib.hid hf
  have Hm := Lib.hid hm
  clear hv1 hv3 hn' hf hm h
  obtain ⟨b, hb⟩ : ∃ b, c.light = b := ⟨_, rfl⟩
  rw [hb] at hlight
  have HL := Lib.hid hlight
  have HC := Lib.hid hcfg
  have Hb := Lib.hid hb
  clear hlight hcfg hb
  go_enter Try.func6, Try.ntmps6
  go_wp2_with fail
  refine (HL.out _).mono ?_
  rintro e w1 ⟨rfl, hb1⟩
  have hbx1 := (Blk.new w 64 #[.int .i64 f, .int .i64 m, v1, .slice PA n pc, v3]).below hb1 (by simp)
  have hw1 : Below w.heap.size w w1 := (hbA _).trans (hb1.mono (hbA _).size)
  clear hb1
  cases b with
  | false =>
    go_wp2_with fail
    refine (knows6_any _).mono ?_
    rintro e w2 ⟨rfl, hb2⟩
    go_wp2
    go_ret
    exact ⟨rfl, hw1.trans (hb2.mono hw1.size)⟩
  | true =>
  have hb : c.light = true := Hb.out
  have x0 := hbx1.cell 0 rfl
  have x1 := hbx1.cell 1 rfl
  have x2 := hbx1.cell 2 rfl
  have x3 := hbx1.cell 3 rfl
  have x4 := hbx1.cell 4 rfl
  by_cases q1 : n < 1
  · have q1' : (n : Int) < 1 := by omega
    go_wp2_with fail
    refine (knows6_any _).mono ?_
    rintro e w2 ⟨rfl, hb2⟩
    go_wp2
    go_ret
    exact ⟨rfl, hw1.trans (hb2.mono hw1.size)⟩
  have q1' : ¬ (n : Int) < 1 := by omega
  by_cases q2 : 6 < n
  · have q2' : (6 : Int) < (n : Int) := by omega
    go_wp2_with fail
    refine (knows6_any _).mono ?_
    rintro e w2 ⟨rfl, hb2⟩
    go_wp2
    go_ret
    exact ⟨rfl, hw1.trans (hb2.mono hw1.size)⟩
  have q2' : ¬ (6 : Int) < (n : Int) := by omega
  have HC2 := Lib.hid (HC.out hb)
  clear HC
  go_wp2_with fail
  refine (knows6_any _).mono ?_
  rintro e w2 ⟨rfl, hb2⟩
  have hbx2 := hbx1.below hb2 hbx1.lt
  have hw2 : Below w.heap.size w w2 := hw1.trans (hb2.mono hw1.size)
  clear hbx1 x0 x1 x2 x3 x4 hb2
  have x0 := hbx2.cell 0 rfl
  have x1 := hbx2.cell 1 rfl
  have x2 := hbx2.cell 2 rfl
  have x3 := hbx2.cell 3 rfl
  have x4 := hbx2.cell 4 rfl
  go_wp2_with fail
  refine (HC2.out _ hw2).mono ?_
  rintro e w3 ⟨vw, vp, vc, rfl, ow, op, oc, hb3⟩
  obtain ⟨WB, wd, PB, pd, CB, cd, rfl, rfl, rfl, hA⟩ := CfgA.of_post ow op oc
  have hbx3 := hbx2.below hb3 hbx2.lt
  have hw3 : Below w.heap.size w w3 := hw2.trans (hb3.mono hw2.size)
  clear ow op oc hbx2 x0 x1 x2 x3 x4 hb3
  have hchk := fun W (hW : Below w3.heap.size w3 W) => check_any 0 c WB wd PB pd CB cd W (hA.below hW (Nat.le_refl _)) hb (Nat.zero_le _)
  have hcl := fun W (hW : Below w3.heap.size w3 W) => cclone_any 0 c WB wd PB pd CB cd W (hA.below hW (Nat.le_refl _)) hb (Nat.zero_le _)
  obtain ⟨k1, hk1⟩ : ∃ n, c.ws.length = n := ⟨_, rfl⟩
  obtain ⟨k3, hk3⟩ : ∃ n, c.cs.length = n := ⟨_, rfl⟩
  have hff := Hf.out
  have hmm := Hm.out
  have hnn := Hn.out
  rw [hk1, hk3, hnn, hff, hmm] at hchk hcl
  rw [hk1, hk3, hnn, hff, hmm]
  obtain ⟨e1, he1⟩ : ∃ r, c.check.1 = r := ⟨_, rfl⟩
  obtain ⟨e2, he2⟩ : ∃ r, c.check.2 = r := ⟨_, rfl⟩
  rw [he1, he2] at hchk
  have HChk := Lib.hid hchk
  have HCl := Lib.hid hcl
  have He1 := Lib.hid he1
  have HA := Lib.hid hA
  have Hk1 := Lib.hid hk1
  have Hk3 := Lib.hid hk3
  clear hchk hcl he1 he2 hk1 hk3 hff hmm hnn hA
  go_wp2_with fail
  refine (HChk.out _ ?_).mono ?_
  · exact (Below.refl _ _).alloc (Nat.le_refl _) _
  rintro e w4 ⟨rfl, hb4⟩
  have hb34 : Below w3.heap.size w3 w4 := ((Below.refl _ _).alloc (Nat.le_refl _) _).trans (hb4.mono (by simp))
  have hX := (Blk.new w3 71 #[.int .i64 f, .int .i64 m, .slice WB k1 wd, .slice PB n pd, .slice CB k3 cd]).below hb4 (by simp)
  have hbx4 := hbx3.below hb34 hbx3.lt
  have hlw := hbx3.lt
  clear hbx3 hb4
  go_wp2
  go_loopw [6, 7] (fun a j wr => ∃ i : Nat, i ≤ n + 1 ∧ j = .int .i64 i ∧ a = .bool (c.allTo i) ∧ Blk wr w.heap.size 64 #[.int .i64 f, .int .i64 m, v1, .slice PA n pc, v3] ∧ Blk wr w3.heap.size 71 #[.int .i64 f, .int .i64 m, .slice WB k1 wd, .slice PB n pd, .slice CB k3 cd] ∧ Below w3.heap.size w3 wr) (fun _ j _ => n + 1 - (intOf j).toNat)
  case atStart => exact ⟨0, Nat.zero_le _, rfl, rfl, hbx4, hX, hb34⟩
  case round =>
    clear hbx4 hX hb34
    obtain ⟨i, hi, rfl, rfl, hbx, hX, hb⟩ := hrel
    have x3 := hbx.cell 3 rfl
    by_cases hlt : i ≤ n
    · have hlt2 : (i : Int) ≤ (n : Int) := by omega
      have y0 := hX.cell 0 rfl
      have y1 := hX.cell 1 rfl
      have y2 := hX.cell 2 rfl
      have y3 := hX.cell 3 rfl
      have y4 := hX.cell 4 rfl
      obtain ⟨al, hal⟩ : ∃ r, c.allTo i = r := ⟨_, rfl⟩
      have Hal := Lib.hid hal
      rw [hal]
      clear hal
      go_wp2_with fail
      refine (HCl.out _ hb).mono ?_
      rintro e w5 ⟨vw, vp, vc, gs, rfl, ow, og, hgs, hap, oc, hb5⟩
      have op := og.parts
      rw [hgs] at op
      obtain ⟨A1, c1, rfl, _⟩ := ow.slc
      obtain ⟨A3, c3, rfl, _⟩ := oc.slc
      have hne : c.ps ≠ [] := fun e => by have := Hn.out; rw [e] at this; simp at this; omega
      obtain ⟨G, gc, rfl⟩ := op.head hne
      rw [Hk1.out, Hk3.out, Hn.out, Hf.out, Hm.out]
      have hbx5 := hbx.below hb5 hbx.lt
      have hX5 := hX.below hb5 hX.lt
      have hb35 : Below w3.heap.size w3 w5 := hb.trans (hb5.mono hb.size)
      have hsz := hb.size
      have hnY : some w5.heap.size ≠ (Value.slice (some ⟨G, 0, none⟩) c.ps.length gc).ownBlock := fun e => by have := (op.block _ e.symm).2.1; omega
      have op5 : Own tO.rep 52 0 w3.heap.size (w5.alloc (.cells #[.int .i64 f, .int .i64 m, .slice A1 k1 c1, .slice (some ⟨G, 0, none⟩) n gc, .slice A3 k3 c3] 71)) (.slice (some ⟨G, 0, none⟩) n gc) (zeroTo i 0 c.ps) := by rw [zeroTo_zero, ← Hn.out]; exact (op.low hsz).alloc _
      have ow5 : Own repW 154 0 w3.heap.size (w5.alloc (.cells #[.int .i64 f, .int .i64 m, .slice A1 k1 c1, .slice (some ⟨G, 0, none⟩) n gc, .slice A3 k3 c3] 71)) (.slice A1 k1 c1) c.ws := by rw [← Hk1.out]; exact (ow.low hsz).alloc _
      have oc5 : Own repC 157 0 w3.heap.size (w5.alloc (.cells #[.int .i64 f, .int .i64 m, .slice A1 k1 c1, .slice (some ⟨G, 0, none⟩) n gc, .slice A3 k3 c3] 71)) (.slice A3 k3 c3) c.cs := by rw [← Hk3.out]; exact (oc.low hsz).alloc _
      have hb36 : Below w3.heap.size w3 (w5.alloc (.cells #[.int .i64 f, .int .i64 m, .slice A1 k1 c1, .slice (some ⟨G, 0, none⟩) n gc, .slice A3 k3 c3] 71)) := hb35.alloc hb35.size _
      have hYsz : w3.heap.size ≤ w5.heap.size := hb35.size
      have hYlt : w3.heap.size < w5.heap.size := hX5.lt
      clear hbx hX x3 y0 y1 y2 y3 y4 og hgs hap hne hb op ow oc
      go_wp2
      go_loopw [9] (fun j wr => ∃ k : Nat, k ≤ n ∧ j = .int .i64 k ∧ Own tO.rep 52 0 w3.heap.size wr (.slice (some ⟨G, 0, none⟩) n gc) (zeroTo i k c.ps) ∧ Own repW 154 0 w3.heap.size wr (.slice A1 k1 c1) c.ws ∧ Own repC 157 0 w3.heap.size wr (.slice A3 k3 c3) c.cs ∧
        Blk wr w5.heap.size 71 #[.int .i64 f, .int .i64 m, .slice A1 k1 c1, .slice (some ⟨G, 0, none⟩) n gc, .slice A3 k3 c3] ∧ Blk wr w.heap.size 64 #[.int .i64 f, .int .i64 m, v1, .slice PA n pc, v3] ∧ Blk wr w3.heap.size 71 #[.int .i64 f, .int .i64 m, .slice WB k1 wd, .slice PB n pd, .slice CB k3 cd] ∧ Below w3.heap.size w3 wr) (fun j _ => n - (intOf j).toNat)
      case atStart => exact ⟨0, Nat.zero_le _, rfl, op5, ow5, oc5, Blk.new _ _ _, hbx5.alloc _, hX5.alloc _, hb36⟩
      case round =>
        clear op5 ow5 oc5 hb36 hbx5 hX5
        rename_i wr2 _
        obtain ⟨k, hk, rfl, op, ow, oc, hY, hbx, hX, hb⟩ := hrel
        have y3 := hY.cell 3 rfl
        by_cases hlk : k < n
        · have hlk2 : (k : Int) < (n : Int) := by omega
          have hkl : k < c.ps.length := by rw [Hn.out]; exact hlk
          by_cases hki : k = i
          · have hki' : ((k : Int) != (i : Int)) = false := by subst hki; simp
            have op2 : Own tO.rep 52 0 w3.heap.size wr (.slice (some ⟨G, 0, none⟩) n gc) (zeroTo i (k + 1) c.ps) := by subst hki; rw [zeroTo_same]; exact op
            clear op hki
            go_wp2
            go_roundw
            case rel => exact ⟨k + 1, by omega, by go_num, op2, ow, oc, hY, hbx, hX, hb⟩
            case measure => simp [intOf] <;> omega
          · have hki' : ((k : Int) != (i : Int)) = true := by simp; omega
            have hzl : k < (zeroTo i k c.ps).length := by rw [zeroTo_len]; exact hkl
            obtain ⟨cs, ⟨TA, tc, SA, sc, DA, dc, rfl, _⟩, hcs⟩ := op.cellAt (List.getElem?_eq_getElem hzl)
            have g0 : wr.cell? ⟨G, k * 6, none⟩ = _ := hcs 0 _ rfl
            have g1 : wr.cell? ⟨G, k * 6 + 1, none⟩ = _ := hcs 1 _ rfl
            have g2 : wr.cell? ⟨G, k * 6 + 2, none⟩ = _ := hcs 2 _ rfl
            have g3 : wr.cell? ⟨G, k * 6 + 3, none⟩ = _ := hcs 3 _ rfl
            have g4 : wr.cell? ⟨G, k * 6 + 4, none⟩ = _ := hcs 4 _ rfl
            have g5 : wr.cell? ⟨G, k * 6 + 5, none⟩ = _ := hcs 5 _ rfl
            have f0 := op.free (k * 6)
            have f1 := op.free (k * 6 + 1)
            have f2 := op.free (k * 6 + 2)
            have f3 := op.free (k * 6 + 3)
            have f4 := op.free (k * 6 + 4)
            have f5 := op.free (k * 6 + 5)
            have hov := op.over k hzl PartD.zero zcells (zero_R wr 0) (by decide)
            rw [← zeroTo_set i k c.ps hki hkl] at hov
            obtain ⟨hGB, _, cells, hh⟩ := op.block G rfl
            have hkp : ∀ q : Nat, (∀ cells : Array Value, wr.heap[q]? ≠ some (Obj.cells cells 52 (0, 0))) → (World.over wr G (k * tO.rep.sz) zcells).heap[q]? = wr.heap[q]? := fun q hq => over_other G _ _ _ q (fun e => hq cells (e ▸ hh))
            have nB : ∀ {g : Nat} {t : TypeId} {cs : Array Value}, Blk wr g t cs → 52 ≠ t → g ≠ G := fun hb ht e => op.ne_blk hb ht (by rw [e]; rfl)
            have hall : Own tO.rep 52 0 w3.heap.size (World.over wr G (k * tO.rep.sz) zcells) (.slice (some ⟨G, 0, none⟩) n gc) (zeroTo i (k + 1) c.ps) ∧ Own repW 154 0 w3.heap.size (World.over wr G (k * tO.rep.sz) zcells) (.slice A1 k1 c1) c.ws ∧ Own repC 157 0 w3.heap.size (World.over wr G (k * tO.rep.sz) zcells) (.slice A3 k3 c3) c.cs ∧
                Blk (World.over wr G (k * tO.rep.sz) zcells) w5.heap.size 71 #[.int .i64 f, .int .i64 m, .slice A1 k1 c1, .slice (some ⟨G, 0, none⟩) n gc, .slice A3 k3 c3] ∧ Blk (World.over wr G (k * tO.rep.sz) zcells) w.heap.size 64 #[.int .i64 f, .int .i64 m, v1, .slice PA n pc, v3] ∧ Blk (World.over wr G (k * tO.rep.sz) zcells) w3.heap.size 71 #[.int .i64 f, .int .i64 m, .slice WB k1 wd, .slice PB n pd, .slice CB k3 cd] ∧ Below w3.heap.size w3 (World.over wr G (k * tO.rep.sz) zcells) :=
              ⟨hov, ow.others hkp (by decide) (by decide), oc.others hkp (by decide) (by decide), hY.keep (over_other G _ _ _ _ (nB hY (by decide))), hbx.keep (over_other G _ _ _ _ (nB hbx (by decide))), hX.keep (over_other G _ _ _ _ (nB hX (by decide))), over_below G hGB _ _ _ _ hb⟩
            have Hall := Lib.hid hall
            clear hcs hov hki hkp nB hall hh
            go_wp2
            exact ⟨⟨k + 1, by omega, by go_num, Hall.out⟩, by simp [intOf]; omega⟩
        · have hlk2 : ¬ (k : Int) < (n : Int) := by omega
          obtain rfl : k = n := by omega
          have x3 := hbx.cell 3 rfl
          by_cases hin : i < k
          · have hin2 : (i : Int) < (k : Int) := by omega
            have y2 := hY.cell 2 rfl
            have y4 := hY.cell 4 rfl
            have z2 := hY.free 2
            have z4 := hY.free 4
            have hY2 := (hY.set 2 (.slice none 0 0)).set 4 (.slice none 0 0)
            have u0 := hY2.cell 0 rfl
            have u1 := hY2.cell 1 rfl
            have u2 := hY2.cell 2 rfl
            have u3 := hY2.cell 3 rfl
            have u4 := hY2.cell 4 rfl
            have hk := only_any1 c i k gc G w3.heap.size f m Hn.out Hf.out Hm.out hin Hb.out _ ((op.setO hY (by decide) (by decide) 2 (.slice none 0 0)).setO (hY.set 2 _) (by decide) (by decide) 4 (.slice none 0 0))
            obtain ⟨x1, hx1⟩ : ∃ r, (c.only i).check.1 = r := ⟨_, rfl⟩
            obtain ⟨x2, hx2⟩ : ∃ r, (c.only i).check.2 = r := ⟨_, rfl⟩
            rw [hx1, hx2] at hk
            have hnext : c.allTo (i + 1) = (al && decide (x1 = 0)) := by rw [← hx1, ← Hal.out]; rfl
            have HK := Lib.hid hk
            have Hnext := Lib.hid hnext
            clear hk hx1 hx2 hnext
            have hbx2 := (hbx.far (p := ⟨w5.heap.size, 2, none⟩) (by show w.heap.size ≠ w5.heap.size; omega) (.slice none 0 0)).far (p := ⟨w5.heap.size, 4, none⟩) (by show w.heap.size ≠ w5.heap.size; omega) (.slice none 0 0)
            have hX2 := (hX.far (p := ⟨w5.heap.size, 2, none⟩) (by show w3.heap.size ≠ w5.heap.size; omega) (.slice none 0 0)).far (p := ⟨w5.heap.size, 4, none⟩) (by show w3.heap.size ≠ w5.heap.size; omega) (.slice none 0 0)
            have hb2 := (hb.setCell (p := ⟨w5.heap.size, 2, none⟩) hYsz (.slice none 0 0)).setCell (p := ⟨w5.heap.size, 4, none⟩) hYsz (.slice none 0 0)
            have HBX2 := Lib.hid hbx2
            have HX2 := Lib.hid hX2
            have HB2 := Lib.hid hb2
            clear op ow oc hbx hX hb hbx2 hX2 hb2
            go_wp2_with fail
            refine HK.out.mono ?_
            rintro e w6 ⟨rfl, hb6⟩
            have hbx6 := HBX2.out.below hb6 HBX2.out.lt
            have hX6 := HX2.out.below hb6 HX2.out.lt
            have hb36 := HB2.out.trans (hb6.mono HB2.out.size)
            clear x3 y3 y2 y4 z2 z4 u0 u1 u2 u3 u4 hY hY2
            cases al with
            | false =>
              go_wp2
              go_roundw
              case rel => exact ⟨i + 1, by omega, by go_num, by rw [Hnext.out]; simp, hbx6, hX6, hb36⟩
              case measure => simp [intOf] <;> omega
            | true =>
              by_cases hx : x1 = 0
              · subst hx
                go_wp2_with fail
                refine (num6_any _ _).mono ?_
                rintro e w7 ⟨rfl, rfl⟩
                go_wp2
                go_roundw
                case rel => exact ⟨i + 1, by omega, by go_num, by rw [Hnext.out]; simp, hbx6, hX6, hb36⟩
                case measure => simp [intOf] <;> omega
              · have hx' : (x1 == 0) = false := by simpa using hx
                have Hx := Lib.hid hx
                clear hx
                go_wp2_with fail
                refine (num6_any _ _).mono ?_
                rintro e w7 ⟨rfl, rfl⟩
                go_wp2
                go_roundw
                case rel => exact ⟨i + 1, by omega, by go_num, by rw [Hnext.out, decide_eq_false Hx.out]; simp, hbx6, hX6, hb36⟩
                case measure => simp [intOf] <;> omega
          · have hin2 : ¬ (i : Int) < (k : Int) := by omega
            obtain rfl : i = k := by omega
            have u0 := hY.cell 0 rfl
            have u1 := hY.cell 1 rfl
            have u2 := hY.cell 2 rfl
            have u4 := hY.cell 4 rfl
            have hk := only_any2 c i gc G w3.heap.size k1 c1 k3 c3 A1 A3 f m Hn.out Hf.out Hm.out Hk1.out Hk3.out Hb.out _ op ow oc
            obtain ⟨x1, hx1⟩ : ∃ r, (c.only i).check.1 = r := ⟨_, rfl⟩
            obtain ⟨x2, hx2⟩ : ∃ r, (c.only i).check.2 = r := ⟨_, rfl⟩
            rw [hx1, hx2] at hk
            have hnext : c.allTo (i + 1) = (al && decide (x1 = 0)) := by rw [← hx1, ← Hal.out]; rfl
            have HK := Lib.hid hk
            have Hnext := Lib.hid hnext
            clear hk hx1 hx2 hnext
            have hbx2 := hbx
            have hX2 := hX
            have hb2 := hb
            have HBX2 := Lib.hid hbx2
            have HX2 := Lib.hid hX2
            have HB2 := Lib.hid hb2
            clear op ow oc hbx hX hb hbx2 hX2 hb2
            go_wp2_with fail
            refine HK.out.mono ?_
            rintro e w6 ⟨rfl, hb6⟩
            have hbx6 := HBX2.out.below hb6 HBX2.out.lt
            have hX6 := HX2.out.below hb6 HX2.out.lt
            have hb36 := HB2.out.trans (hb6.mono HB2.out.size)
            clear x3 y3 u0 u1 u2 u4 hY
            cases al with
            | false =>
              go_wp2
              go_roundw
              case rel => exact ⟨i + 1, by omega, by go_num, by rw [Hnext.out]; simp, hbx6, hX6, hb36⟩
              case measure => simp [intOf] <;> omega
            | true =>
              by_cases hx : x1 = 0
              · subst hx
                go_wp2_with fail
                refine (num6_any _ _).mono ?_
                rintro e w7 ⟨rfl, rfl⟩
                go_wp2
                go_roundw
                case rel => exact ⟨i + 1, by omega, by go_num, by rw [Hnext.out]; simp, hbx6, hX6, hb36⟩
                case measure => simp [intOf] <;> omega
              · have hx' : (x1 == 0) = false := by simpa using hx
                have Hx := Lib.hid hx
                clear hx
                go_wp2_with fail
                refine (num6_any _ _).mono ?_
                rintro e w7 ⟨rfl, rfl⟩
                go_wp2
                go_roundw
                case rel => exact ⟨i + 1, by omega, by go_num, by rw [Hnext.out, decide_eq_false Hx.out]; simp, hbx6, hX6, hb36⟩
                case measure => simp [intOf] <;> omega
    · have hlt2 : ¬ (i : Int) ≤ (n : Int) := by omega
      obtain rfl : i = n + 1 := by omega
      have hlaw : decide (e1 = 0) = c.allTo (n + 1) := by have := parts_law c; rwa [He1.out, Hn.out] at this
      have hw : Below w.heap.size w wr := hw3.trans (hb.mono hw3.size)
      rw [← hlaw]
      clear hlaw
      by_cases hx : e1 = 0
      · subst hx
        go_wp2_with fail
        refine (num6_any _ _).mono ?_
        rintro e w7 ⟨rfl, rfl⟩
        go_wp2
        go_ret
        exact ⟨ret_b (by simp), hw⟩
      · have hx' : (e1 == 0) = false := by simpa using hx
        have hx2 : decide (e1 = 0) = false := by simpa using hx
        rw [hx2]
        clear hx hx2
        go_wp2_with fail
        refine (num6_any _ _).mono ?_
        rintro e w7 ⟨rfl, rfl⟩
        go_wp2
        go_ret
        exact ⟨ret_b (by simp), hw⟩
end Go.Proofs.Ytgljmflcbdhigaa
