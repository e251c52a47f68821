/- The law on who gets any tick, walked. -/
import Derived.Test.YtgljmflcbdhigaaRefH
import Derived.Test.YtgljmflcbdhigaaGschE
import Derived.Test.YtgljmflcbdhigaaValL
set_option linter.unusedVariables false
set_option linter.unusedSimpArgs false
namespace Go.Proofs.Ytgljmflcbdhigaa
open Go.RowKit

theorem choice_eq (r1 r2 r3 : Int) (W : World) : (binOp .eql 115 (.agg #[.int .i64 r1, .int .i64 r2, .int .i64 r3]) (.agg #[.int .i64 r1, .int .i64 r2, .int .i64 r3])).run Try.prog W = .ok (.bool true) W := by
  simp [go_sem]

theorem SchR.up {B B' : Nat} {w : World} {S : Nat} {c : CfgD} {T : Nat} {DA : Option Addr} {dc : Nat} (h : SchR B w S c T DA dc) (hB : B ≤ B') : SchR B' w S c T DA dc := by
  obtain ⟨h1, ⟨cs, WA, wc, h2, h3⟩, h4⟩ := h
  exact ⟨h1, ⟨cs, WA, wc, h2, h3.up hB⟩, h4.up hB⟩
theorem donI_at {c : CfgD} {i : Nat} {pt : PartD} (h : c.ps[i]? = some pt) : donI c i = pt.ds := by
  unfold donI
  rw [if_pos (by omega)]
  simp [donD, h]
theorem donI_out {c : CfgD} {p : Int} (h : ¬ (0 ≤ p ∧ p < c.ps.length)) : donI c p = [] := by
  unfold donI
  split
  · have : c.ps[p.toNat]? = none := List.getElem?_eq_none (by omega)
    simp [donD, this]
  · rfl

set_option maxRecDepth 100000 in
set_option maxHeartbeats 4000000 in
theorem gschedTells_any (B : Nat) (c : CfgD) (WA : Option Addr) (wk : Nat) (PA : Option Addr) (pc : Nat) (CA : Option Addr) (cc : Nat) (tick p : Int) (RA : Option Addr) (rc : Nat) (rs : List Bool) (w : World) (h : CfgA tR B w c WA wk PA pc CA cc) (hr : Row repB 4 B w RA rs) (hB : B ≤ w.heap.size) (ht : -9223372036854775808 ≤ tick) :
    Calls Try.prog 8 #[.agg #[.int .i64 c.frame, .int .i64 c.margin, .slice WA c.ws.length wk, .slice PA c.ps.length pc, .slice CA c.cs.length cc], .int .i64 tick, .slice RA rs.length rc, .int .i64 p] w fun e w' => e = .returned (.bool true) ∧ Below w.heap.size w w' := by
  have hA : ∀ o, Below w.heap.size w (w.alloc o) := fun o => (Below.refl _ _).alloc (Nat.le_refl _) o
  have hlt := fun o => light_any B c WA wk PA pc CA cc (w.alloc o) (h.below (hA o) (Nat.le_refl _))
  have hcf := fun W (hW : Below w.heap.size w W) (hl : c.light = true) => config_any B c WA wk PA pc CA cc W (h.below hW (Nat.le_refl _)) hl (Nat.le_trans hB hW.size)
  have hrn := fun W (hW : Below w.heap.size w W) (hl : c.light = true) (hk : c.check.1 ≠ 0) => rnew_no (h.below hW (Nat.le_refl _)) hl (Nat.le_trans hB hW.size) hk
  have hry := fun W (hW : Below w.heap.size w W) (hl : c.light = true) (hk : c.check.1 = 0) => rnew_yes (h.below hW (Nat.le_refl _)) hl (Nat.le_trans hB hW.size) hk
  have hps := h.ps
  obtain ⟨f, hf⟩ : ∃ f, c.frame = f := ⟨_, rfl⟩
  obtain ⟨m, hm⟩ : ∃ f, c.margin = f := ⟨_, rfl⟩
  obtain ⟨n, hn⟩ : ∃ f, c.ps.length = f := ⟨_, rfl⟩
  obtain ⟨nw, hnw⟩ : ∃ f, c.ws.length = f := ⟨_, rfl⟩
  obtain ⟨nc, hnc⟩ : ∃ f, c.cs.length = f := ⟨_, rfl⟩
  obtain ⟨nr, hnr⟩ : ∃ f, rs.length = f := ⟨_, rfl⟩
  rw [hf, hm, hn, hnw, hnc] at hlt hcf hrn hry
  rw [hf, hm, hn, hnw, hnc, hnr]
  have Heq := Lib.hid (And.intro hf (And.intro hm (And.intro hn (And.intro hnw hnc))))
  have Hnr := Lib.hid hnr
  have HL := Lib.hid hlt
  have HC := Lib.hid hcf
  have HRN := Lib.hid hrn
  have HRY := Lib.hid hry
  have HP := Lib.hid hps
  clear hlt hcf hrn hry hf hm hn hnw hnc hnr hps h
  go_enter Try.func8, Try.ntmps8
  go_wp2_with fail
  refine (HL.out _).mono ?_
  rintro e w1 ⟨rfl, hb⟩
  have hb1 := (hA (.cells #[.int .i64 f, .int .i64 m, .slice WA nw wk, .slice PA n pc, .slice CA nc cc] 64)).trans (hb.mono (hA _).size)
  have hbx := (Blk.new w 64 #[.int .i64 f, .int .i64 m, .slice WA nw wk, .slice PA n pc, .slice CA nc cc]).below hb (by simp)
  clear hb
  obtain ⟨li, hli⟩ : ∃ l, c.light = l := ⟨_, rfl⟩
  rw [hli]
  cases li with
  | false =>
    clear hli HC HRN HRY HP
    go_wp2_with fail
    refine (knows24_any _).mono ?_
    rintro e w2 ⟨rfl, hb2⟩
    have hb3 := hb1.trans (hb2.mono hb1.size)
    go_wp2
    go_ret
    exact ⟨rfl, hb3⟩
  | true =>
  by_cases hq : 20 < nr
  · have hq2 : (20 : Int) < (nr : Int) := by omega
    clear hli HC HRN HRY HP
    go_wp2_with fail
    refine (knows24_any _).mono ?_
    rintro e w2 ⟨rfl, hb2⟩
    have hb3 := hb1.trans (hb2.mono hb1.size)
    go_wp2
    go_ret
    exact ⟨rfl, hb3⟩
  have hq2 : ¬ (20 : Int) < (nr : Int) := by omega
  have Hli := Lib.hid hli
  clear hli
  go_wp2_with fail
  refine (knows24_any _).mono ?_
  rintro e w2 ⟨rfl, hb2⟩
  have hb3 := hb1.trans (hb2.mono hb1.size)
  have hbx2 := hbx.below hb2 hbx.lt
  clear hb1 hb2 hbx HL
  have x0 := hbx2.cell 0 rfl
  have x1 := hbx2.cell 1 rfl
  have x2 := hbx2.cell 2 rfl
  have x3 := hbx2.cell 3 rfl
  have x4 := hbx2.cell 4 rfl
  go_wp2_with fail
  refine (HC.out _ hb3 Hli.out).mono ?_
  rintro e w3 ⟨vw, vp, vc, rfl, ow, op, oc, hb4⟩
  obtain ⟨WA2, wk2, PA2, pc2, CA2, cc2, rfl, rfl, rfl, hcA⟩ := CfgA.of_post ow op oc
  clear ow op oc
  have hb5 := hb3.trans (hb4.mono hb3.size)
  have hbx3 := hbx2.below hb4 hbx2.lt
  clear hb3 hb4 hbx2 x0 x1 x2 x3 x4
  have x0 := hbx3.cell 0 rfl
  have x1 := hbx3.cell 1 rfl
  have x2 := hbx3.cell 2 rfl
  have x3 := hbx3.cell 3 rfl
  have x4 := hbx3.cell 4 rfl
  by_cases hk : c.check.1 = 0
  case neg =>
    have hno := gnew_no _ _ _ _ _ _ _ _ _ hcA Hli.out (Nat.zero_le _) hk
    have HNO := Lib.hid hno
    have Hk := Lib.hid hk
    clear hno hk hcA
    go_wp2_with fail
    refine HNO.out.mono ?_
    rintro e w4 ⟨rfl, hb6⟩
    have hb7 := hb5.trans (hb6.mono hb5.size)
    have hbx4 := hbx3.below hb6 hbx3.lt
    clear hb5 hb6 hbx3 x0 x1 x2 x3 x4
    have x0 := hbx4.cell 0 rfl
    have x1 := hbx4.cell 1 rfl
    have x2 := hbx4.cell 2 rfl
    have x3 := hbx4.cell 3 rfl
    have x4 := hbx4.cell 4 rfl
    go_wp2_with fail
    refine (HRN.out _ hb7 Hli.out Hk.out).mono ?_
    rintro e w5 ⟨rfl, hb8⟩
    have hb9 := hb7.trans (hb8.mono hb7.size)
    clear hb7 hb8 x0 x1 x2 x3 x4 hbx4
    go_wp2
    go_ret
    exact ⟨rfl, hb9⟩
  case pos =>
  have hyes := gnew_yes _ _ _ _ _ _ _ _ _ hcA Hli.out (Nat.zero_le _) hk
  have HYES := Lib.hid hyes
  have Hk := Lib.hid hk
  clear hyes hk hcA
  go_wp2_with fail
  refine HYES.out.mono ?_
  rintro e w4 ⟨S, T, DA, dc, rfl, hS, hb6⟩
  have hb7 := hb5.trans (hb6.mono hb5.size)
  have hbx4 := hbx3.below hb6 hbx3.lt
  clear hb5 hb6 hbx3 x0 x1 x2 x3 x4
  have x0 := hbx4.cell 0 rfl
  have x1 := hbx4.cell 1 rfl
  have x2 := hbx4.cell 2 rfl
  have x3 := hbx4.cell 3 rfl
  have x4 := hbx4.cell 4 rfl
  go_wp2_with fail
  refine (HRY.out _ hb7 Hli.out Hk.out).mono ?_
  rintro e w5 ⟨S', T', rfl, hR, hb8⟩
  have hb9 := hb7.trans (hb8.mono hb7.size)
  have hbx5 := hbx4.below hb8 hbx4.lt
  have hS5 := hS.below hb8 (Nat.le_refl _)
  have hdon := sdon_any 0 S c T DA dc p w5 hS5 Hli.out (Nat.zero_le _)
  have HD := Lib.hid hdon
  have HS := Lib.hid hS5
  have HR := Lib.hid hR
  have lS := hS5.blk.lt
  have lR := hR.blk.lt
  clear hb7 hb8 hbx4 x0 x1 x2 x3 x4 hS hS5 hR HYES HRY HRN HC hdon
  go_wp2_with fail
  refine HD.out.mono ?_
  rintro e w6 ⟨v, rfl, hv, hb10⟩
  have hb11 := hb9.trans (hb10.mono hb9.size)
  have hbx6 := hbx5.below hb10 hbx5.lt
  have hS6 := HS.out.below hb10 (Nat.le_refl _)
  have hR6 := HR.out.below hb10 (Nat.le_refl _)
  obtain ⟨hok, _⟩ := check_tab Hk.out
  have Hok := Lib.hid hok
  have HS6 := Lib.hid hS6
  have HR6 := Lib.hid hR6
  have lS6 := hS6.blk.lt
  have lR6 := hR6.blk.lt
  clear hb9 hb10 hbx5 HS HR HD lS lR hok hS6 hR6
  have x3 := hbx6.cell 3 rfl
  obtain ⟨DV, dv, hv2, hvs⟩ := hv.slc
  subst hv2
  by_cases hp : 0 ≤ p ∧ p < n
  · obtain ⟨i, rfl⟩ : ∃ i : Nat, p = i := ⟨p.toNat, by omega⟩
    have hin : i < n := by omega
    have i0 : (0 : Int) ≤ (i : Int) := by omega
    have i1 : (i : Int) < (n : Int) := hp.2
    obtain ⟨ad, pt, TA, tc, SA, sc, DA2, dc2, rfl, hbk, hx, c0, c1, c2, c3, c4, c5, t1, t2, t3⟩ := at_P ((HP.out.row).keep fun j hj _ => hb11.block j hj) (k := i) (by rw [Heq.out.2.2.1]; exact hin)
    have hdi := donI_at hx
    rw [hdi] at hvs
    rw [hdi]
    have hpf := (by have := Hli.out; simp only [CfgD.light, Bool.and_eq_true, decide_eq_true_eq, List.all_eq_true] at this; exact this.2 pt (List.mem_of_getElem? hx) : pt.few = true)
    simp only [PartD.few, Bool.and_eq_true, decide_eq_true_eq] at hpf
    obtain ⟨nd, hnd⟩ : ∃ x, pt.ds.length = x := ⟨_, rfl⟩
    rw [hnd] at c2 hpf
    rw [hnd]
    have Hnd := Lib.hid hnd
    have i3 : ∀ W, Drawn w6 W → ∀ k, k < nd → ∃ ad1 ad2 x, DV = some ad1 ∧ DA2 = some ad2 ∧ W.cell? (ad1.add k) = some (.int .i64 x) ∧ W.cell? (ad2.add k) = some (.int .i64 x) := fun W hW k hk => by
      obtain ⟨ad1, x, e1, hx1, hc1⟩ := at_I (hvs.row.keep fun j hj _ => by rw [hW.heap]) (k := k) (by rw [hnd]; exact hk)
      obtain ⟨ad2, y, e2, hx2, hc2⟩ := at_I (t3.row.keep fun j hj _ => by rw [hW.heap]) (k := k) (by rw [hnd]; exact hk)
      rw [hx1] at hx2
      cases hx2
      exact ⟨ad1, ad2, x, e1, e2, hc1, hc2⟩
    have HI := Lib.hid i3
    clear hx c0 c1 c3 c4 c5 t1 t2 t3 hdi hnd hv hvs i3
    have hbx6' := hbx6
    go_wp2
    go_loopw [13] (fun j wr => ∃ k : Nat, k ≤ nd ∧ j = .int .i64 k ∧ Drawn w6 wr) (fun j _ => nd - (intOf j).toNat)
    case atStart => exact ⟨0, Nat.zero_le _, rfl, Drawn.refl _⟩
    case round =>
      obtain ⟨k, hk, rfl, hd⟩ := hrel
      by_cases hlt : k < nd
      · have hk2 : (k : Int) < (nd : Int) := by omega
        obtain ⟨ad1, ad2, x, rfl, rfl, y1, y2⟩ := HI.out wr hd k hlt
        have y3 := (hbx6.drawn hd).cell 3 rfl
        have y4 : wr.cell? ⟨(ad.add (i * 6)).block, (ad.add (i * 6)).off + 2, none⟩ = some (.slice (some ad2) nd dc2) := (World.cell?_of_block (w := w6) (by rw [hd.heap])).trans c2
        have k0 : (0 : Int) ≤ (k : Int) := by omega
        have hbk2 : (ad.add (i * 6)).block < wr.heap.size := by rw [hd.heap]; exact hbk
        have lbx := (hbx6.drawn hd).lt
        go_wp2
        go_quiet (fail)
        go_wp2
        go_roundw
        case rel => exact ⟨k + 1, by omega, by go_num, hd.drewN _⟩
        case measure => simp [intOf] <;> omega
      have hk2 : ¬ (k : Int) < (nd : Int) := by omega
      have hb20 : Below w.heap.size w wr := hb11.trans ((hd.below w6.heap.size).mono hb11.size)
      have hS7 := (HS6.out).below (hd.below w6.heap.size) (Nat.le_refl _)
      have hR7 := (HR6.out).below (hd.below w6.heap.size) (Nat.le_refl _)
      have hnx := snext_any 0 S c T DA dc i tick wr hS7 Hok.out ht
      have HNX := Lib.hid hnx
      have HS7 := Lib.hid hS7
      have HR7 := Lib.hid hR7
      have lS7 := hS7.blk.lt
      have lR7 := hR7.blk.lt
      clear hnx hS7 hR7 HS6 HR6
      go_wp2_with fail
      refine HNX.out.mono ?_
      rintro e w8 hpost
      have hb12 : Below wr.heap.size wr w8 := hpost.2
      obtain ⟨nx, bx, he⟩ : ∃ n b, e = .returned (.tuple #[.int .i64 n, .bool b]) := by
        rcases hpost with ⟨⟨_, rfl⟩ | ⟨_, n, a, _, _, rfl⟩, _⟩
        · exact ⟨_, _, rfl⟩
        · exact ⟨_, _, rfl⟩
      subst he
      have hb21 := hb20.trans (hb12.mono hb20.size)
      have hS8 := HS7.out.below hb12 (Nat.le_refl _)
      have hR8 := HR7.out.below hb12 (Nat.le_refl _)
      have hrn := refTNext_any B T' c.tab i tick w8 hR8.tab Hok.out (Nat.le_trans hB hb21.size) ht
      have s5 := hR8.blk.cell 5 rfl
      have lS8 := hS8.blk.lt
      have lR8 := hR8.blk.lt
      have HRN := Lib.hid hrn
      have HPO := Lib.hid hpost
      have HS8 := Lib.hid hS8
      have HR8 := Lib.hid hR8
      clear hrn hpost hS8 hR8 HS7 HR7 HNX
      go_wp2_with fail
      refine HRN.out.mono ?_
      rintro e w9 hpost2
      have hb13 : Below w8.heap.size w8 w9 := hpost2.2
      obtain ⟨nx2, bx2, he1, he2⟩ := next_same c.tab Hok.out i tick _ _ _ _ _ _ HPO.out hpost2
      have he3 : nx = nx2 ∧ bx = bx2 := by injection he1 with h; injection h with h; simpa using h
      obtain ⟨rfl, rfl⟩ := he3
      subst he2
      have hb22 := hb21.trans (hb13.mono hb21.size)
      have hS9 := HS8.out.below hb13 (Nat.le_refl _)
      have hR9 := HR8.out.below hb13 (Nat.le_refl _)
      have hr9 := fun W (hW : Below w.heap.size w W) => hr.keep (w' := W) fun j hj _ => hW.block j hj
      have hat := sat_any B S c T DA dc tick RA rc rs w9 (hS9.up (Nat.zero_le _)) Hk.out Hli.out (hr9 w9 hb22) (by rw [Hnr.out]; omega) (Nat.le_trans hB hb22.size)
      have hat2 := fun W (hW : Below w9.heap.size w9 W) => rat_any B S' c T' WA wk _ pc CA cc tick RA rc rs W (hR9.below hW (Nat.le_refl _)) Hk.out Hli.out (hr9 W (hb22.trans (hW.mono hb22.size))) (by rw [Hnr.out]; omega) (Nat.le_trans hB (Nat.le_trans hb22.size hW.size))
      rw [Hnr.out] at hat hat2
      obtain ⟨r1, r2, r3, hres⟩ : ∃ r1 r2 r3, atD c tick rs = (r1, r2, r3) := ⟨_, _, _, rfl⟩
      rw [hres] at hat hat2
      have HAT := Lib.hid hat
      have HAT2 := Lib.hid hat2
      have hq9 := choice_eq r1 r2 r3
      clear hat hat2 hres HPO hpost2 he1 HS8 HR8 HRN s5 hS9 hR9 hr9
      go_wp2_with fail
      refine HAT.out.mono ?_
      rintro e w10 ⟨rfl, hb14⟩
      have hb23 := hb22.trans (hb14.mono hb22.size)
      go_wp2_with fail
      refine (HAT2.out w10 hb14).mono ?_
      rintro e w11 ⟨rfl, hb15⟩
      have hb24 := hb23.trans (hb15.mono hb23.size)
      go_wp2
      go_ret
      exact ⟨rfl, hb24⟩
  · have hdi := donI_out (c := c) (p := p) (by rw [Heq.out.2.2.1]; exact hp)
    rw [hdi]
    have hnd : ([] : List Int).length = 0 := rfl
    rw [hnd]
    have hb20 := hb11
    by_cases hp0 : p < 0
    · go_wp2
      go_loopw [13] (fun j wr => j = .int .i64 0 ∧ w6 = wr) (fun j _ => 0)
      case atStart => exact ⟨rfl, rfl⟩
      case round =>
        obtain ⟨rfl, rfl⟩ := hrel
        have hS7 := HS6.out
        have hR7 := HR6.out
        have hnx := snext_any 0 S c T DA dc p tick w6 hS7 Hok.out ht
        have HNX := Lib.hid hnx
        have HS7 := Lib.hid hS7
        have HR7 := Lib.hid hR7
        have lS7 := hS7.blk.lt
        have lR7 := hR7.blk.lt
        clear hnx hS7 hR7 HS6 HR6
        go_wp2_with fail
        refine HNX.out.mono ?_
        rintro e w8 hpost
        have hb12 : Below w6.heap.size w6 w8 := hpost.2
        obtain ⟨nx, bx, he⟩ : ∃ n b, e = .returned (.tuple #[.int .i64 n, .bool b]) := by
          rcases hpost with ⟨⟨_, rfl⟩ | ⟨_, n, a, _, _, rfl⟩, _⟩
          · exact ⟨_, _, rfl⟩
          · exact ⟨_, _, rfl⟩
        subst he
        have hb21 := hb20.trans (hb12.mono hb20.size)
        have hS8 := HS7.out.below hb12 (Nat.le_refl _)
        have hR8 := HR7.out.below hb12 (Nat.le_refl _)
        have hrn := refTNext_any B T' c.tab p tick w8 hR8.tab Hok.out (Nat.le_trans hB hb21.size) ht
        have s5 := hR8.blk.cell 5 rfl
        have lS8 := hS8.blk.lt
        have lR8 := hR8.blk.lt
        have HRN := Lib.hid hrn
        have HPO := Lib.hid hpost
        have HS8 := Lib.hid hS8
        have HR8 := Lib.hid hR8
        clear hrn hpost hS8 hR8 HS7 HR7 HNX
        go_wp2_with fail
        refine HRN.out.mono ?_
        rintro e w9 hpost2
        have hb13 : Below w8.heap.size w8 w9 := hpost2.2
        obtain ⟨nx2, bx2, he1, he2⟩ := next_same c.tab Hok.out p tick _ _ _ _ _ _ HPO.out hpost2
        have he3 : nx = nx2 ∧ bx = bx2 := by injection he1 with h; injection h with h; simpa using h
        obtain ⟨rfl, rfl⟩ := he3
        subst he2
        have hb22 := hb21.trans (hb13.mono hb21.size)
        have hS9 := HS8.out.below hb13 (Nat.le_refl _)
        have hR9 := HR8.out.below hb13 (Nat.le_refl _)
        have hr9 := fun W (hW : Below w.heap.size w W) => hr.keep (w' := W) fun j hj _ => hW.block j hj
        have hat := sat_any B S c T DA dc tick RA rc rs w9 (hS9.up (Nat.zero_le _)) Hk.out Hli.out (hr9 w9 hb22) (by rw [Hnr.out]; omega) (Nat.le_trans hB hb22.size)
        have hat2 := fun W (hW : Below w9.heap.size w9 W) => rat_any B S' c T' WA wk _ pc CA cc tick RA rc rs W (hR9.below hW (Nat.le_refl _)) Hk.out Hli.out (hr9 W (hb22.trans (hW.mono hb22.size))) (by rw [Hnr.out]; omega) (Nat.le_trans hB (Nat.le_trans hb22.size hW.size))
        rw [Hnr.out] at hat hat2
        obtain ⟨r1, r2, r3, hres⟩ : ∃ r1 r2 r3, atD c tick rs = (r1, r2, r3) := ⟨_, _, _, rfl⟩
        rw [hres] at hat hat2
        have HAT := Lib.hid hat
        have HAT2 := Lib.hid hat2
        have hq9 := choice_eq r1 r2 r3
        clear hat hat2 hres HPO hpost2 he1 HS8 HR8 HRN s5 hS9 hR9 hr9
        go_wp2_with fail
        refine HAT.out.mono ?_
        rintro e w10 ⟨rfl, hb14⟩
        have hb23 := hb22.trans (hb14.mono hb22.size)
        go_wp2_with fail
        refine (HAT2.out w10 hb14).mono ?_
        rintro e w11 ⟨rfl, hb15⟩
        have hb24 := hb23.trans (hb15.mono hb23.size)
        go_wp2
        go_ret
        exact ⟨rfl, hb24⟩
    · have hp1 : 0 ≤ p := by omega
      have hp2 : ¬ p < (n : Int) := by omega
      go_wp2
      go_loopw [13] (fun j wr => j = .int .i64 0 ∧ w6 = wr) (fun j _ => 0)
      case atStart => exact ⟨rfl, rfl⟩
      case round =>
        obtain ⟨rfl, rfl⟩ := hrel
        have hS7 := HS6.out
        have hR7 := HR6.out
        have hnx := snext_any 0 S c T DA dc p tick w6 hS7 Hok.out ht
        have HNX := Lib.hid hnx
        have HS7 := Lib.hid hS7
        have HR7 := Lib.hid hR7
        have lS7 := hS7.blk.lt
        have lR7 := hR7.blk.lt
        clear hnx hS7 hR7 HS6 HR6
        go_wp2_with fail
        refine HNX.out.mono ?_
        rintro e w8 hpost
        have hb12 : Below w6.heap.size w6 w8 := hpost.2
        obtain ⟨nx, bx, he⟩ : ∃ n b, e = .returned (.tuple #[.int .i64 n, .bool b]) := by
          rcases hpost with ⟨⟨_, rfl⟩ | ⟨_, n, a, _, _, rfl⟩, _⟩
          · exact ⟨_, _, rfl⟩
          · exact ⟨_, _, rfl⟩
        subst he
        have hb21 := hb20.trans (hb12.mono hb20.size)
        have hS8 := HS7.out.below hb12 (Nat.le_refl _)
        have hR8 := HR7.out.below hb12 (Nat.le_refl _)
        have hrn := refTNext_any B T' c.tab p tick w8 hR8.tab Hok.out (Nat.le_trans hB hb21.size) ht
        have s5 := hR8.blk.cell 5 rfl
        have lS8 := hS8.blk.lt
        have lR8 := hR8.blk.lt
        have HRN := Lib.hid hrn
        have HPO := Lib.hid hpost
        have HS8 := Lib.hid hS8
        have HR8 := Lib.hid hR8
        clear hrn hpost hS8 hR8 HS7 HR7 HNX
        go_wp2_with fail
        refine HRN.out.mono ?_
        rintro e w9 hpost2
        have hb13 : Below w8.heap.size w8 w9 := hpost2.2
        obtain ⟨nx2, bx2, he1, he2⟩ := next_same c.tab Hok.out p tick _ _ _ _ _ _ HPO.out hpost2
        have he3 : nx = nx2 ∧ bx = bx2 := by injection he1 with h; injection h with h; simpa using h
        obtain ⟨rfl, rfl⟩ := he3
        subst he2
        have hb22 := hb21.trans (hb13.mono hb21.size)
        have hS9 := HS8.out.below hb13 (Nat.le_refl _)
        have hR9 := HR8.out.below hb13 (Nat.le_refl _)
        have hr9 := fun W (hW : Below w.heap.size w W) => hr.keep (w' := W) fun j hj _ => hW.block j hj
        have hat := sat_any B S c T DA dc tick RA rc rs w9 (hS9.up (Nat.zero_le _)) Hk.out Hli.out (hr9 w9 hb22) (by rw [Hnr.out]; omega) (Nat.le_trans hB hb22.size)
        have hat2 := fun W (hW : Below w9.heap.size w9 W) => rat_any B S' c T' WA wk _ pc CA cc tick RA rc rs W (hR9.below hW (Nat.le_refl _)) Hk.out Hli.out (hr9 W (hb22.trans (hW.mono hb22.size))) (by rw [Hnr.out]; omega) (Nat.le_trans hB (Nat.le_trans hb22.size hW.size))
        rw [Hnr.out] at hat hat2
        obtain ⟨r1, r2, r3, hres⟩ : ∃ r1 r2 r3, atD c tick rs = (r1, r2, r3) := ⟨_, _, _, rfl⟩
        rw [hres] at hat hat2
        have HAT := Lib.hid hat
        have HAT2 := Lib.hid hat2
        have hq9 := choice_eq r1 r2 r3
        clear hat hat2 hres HPO hpost2 he1 HS8 HR8 HRN s5 hS9 hR9 hr9
        go_wp2_with fail
        refine HAT.out.mono ?_
        rintro e w10 ⟨rfl, hb14⟩
        have hb23 := hb22.trans (hb14.mono hb22.size)
        go_wp2_with fail
        refine (HAT2.out w10 hb14).mono ?_
        rintro e w11 ⟨rfl, hb15⟩
        have hb24 := hb23.trans (hb15.mono hb23.size)
        go_wp2
        go_ret
        exact ⟨rfl, hb24⟩
end Go.Proofs.Ytgljmflcbdhigaa
