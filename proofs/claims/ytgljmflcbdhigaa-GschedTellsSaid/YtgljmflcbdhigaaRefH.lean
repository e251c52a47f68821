/- The document's scheduler: At. -/
import Derived.Test.YtgljmflcbdhigaaRefG
set_option linter.unusedVariables false
set_option linter.unusedSimpArgs false
namespace Go.Proofs.Ytgljmflcbdhigaa
open Go.RowKit

theorem addr3 (S : Nat) : (⟨S, 0 + 3, none⟩ : Addr) = ⟨S, 3, none⟩ := rfl
set_option maxRecDepth 100000 in
set_option maxHeartbeats 4000000 in
theorem rat_any (B S : Nat) (c : CfgD) (T : Nat) (WA : Option Addr) (wk : Nat) (PA : Option Addr) (pc : Nat) (CA : Option Addr) (cc : Nat) (tick : Int) (RA : Option Addr) (rc : Nat) (rs : List Bool) (w : World) (h : RSch B w S c T WA wk PA pc CA cc) (hk : c.check.1 = 0) (hl : c.light = true) (hr : Row repB 4 B w RA rs) (hrn : rs.length ≤ 1000) (hB : B ≤ w.heap.size) :
    Calls Try.prog 48 #[.pointer (some ⟨S, 0, none⟩), .int .i64 tick, .slice RA rs.length rc] w fun e w' => e = .returned (.agg #[.int .i64 (atD c tick rs).1, .int .i64 (atD c tick rs).2.1, .int .i64 (atD c tick rs).2.2]) ∧ Below w.heap.size w w' := by
  have hA : ∀ o, Below w.heap.size w (w.alloc o) := fun o => (Below.refl _ _).alloc (Nat.le_refl _) o
  obtain ⟨hok, _⟩ := check_tab hk
  have hco := check_owner hk tick
  have hdon := fun (i : Nat) (pt : PartD) (hp : c.ps[i]? = some pt) => check_donees hk hp
  have ko := fun o => refOwner_any B T c.tab tick (w.alloc o) (h.tab.below (hA o) (Nat.le_refl _)) hok (Nat.le_trans hB (hA o).size)
  obtain ⟨p, kd, hpk⟩ : ∃ p k, c.tab.owner tick = (p, k) := ⟨_, _, rfl⟩
  rw [hpk] at ko hco
  obtain ⟨r1, r2, r3, hres⟩ : ∃ r1 r2 r3, atD c tick rs = (r1, r2, r3) := ⟨_, _, _, rfl⟩
  rw [hres]
  unfold atD at hres
  rw [hpk] at hres
  simp only at hco hres ko
  obtain ⟨m, hm⟩ : ∃ n, rs.length = n := ⟨_, rfl⟩
  obtain ⟨n, hn⟩ : ∃ n, c.ps.length = n := ⟨_, rfl⟩
  simp only [CfgD.light, Bool.and_eq_true, decide_eq_true_eq, List.all_eq_true] at hl
  have hblk := h.blk
  have hps := h.ps
  rw [hm] at hrn ⊢
  rw [hn] at hco hblk
  have s5 := hblk.cell 5 rfl
  have lS := hblk.lt
  have KO := Lib.hid ko
  have Hres := Lib.hid hres
  have Hl := Lib.hid hl
  have Hn := Lib.hid hn
  have Hm := Lib.hid hm
  have Hd := Lib.hid hdon
  clear ko hres hl hm hn hpk h hok hk hdon
  go_enter Try.func48, Try.ntmps48
  go_wp2_with fail
  refine (KO.out _).mono ?_
  rintro e w1 ⟨rfl, hb⟩
  have hZ := (Blk.new w 115 #[.int .i64 0, .int .i64 0, .int .i64 0]).below hb (by simp)
  have hb1 := (hA (.cells #[.int .i64 0, .int .i64 0, .int .i64 0] 115)).trans (hb.mono (hA _).size)
  have hS1 := hblk.below hb1 hblk.lt
  clear hb KO s5
  have z0 := hZ.cell 0 rfl
  have z1 := hZ.cell 1 rfl
  have z2 := hZ.cell 2 rfl
  have f0 := hZ.free 0
  have f1 := hZ.free 1
  have f2 := hZ.free 2
  have s3 := hS1.cell 3 rfl
  have lS1 := hS1.lt
  have hfin : ∀ (u0 u1 u2 : Value) (W : World), Blk W w.heap.size 115 #[.int .i64 0, .int .i64 0, .int .i64 0] → Below w.heap.size w W →
      (((W.setCell ⟨w.heap.size, 0, none⟩ u0).setCell ⟨w.heap.size, 1, none⟩ u1).setCell ⟨w.heap.size, 2, none⟩ u2).cell? ⟨w.heap.size, 0, none⟩ = some u0 ∧ (((W.setCell ⟨w.heap.size, 0, none⟩ u0).setCell ⟨w.heap.size, 1, none⟩ u1).setCell ⟨w.heap.size, 2, none⟩ u2).cell? ⟨w.heap.size, 1, none⟩ = some u1 ∧
      (((W.setCell ⟨w.heap.size, 0, none⟩ u0).setCell ⟨w.heap.size, 1, none⟩ u1).setCell ⟨w.heap.size, 2, none⟩ u2).cell? ⟨w.heap.size, 2, none⟩ = some u2 ∧ Below w.heap.size w (((W.setCell ⟨w.heap.size, 0, none⟩ u0).setCell ⟨w.heap.size, 1, none⟩ u1).setCell ⟨w.heap.size, 2, none⟩ u2) := by
    intro u0 u1 u2 W hW hb
    have hq := ((hW.set 0 u0).set 1 u1).set 2 u2
    exact ⟨hq.cell 0 rfl, hq.cell 1 rfl, hq.cell 2 rfl, ((hb.setCell (p := ⟨w.heap.size, 0, none⟩) (Nat.le_refl _) _).setCell (p := ⟨w.heap.size, 1, none⟩) (Nat.le_refl _) _).setCell (p := ⟨w.heap.size, 2, none⟩) (Nat.le_refl _) _⟩
  have Hfin := Lib.hid hfin
  clear hfin
  rcases hco with hco | ⟨hkd, hp0, hp1⟩
  · injection hco with e1 e2
    subst e1 e2
    have e : ((4 : Int), (-1 : Int), (-1 : Int)) = (r1, r2, r3) := by have := Hres.out; simpa using this
    injection e with e1 e2
    injection e2 with e2 e3
    subst e1 e2 e3
    obtain ⟨p0, p1, p2, hb2⟩ := Hfin.out (.int .i64 4) (.int .i64 (-1)) (.int .i64 (-1)) w1 hZ hb1
    clear Hres
    go_wp2
    refine bodyPost_ret (v := .agg #[.int .i64 4, .int .i64 (-1), .int .i64 (-1)]) ?_ rfl ?_
    · simp [results, Try.results48, go_sem, p0, p1, p2]
    · exact ⟨rfl, hb2⟩
  rcases hkd with rfl | rfl
  · have e : ((3 : Int), p, (-1 : Int)) = (r1, r2, r3) := by have := Hres.out; simpa using this
    injection e with e1 e2
    injection e2 with e2 e3
    subst e1 e2 e3
    obtain ⟨p0, p1, p2, hb2⟩ := Hfin.out (.int .i64 3) (.int .i64 p) (.int .i64 (-1)) w1 hZ hb1
    clear Hres
    go_wp2
    refine bodyPost_ret (v := .agg #[.int .i64 3, .int .i64 p, .int .i64 (-1)]) ?_ rfl ?_
    · simp [results, Try.results48, go_sem, p0, p1, p2]
    · exact ⟨rfl, hb2⟩
  obtain ⟨i, rfl⟩ : ∃ i : Nat, p = i := ⟨p.toNat, by omega⟩
  have hin : i < n := by omega
  obtain ⟨pt, hpt⟩ : ∃ x, c.ps[i]? = some x := ⟨_, List.getElem?_eq_getElem (by rw [Hn.out]; exact hin)⟩
  have hpf := Hl.out.2 pt (List.mem_of_getElem? hpt)
  simp only [PartD.few, Bool.and_eq_true, decide_eq_true_eq] at hpf
  have hdd : donD c i = pt.ds := by simp [donD, hpt]
  have hres2 : (if readyD rs i then ((0 : Int), (i : Int), (i : Int)) else if firstP rs pt.ds ≠ -1 then (1, (i : Int), firstP rs pt.ds) else (2, (i : Int), -1)) = (r1, r2, r3) := by
    have := Hres.out
    rw [hdd] at this
    simp only [firstP] at this
    rw [← this]
    by_cases hrd : readyD rs (i : Int) = true
    · simp [hrd]
    · have hrd2 : readyD rs (i : Int) = false := by simpa using hrd
      have hne : ¬ (-1 : Int) = (i : Int) := by omega
      simp [hrd2, hne]
  have hds := Hd.out i pt hpt
  have Hds := Lib.hid hds
  have Hres2 := Lib.hid hres2
  clear Hres hres2 hds hdd
  obtain ⟨ad, x, TA, tc, SA, sc, DA, dc, rfl, hbk, hx, c0, c1, c2, c3, c4, c5, t1, t2, t3⟩ := at_P (hps.row.keep fun j hj _ => hb1.block j hj) (k := i) (by rw [Hn.out]; exact hin)
  rw [hpt] at hx
  cases hx
  clear c0 c1 c3 c4 c5 t1 t2
  have hrw := hr.keep (w' := w1) fun j hj _ => hb1.block j hj
  obtain ⟨nd, hnd⟩ : ∃ x, pt.ds.length = x := ⟨_, rfl⟩
  rw [hnd] at c2 hpf
  have Hnd := Lib.hid hnd
  clear hnd hpt
  have i2 : (i : Int) < (n : Int) := by omega
  obtain ⟨x2, hx2⟩ : ∃ x, firstP rs pt.ds = x := ⟨_, rfl⟩
  have hx20 : firstP rs (pt.ds.drop 0) = x2 := hx2
  have hr3 := Hres2.out
  rw [hx2] at hr3
  have Hx2 := Lib.hid hx20
  clear hx2 hx20 Hres2
  by_cases hq : i < m
  · have hq2 : (i : Int) < (m : Int) := by omega
    obtain ⟨ad2, b, hRA, hb, hc2⟩ := at_B hrw (k := i) (by rw [Hm.out]; exact hq)
    subst hRA
    have hrd : readyD rs i = b := by simp [readyD, hb]; rw [Hm.out]; simp [hq]
    rw [hrd] at hr3
    clear hb hrd
    cases b with
    | true =>
      have e : ((0 : Int), (i : Int), (i : Int)) = (r1, r2, r3) := by simpa using hr3
      injection e with e1 e2
      injection e2 with e2 e3
      subst e1 e2 e3
      obtain ⟨p0, p1, p2, hb3⟩ := Hfin.out (.int .i64 0) (.int .i64 i) (.int .i64 i) w1 hZ hb1
      clear hr3 Hx2
      go_wp2
      refine bodyPost_ret (v := .agg #[.int .i64 0, .int .i64 i, .int .i64 i]) ?_ rfl ?_
      · simp [results, Try.results48, go_sem, p0, p1, p2]
      · exact ⟨rfl, hb3⟩
    | false =>
      have hr4 : (if x2 ≠ -1 then ((1 : Int), (i : Int), x2) else (2, (i : Int), -1)) = (r1, r2, r3) := by simpa using hr3
      have Hr4 := Lib.hid hr4
      clear hr3 hr4
      go_wp2
      go_loop [10] (fun j => ∃ k : Nat, k ≤ nd ∧ j = .int .i64 k ∧ firstP rs (pt.ds.drop k) = x2) (fun j => nd - (intOf j).toNat)
      case atStart => exact ⟨0, Nat.zero_le _, rfl, Hx2.out⟩
      case round =>
        clear Hx2
        obtain ⟨k, hk, rfl, he⟩ := hrel
        by_cases hlt : k < nd
        · have hk2 : (k : Int) < (nd : Int) := by omega
          obtain ⟨ad4, q, rfl, hx, hc⟩ := at_I t3.row (k := k) (by rw [Hnd.out]; exact hlt)
          have hq0 := (Hds.out q (List.mem_of_getElem? hx)).1
          obtain ⟨q, rfl⟩ : ∃ q' : Nat, q = q' := ⟨q.toNat, by omega⟩
          rw [drop_cons' hx, firstP] at he
          by_cases hqm : q < m
          · have hqm2 : (q : Int) < (m : Int) := by omega
            obtain ⟨ad5, b, hRA, hbb, hc5⟩ := at_B hrw (k := q) (by rw [Hm.out]; exact hqm)
            cases hRA
            have hrd : readyD rs q = b := by simp [readyD, hbb]; rw [Hm.out]; simp [hqm]
            rw [hrd] at he
            clear hx hbb hrd
            cases b with
            | true =>
              have e : (q : Int) = x2 := by simpa using he
              subst e
              have e : ((1 : Int), (i : Int), (q : Int)) = (r1, r2, r3) := by have := Hr4.out; rwa [if_pos (by omega)] at this
              clear Hr4 he
              injection e with e1 e2
              injection e2 with e2 e3
              subst e1 e2 e3
              obtain ⟨p0, p1, p2, hb3⟩ := Hfin.out (.int .i64 1) (.int .i64 i) (.int .i64 q) w1 hZ hb1
              go_wp2
              refine bodyPost_ret (v := .agg #[.int .i64 1, .int .i64 i, .int .i64 q]) ?_ rfl ?_
              · simp [results, Try.results48, go_sem, p0, p1, p2]
              · exact ⟨rfl, hb3⟩
            | false =>
              have e : firstP rs (pt.ds.drop (k + 1)) = x2 := by simpa using he
              have E := Lib.hid e
              clear he e
              go_wp2
              go_round
              case rel => exact ⟨k + 1, by omega, by go_num, E.out⟩
              case measure => simp [intOf] <;> omega
          · have hqm2 : ¬ (q : Int) < (m : Int) := by omega
            have hrd : readyD rs q = false := by simp [readyD]; rw [Hm.out]; intro h; omega
            rw [hrd] at he
            have e : firstP rs (pt.ds.drop (k + 1)) = x2 := by simpa using he
            have E := Lib.hid e
            clear he e hx hrd
            go_wp2
            go_round
            case rel => exact ⟨k + 1, by omega, by go_num, E.out⟩
            case measure => simp [intOf] <;> omega
        · have hk2 : ¬ (k : Int) < (nd : Int) := by omega
          have e : -1 = x2 := by rw [← he, List.drop_of_length_le (by rw [Hnd.out]; omega)]; rfl
          subst e
          have e : ((2 : Int), (i : Int), (-1 : Int)) = (r1, r2, r3) := by have := Hr4.out; simpa using this
          clear Hr4 he
          injection e with e1 e2
          injection e2 with e2 e3
          subst e1 e2 e3
          obtain ⟨p0, p1, p2, hb3⟩ := Hfin.out (.int .i64 2) (.int .i64 i) (.int .i64 (-1)) w1 hZ hb1
          go_wp2
          refine bodyPost_ret (v := .agg #[.int .i64 2, .int .i64 i, .int .i64 (-1)]) ?_ rfl ?_
          · simp [results, Try.results48, go_sem, p0, p1, p2]
          · exact ⟨rfl, hb3⟩
  · have hq2 : ¬ (i : Int) < (m : Int) := by omega
    have hrd : readyD rs i = false := by simp [readyD]; rw [Hm.out]; intro h; omega
    rw [hrd] at hr3
    clear hrd
    have hr4 : (if x2 ≠ -1 then ((1 : Int), (i : Int), x2) else (2, (i : Int), -1)) = (r1, r2, r3) := by simpa using hr3
    have Hr4 := Lib.hid hr4
    clear hr3 hr4
    go_wp2
    go_loop [10] (fun j => ∃ k : Nat, k ≤ nd ∧ j = .int .i64 k ∧ firstP rs (pt.ds.drop k) = x2) (fun j => nd - (intOf j).toNat)
    case atStart => exact ⟨0, Nat.zero_le _, rfl, Hx2.out⟩
    case round =>
      clear Hx2
      obtain ⟨k, hk, rfl, he⟩ := hrel
      by_cases hlt : k < nd
      · have hk2 : (k : Int) < (nd : Int) := by omega
        obtain ⟨ad4, q, rfl, hx, hc⟩ := at_I t3.row (k := k) (by rw [Hnd.out]; exact hlt)
        have hq0 := (Hds.out q (List.mem_of_getElem? hx)).1
        obtain ⟨q, rfl⟩ : ∃ q' : Nat, q = q' := ⟨q.toNat, by omega⟩
        rw [drop_cons' hx, firstP] at he
        by_cases hqm : q < m
        · have hqm2 : (q : Int) < (m : Int) := by omega
          obtain ⟨ad5, b, hRA, hbb, hc5⟩ := at_B hrw (k := q) (by rw [Hm.out]; exact hqm)
          subst hRA
          have hrd : readyD rs q = b := by simp [readyD, hbb]; rw [Hm.out]; simp [hqm]
          rw [hrd] at he
          clear hx hbb hrd
          cases b with
          | true =>
            have e : (q : Int) = x2 := by simpa using he
            subst e
            have e : ((1 : Int), (i : Int), (q : Int)) = (r1, r2, r3) := by have := Hr4.out; rwa [if_pos (by omega)] at this
            clear Hr4 he
            injection e with e1 e2
            injection e2 with e2 e3
            subst e1 e2 e3
            obtain ⟨p0, p1, p2, hb3⟩ := Hfin.out (.int .i64 1) (.int .i64 i) (.int .i64 q) w1 hZ hb1
            go_wp2
            refine bodyPost_ret (v := .agg #[.int .i64 1, .int .i64 i, .int .i64 q]) ?_ rfl ?_
            · simp [results, Try.results48, go_sem, p0, p1, p2]
            · exact ⟨rfl, hb3⟩
          | false =>
            have e : firstP rs (pt.ds.drop (k + 1)) = x2 := by simpa using he
            have E := Lib.hid e
            clear he e
            go_wp2
            go_round
            case rel => exact ⟨k + 1, by omega, by go_num, E.out⟩
            case measure => simp [intOf] <;> omega
        · have hqm2 : ¬ (q : Int) < (m : Int) := by omega
          have hrd : readyD rs q = false := by simp [readyD]; rw [Hm.out]; intro h; omega
          rw [hrd] at he
          have e : firstP rs (pt.ds.drop (k + 1)) = x2 := by simpa using he
          have E := Lib.hid e
          clear he e hx hrd
          go_wp2
          go_round
          case rel => exact ⟨k + 1, by omega, by go_num, E.out⟩
          case measure => simp [intOf] <;> omega
      · have hk2 : ¬ (k : Int) < (nd : Int) := by omega
        have e : -1 = x2 := by rw [← he, List.drop_of_length_le (by rw [Hnd.out]; omega)]; rfl
        subst e
        have e : ((2 : Int), (i : Int), (-1 : Int)) = (r1, r2, r3) := by have := Hr4.out; simpa using this
        clear Hr4 he
        injection e with e1 e2
        injection e2 with e2 e3
        subst e1 e2 e3
        obtain ⟨p0, p1, p2, hb3⟩ := Hfin.out (.int .i64 2) (.int .i64 i) (.int .i64 (-1)) w1 hZ hb1
        go_wp2
        refine bodyPost_ret (v := .agg #[.int .i64 2, .int .i64 i, .int .i64 (-1)]) ?_ rfl ?_
        · simp [results, Try.results48, go_sem, p0, p1, p2]
        · exact ⟨rfl, hb3⟩
end Go.Proofs.Ytgljmflcbdhigaa
