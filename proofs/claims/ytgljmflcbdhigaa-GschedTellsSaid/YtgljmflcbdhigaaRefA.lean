/- The document's check: rights, names, windows, channels. -/
import Derived.Test.YtgljmflcbdhigaaPlainV
set_option linter.unusedVariables false
set_option linter.unusedSimpArgs false
namespace Go.Proofs.Ytgljmflcbdhigaa
open Go.RowKit

theorem below_drewN {B n : Nat} {w w' : World} (h : Below B w w') : Below B w (w'.drewN n) := ⟨h.os, h.tape, h.output, h.size, h.block⟩
theorem refHas_is (f m : Int) (vw vc : Value) (PA : Option Addr) (np pc : Nat) (p : Int) (w : World) (b : Bool) (hb : hasD np p = b) (h1 : vw.oneCell' = true) (h2 : vc.oneCell' = true) :
    Calls Try.prog 80 #[.agg #[.int .i64 f, .int .i64 m, vw, .slice PA np pc, vc], .int .i64 p] w fun e w' => e = .returned (.bool b) ∧ Below w.heap.size w w' := by
  rw [← hb]
  unfold hasD
  by_cases h : 0 ≤ p
  · go_enter Try.func80, Try.ntmps80
    go_wp2
    go_ret
    exact ⟨ret_b (by simp [h]), (Below.refl _ _).alloc (Nat.le_refl _) _⟩
  · go_enter Try.func80, Try.ntmps80
    go_wp2
    go_ret
    exact ⟨ret_b (by have : ¬ 0 ≤ p := by omega
                     simp [this]), (Below.refl _ _).alloc (Nat.le_refl _) _⟩

set_option maxRecDepth 100000 in
set_option maxHeartbeats 4000000 in
theorem refRights_any (B : Nat) (TA SA : Option Addr) (tc sc : Nat) (vd : Value) (p : PartD) (w : World) (hB : B ≤ w.heap.size) (hd : vd.oneCell' = true) (ht : Row repT 143 B w TA p.ts) (hs : Row repS 24 B w SA p.ss) (n1 : p.ts.length ≤ 1000) (n2 : p.ss.length ≤ 1000) :
    Calls Try.prog 135 #[.agg #[.slice TA p.ts.length tc, .slice SA p.ss.length sc, vd, .int .u8 p.a0, .int .u8 p.a1, .int .u8 p.a2]] w fun e w' => e = .returned (.int .i64 p.rights) ∧ Below w.heap.size w w' := by
  obtain ⟨ts, ss, ds, a0, a1, a2⟩ := p
  simp only at ht hs n1 n2 ⊢
  obtain ⟨r, hr⟩ : ∃ r, PartD.rights ⟨ts, ss, ds, a0, a1, a2⟩ = r := ⟨_, rfl⟩
  rw [hr]
  unfold PartD.rights at hr
  simp only at hr
  obtain ⟨nt, hnt⟩ : ∃ n, ts.length = n := ⟨_, rfl⟩
  obtain ⟨ns, hns⟩ : ∃ n, ss.length = n := ⟨_, rfl⟩
  rw [hnt] at n1 hr ⊢
  rw [hns] at n2 hr ⊢
  have Ht := Lib.hid hnt
  have Hs := Lib.hid hns
  have Hr := Lib.hid hr
  clear hnt hns hr
  have hA : ∀ o, Below w.heap.size w (w.alloc o) := fun o => (Below.refl _ _).alloc (Nat.le_refl _) o
  by_cases q1 : 6 < nt
  · have q1' : (6 : Int) < nt := by omega
    have e : r = 22 := by rw [← Hr.out]; simp; omega
    subst e
    go_enter Try.func135, Try.ntmps135
    go_wp2
    go_ret
    exact ⟨rfl, hA _⟩
  have q1' : ¬ (6 : Int) < nt := by omega
  obtain ⟨bt, hbt⟩ : ∃ b, ts.all TaskD.right = b := ⟨_, rfl⟩
  have hr1 : bt = false → r = 22 := fun e => by rw [← Hr.out]; simp [hbt, e]
  have hr2 : bt = true → r = (if (decide (ns ≤ 3) && ss.all Srv.right) = false then 23 else if 2 < max (max a0 a1) a2 then 26 else 0) := by
    intro e
    have h6 : decide (nt ≤ 6) = true := by simp; omega
    rw [← Hr.out, hbt, e, h6]; rfl
  have Hr1 := Lib.hid hr1
  have Hr2 := Lib.hid hr2
  have Hbt := Lib.hid hbt
  clear hr1 hr2 hbt Hr
  go_enter Try.func135, Try.ntmps135
  go_wp2
  go_loopw [3] (fun j wr => ∃ k : Nat, k ≤ nt ∧ j = .int .i64 k ∧ (ts.drop k).all TaskD.right = bt ∧ Blk wr w.heap.size 45 #[.slice TA nt tc, .slice SA ns sc, vd, .int .u8 a0, .int .u8 a1, .int .u8 a2] ∧ Below w.heap.size w wr) (fun j _ => nt - (intOf j).toNat)
  case atStart => exact ⟨0, Nat.zero_le _, rfl, Hbt.out, Blk.new _ _ _, hA _⟩
  case round =>
    clear Hbt
    obtain ⟨k, hk, rfl, he, hbx, hb⟩ := hrel
    have x0 := hbx.cell 0 rfl
    by_cases hlt : k < nt
    · have hk2 : (k : Int) < (nt : Int) := by omega
      obtain ⟨ad, x, rfl, hbk, hx, h0, h1, h2, h3, h4, h5⟩ := at_T (ht.keep fun q hq _ => hb.block q hq) (k := k) (by rw [Ht.out]; omega)
      rw [drop_cons' hx, List.all_cons] at he
      obtain ⟨b, hbf⟩ : ∃ b, x.right = b := ⟨_, rfl⟩
      have hc := fun W => refRightTask_any x W
      rw [hbf] at he hc
      have He := Lib.hid he
      have HC := Lib.hid hc
      clear he hc hbf hx
      go_wp2_with fail
      refine (HC.out _).mono ?_
      rintro e w1 ⟨rfl, hb1⟩
      have hb2 : Below w.heap.size w w1 := hb.trans (hb1.mono hb.size)
      have hbx1 := hbx.below hb1 hbx.lt
      clear h0 h1 h2 h3 h4 h5 x0 hbx
      cases b with
      | false =>
        have e : r = 22 := Hr1.out (by rw [← He.out]; rfl)
        subst e
        go_wp2
        go_ret
        exact ⟨rfl, hb2⟩
      | true =>
        go_wp2
        go_roundw
        case rel => exact ⟨k + 1, by omega, by go_num, by have := He.out; simpa using this, hbx1, hb2⟩
        case measure => simp [intOf] <;> omega
    · have hk2 : ¬ (k : Int) < (nt : Int) := by omega
      have e : bt = true := by rw [← he, List.drop_of_length_le (by rw [Ht.out]; omega)]; rfl
      have hr3 := Hr2.out e
      have x1 := hbx.cell 1 rfl
      clear he Hr1 Hr2 e
      by_cases q2 : 3 < ns
      · have q2' : (3 : Int) < ns := by omega
        have e : r = 23 := by rw [hr3]; simp; omega
        subst e
        clear hr3
        go_wp2
        go_ret
        exact ⟨rfl, hb⟩
      have q2' : ¬ (3 : Int) < ns := by omega
      obtain ⟨bs, hbs⟩ : ∃ b, ss.all Srv.right = b := ⟨_, rfl⟩
      have hr4 : bs = false → r = 23 := fun e => by rw [hr3, hbs, e]; simp
      have hr5 : bs = true → r = (if 2 < max (max a0 a1) a2 then 26 else 0) := by
        intro e
        have h6 : decide (ns ≤ 3) = true := by simp; omega
        rw [hr3, hbs, e, h6]; rfl
      have Hr4 := Lib.hid hr4
      have Hr5 := Lib.hid hr5
      have Hbs := Lib.hid hbs
      clear hr3 hr4 hr5 hbs
      go_wp2
      go_loopw [4] (fun j wr => ∃ k : Nat, k ≤ ns ∧ j = .int .i64 k ∧ (ss.drop k).all Srv.right = bs ∧ Blk wr w.heap.size 45 #[.slice TA nt tc, .slice SA ns sc, vd, .int .u8 a0, .int .u8 a1, .int .u8 a2] ∧ Below w.heap.size w wr) (fun j _ => ns - (intOf j).toNat)
      case atStart => exact ⟨0, Nat.zero_le _, rfl, Hbs.out, hbx, hb⟩
      case round =>
        clear Hbs hbx hb x0 x1
        obtain ⟨k2, hk, rfl, he, hbx, hb⟩ := hrel
        have x1 := hbx.cell 1 rfl
        by_cases hlt : k2 < ns
        · have hk2 : (k2 : Int) < (ns : Int) := by omega
          obtain ⟨ad, x, rfl, hbk, hx, h0, h1, h2⟩ := at_S (hs.keep fun q hq _ => hb.block q hq) (k := k2) (by rw [Hs.out]; omega)
          rw [drop_cons' hx, List.all_cons] at he
          obtain ⟨b, hbf⟩ : ∃ b, x.right = b := ⟨_, rfl⟩
          have hc := fun W => refRightSrv_any x W
          rw [hbf] at he hc
          have He := Lib.hid he
          have HC := Lib.hid hc
          clear he hc hbf hx
          go_wp2_with fail
          refine (HC.out _).mono ?_
          rintro e w1 ⟨rfl, hb1⟩
          have hb2 : Below w.heap.size w w1 := hb.trans (hb1.mono hb.size)
          have hbx1 := hbx.below hb1 hbx.lt
          clear h0 h1 h2 x1 hbx
          cases b with
          | false =>
            have e : r = 23 := Hr4.out (by rw [← He.out]; rfl)
            subst e
            go_wp2
            go_ret
            exact ⟨rfl, hb2⟩
          | true =>
            go_wp2
            go_roundw
            case rel => exact ⟨k2 + 1, by omega, by go_num, by have := He.out; simpa using this, hbx1, hb2⟩
            case measure => simp [intOf] <;> omega
        · have hk2 : ¬ (k2 : Int) < (ns : Int) := by omega
          have e : bs = true := by rw [← he, List.drop_of_length_le (by rw [Hs.out]; omega)]; rfl
          have hr6 := Hr5.out e
          have x3 := hbx.cell 3 rfl
          have x4 := hbx.cell 4 rfl
          have x5 := hbx.cell 5 rfl
          clear he Hr4 Hr5 e
          go_wp2
          go_loop [5] (fun j => j = .int .i64 0 ∨ (j = .int .i64 1 ∧ a0 ≤ 2) ∨ (j = .int .i64 2 ∧ a0 ≤ 2 ∧ a1 ≤ 2) ∨ (j = .int .i64 3 ∧ a0 ≤ 2 ∧ a1 ≤ 2 ∧ a2 ≤ 2)) (fun j => 3 - (intOf j).toNat)
          case atStart => exact .inl rfl
          case round =>
            have Hr6 := Lib.hid hr6
            clear hr6
            rcases hrel with rfl | ⟨rfl, g0⟩ | ⟨rfl, g0, g1⟩ | ⟨rfl, g0, g1, g2⟩
            · by_cases g : 2 < a0
              · have e : r = 26 := by rw [Hr6.out, if_pos (by omega)]
                have E := Lib.hid e
                clear e
                go_wp2
                go_ret
                exact ⟨ret_i E.out.symm, hb⟩
              · have g' : a0 ≤ 2 := by omega
                go_wp2
                exact ⟨.inr (.inl ⟨rfl, g'⟩), by simp [intOf]⟩
            · by_cases g : 2 < a1
              · have e : r = 26 := by rw [Hr6.out, if_pos (by omega)]
                have E := Lib.hid e
                clear e
                go_wp2
                go_ret
                exact ⟨ret_i E.out.symm, hb⟩
              · have g' : a1 ≤ 2 := by omega
                go_wp2
                exact ⟨.inr (.inr (.inl ⟨rfl, g0, g'⟩)), by simp [intOf]⟩
            · by_cases g : 2 < a2
              · have e : r = 26 := by rw [Hr6.out, if_pos (by omega)]
                have E := Lib.hid e
                clear e
                go_wp2
                go_ret
                exact ⟨ret_i E.out.symm, hb⟩
              · have g' : a2 ≤ 2 := by omega
                go_wp2
                exact ⟨.inr (.inr (.inr ⟨rfl, g0, g1, g'⟩)), by simp [intOf]⟩
            · have e : r = 0 := by rw [Hr6.out, if_neg (by omega)]
              have E := Lib.hid e
              clear e
              go_wp2
              go_ret
              exact ⟨ret_i E.out.symm, hb⟩

/-! ### Names -/
set_option maxHeartbeats 4000000 in
theorem refNames_any (B : Nat) (f m : Int) (vw vc : Value) (PA : Option Addr) (np pc : Nat) (p : Int) (A : Option Addr) (c : Nat) (l : List Int) (w : World) (h1 : vw.oneCell' = true) (h2 : vc.oneCell' = true) (hl : Row repI 3 B w A l) (hn : l.length ≤ 1000) (hB : B ≤ w.heap.size) :
    Calls Try.prog 136 #[.agg #[.int .i64 f, .int .i64 m, vw, .slice PA np pc, vc], .int .i64 p, .slice A l.length c] w fun e w' => e = .returned (.bool (namesD np p l)) ∧ Below w.heap.size w w' := by
  obtain ⟨n, hn'⟩ : ∃ n, l.length = n := ⟨_, rfl⟩
  rw [hn'] at hn ⊢
  have Hn := Lib.hid hn'
  clear hn'
  obtain ⟨b0, hb0⟩ : ∃ b, hasD np p = b := ⟨_, rfl⟩
  obtain ⟨r, hr⟩ : ∃ b, namesD np p l = b := ⟨_, rfl⟩
  rw [hr]
  have hH := fun W => refHas_is f m vw vc PA np pc p W b0 hb0 h1 h2
  unfold namesD at hr
  rw [hb0] at hr
  have HH := Lib.hid hH
  have Hr := Lib.hid hr
  clear hH hr hb0
  have hA : ∀ o, Below w.heap.size w (w.alloc o) := fun o => (Below.refl _ _).alloc (Nat.le_refl _) o
  go_enter Try.func136, Try.ntmps136
  go_wp2_with fail
  refine (HH.out _).mono ?_
  rintro e w1 ⟨rfl, hb⟩
  have hbx := (Blk.new w 64 #[.int .i64 f, .int .i64 m, vw, .slice PA np pc, vc]).below hb (by simp)
  have hb1 : Below w.heap.size w w1 := (hA _).trans (hb.mono (by simp))
  clear hb
  cases b0 with
  | false =>
    have e : r = false := by rw [← Hr.out]; rfl
    subst e
    go_wp2
    go_ret
    exact ⟨rfl, hb1⟩
  | true =>
    have Hr2 : Hid (namesFrom np [p] l = r) := Lib.hid (by rw [← Hr.out]; rfl)
    clear Hr
    go_wp2
    go_loopw [7] (fun j wr => ∃ (k : Nat) (met : List Int), k ≤ n ∧ j = .int .i64 k ∧ (∀ q, met.contains q = true ↔ q = p ∨ q ∈ l.take k) ∧ namesFrom np met (l.drop k) = r ∧ Blk wr w.heap.size 64 #[.int .i64 f, .int .i64 m, vw, .slice PA np pc, vc] ∧ Below w.heap.size w wr) (fun j _ => n - (intOf j).toNat)
    case atStart => exact ⟨0, [p], Nat.zero_le _, rfl, by simp, Hr2.out, hbx, hb1⟩
    case round =>
      clear Hr2 hbx hb1
      obtain ⟨k, met, hk, rfl, hmet, he, hbx, hb⟩ := hrel
      have Hmet := Lib.hid hmet
      clear hmet
      by_cases hlt : k < n
      · have hk2 : (k : Int) < (n : Int) := by omega
        have hk0 : (0 : Int) ≤ (k : Int) := by omega
        have hlr := hl.keep (w' := wr) fun j hj _ => hb.block j hj
        obtain ⟨ad, x, rfl, hx, hc⟩ := at_I hlr (k := k) (by rw [Hn.out]; omega)
        rw [drop_cons' hx, namesFrom] at he
        have htk := take_snoc' hx
        obtain ⟨b2, hb2'⟩ : ∃ b, hasD np x = b := ⟨_, rfl⟩
        rw [hb2'] at he
        have hH := fun W => refHas_is f m vw vc PA np pc x W b2 hb2' h1 h2
        have HH2 := Lib.hid hH
        have He := Lib.hid he
        have Htk := Lib.hid htk
        have Hx := Lib.hid hx
        have c0 := hbx.cell 0 rfl
        have c1 := hbx.cell 1 rfl
        have c2 := hbx.cell 2 rfl
        have c3 := hbx.cell 3 rfl
        have c4 := hbx.cell 4 rfl
        have z1 : Below wr.heap.size wr wr.drew := (Below.refl _ _).drew
        have hsz := hb.size
        clear hH hb2' he htk hx
        go_upto_region 6 with fail
        go_cut [33] (fun u wx => u = .bool (!b2 || decide (x = p)) ∧ Below wr.heap.size wr wx)
        case first =>
          have hSS : ∀ W, Below wr.heap.size wr W → W.cell? ⟨w.heap.size, 0, none⟩ = some (.int .i64 f) ∧ W.cell? ⟨w.heap.size, 1, none⟩ = some (.int .i64 m) ∧ W.cell? ⟨w.heap.size, 2, none⟩ = some vw ∧ W.cell? ⟨w.heap.size, 3, none⟩ = some (.slice PA np pc) ∧ W.cell? ⟨w.heap.size, 4, none⟩ = some vc ∧ W.cell? (ad.add k) = some (.int .i64 x) := fun W hW => ⟨cb hW c0, cb hW c1, cb hW c2, cb hW c3, cb hW c4, cb hW hc⟩
          have HSS := Lib.hid hSS
          clear hSS
          cases b2 with
          | false =>
            refine wp_region_held_drew (S := fun W : World => W.cell? ⟨w.heap.size, 0, none⟩ = some (.int .i64 f) ∧ W.cell? ⟨w.heap.size, 1, none⟩ = some (.int .i64 m) ∧ W.cell? ⟨w.heap.size, 2, none⟩ = some vw ∧ W.cell? ⟨w.heap.size, 3, none⟩ = some (.slice PA np pc) ∧ W.cell? ⟨w.heap.size, 4, none⟩ = some vc ∧ W.cell? (ad.add k) = some (.int .i64 x)) (by kernel_rfl) (HSS.out _ z1) (fun hHeld => ?_)
            clear c0 c1 c2 c3 c4 hc
            refine wpAnyH_take (i := 0) (v := ?_) rfl (by kernel_rfl) (by kernel_rfl) (by kernel_rfl) (fun _ _ _ h => h) (Or.inl ⟨by rfl, ?_⟩) hHeld ?_
            rotate_left 1
            · intro W hSw
              go_simp
              with_reducible rfl
            simp only [Act.put, List.getElem_toArray, List.getElem_cons_succ, List.getElem_cons_zero, List.setIfInBounds_toArray, List.set_cons_zero, List.set_cons_succ]
            refine wpAnyH_take (i := 1) (v := ?_) rfl (by kernel_rfl) (by kernel_rfl) (by kernel_rfl) (fun _ _ _ h => h) (Or.inl ⟨by rfl, ?_⟩) hHeld ?_
            rotate_left 1
            · intro W hSw
              go_simp
              with_reducible rfl
            simp only [Act.put, List.getElem_toArray, List.getElem_cons_succ, List.getElem_cons_zero, List.setIfInBounds_toArray, List.set_cons_zero, List.set_cons_succ]
            refine wpAnyH_take (i := 2) (v := ?_) rfl (by kernel_rfl) (by kernel_rfl) (by kernel_rfl) (fun _ _ _ h => h) (Or.inl ⟨by rfl, ?_⟩) hHeld ?_
            rotate_left 1
            · intro W hSw
              go_simp
              with_reducible rfl
            simp only [Act.put, List.getElem_toArray, List.getElem_cons_succ, List.getElem_cons_zero, List.setIfInBounds_toArray, List.set_cons_zero, List.set_cons_succ]
            refine wpAnyH_take (i := 3) (v := ?_) rfl (by kernel_rfl) (by kernel_rfl) (by kernel_rfl) (fun _ _ _ h => h) (Or.inl ⟨by rfl, ?_⟩) hHeld ?_
            rotate_left 1
            · intro W hSw
              go_simp
              with_reducible rfl
            simp only [Act.put, List.getElem_toArray, List.getElem_cons_succ, List.getElem_cons_zero, List.setIfInBounds_toArray, List.set_cons_zero, List.set_cons_succ]
            refine wpAnyH_take (i := 4) (v := ?_) rfl (by kernel_rfl) (by kernel_rfl) (by kernel_rfl) (fun _ _ _ h => h) (Or.inl ⟨by rfl, ?_⟩) hHeld ?_
            rotate_left 1
            · intro W hSw
              go_simp
              with_reducible rfl
            simp only [Act.put, List.getElem_toArray, List.getElem_cons_succ, List.getElem_cons_zero, List.setIfInBounds_toArray, List.set_cons_zero, List.set_cons_succ]
            refine wpAnyH_ready (rs := [5]) (by kernel_rfl) (by simp) ?_
            refine AllReadyH.cons rfl (fun K hK => ?_) AllReadyH.nil
            try simp only [List.getElem_toArray, List.getElem_cons_succ, List.getElem_cons_zero]
            go_simp
            go_at_call 80
            refine (HH2.out _).mono ?_
            rintro e w2 ⟨rfl, hb2⟩
            have hw2 : Below wr.heap.size wr w2 := z1.trans (hb2.mono z1.size)
            refine hK.out _ _ (HSS.out _ hw2) (fun hHeld => ?_)
            clear hK K
            try simp only [Act.put, List.getElem_toArray, List.getElem_cons_succ, List.getElem_cons_zero, List.setIfInBounds_toArray, List.set_cons_zero, List.set_cons_succ]
            refine wpAnyH_take (i := 6) (v := ?_) rfl (by kernel_rfl) (by kernel_rfl) (by kernel_rfl) (fun _ _ _ h => h) (Or.inl ⟨by rfl, ?_⟩) hHeld ?_
            rotate_left 1
            · intro W hSw
              go_simp
              with_reducible rfl
            simp only [Act.put, List.getElem_toArray, List.getElem_cons_succ, List.getElem_cons_zero, List.setIfInBounds_toArray, List.set_cons_zero, List.set_cons_succ]
            refine wpAnyH_take (i := 7) (v := ?_) rfl (by kernel_rfl) (by kernel_rfl) (by kernel_rfl) (fun _ _ _ h => h) (Or.inl ⟨by rfl, ?_⟩) hHeld ?_
            rotate_left 1
            · intro W hSw
              go_simp
              with_reducible rfl
            simp only [Act.put, List.getElem_toArray, List.getElem_cons_succ, List.getElem_cons_zero, List.setIfInBounds_toArray, List.set_cons_zero, List.set_cons_succ]
            refine wpAnyH_take (i := 8) (v := undef) rfl (by kernel_rfl) (by kernel_rfl) (by kernel_rfl) (fun _ _ _ h => h) (Or.inr ⟨by rfl, rfl⟩) hHeld ?_
            simp only [Act.put, List.getElem_toArray, List.getElem_cons_succ, List.getElem_cons_zero, List.setIfInBounds_toArray, List.set_cons_zero, List.set_cons_succ]
            refine wpAnyH_take (i := 9) (v := undef) rfl (by kernel_rfl) (by kernel_rfl) (by kernel_rfl) (fun _ _ _ h => h) (Or.inr ⟨by rfl, rfl⟩) hHeld ?_
            simp only [Act.put, List.getElem_toArray, List.getElem_cons_succ, List.getElem_cons_zero, List.setIfInBounds_toArray, List.set_cons_zero, List.set_cons_succ]
            refine wpAnyH_take (i := 10) (v := undef) rfl (by kernel_rfl) (by kernel_rfl) (by kernel_rfl) (fun _ _ _ h => h) (Or.inr ⟨by rfl, rfl⟩) hHeld ?_
            simp only [Act.put, List.getElem_toArray, List.getElem_cons_succ, List.getElem_cons_zero, List.setIfInBounds_toArray, List.set_cons_zero, List.set_cons_succ]
            refine wpAnyH_take (i := 11) (v := undef) rfl (by kernel_rfl) (by kernel_rfl) (by kernel_rfl) (fun _ _ _ h => h) (Or.inr ⟨by rfl, rfl⟩) hHeld ?_
            simp only [Act.put, List.getElem_toArray, List.getElem_cons_succ, List.getElem_cons_zero, List.setIfInBounds_toArray, List.set_cons_zero, List.set_cons_succ]
            refine wpAnyH_take (i := 12) (v := undef) rfl (by kernel_rfl) (by kernel_rfl) (by kernel_rfl) (fun _ _ _ h => h) (Or.inr ⟨by rfl, rfl⟩) hHeld ?_
            simp only [Act.put, List.getElem_toArray, List.getElem_cons_succ, List.getElem_cons_zero, List.setIfInBounds_toArray, List.set_cons_zero, List.set_cons_succ]
            refine wpAnyH_take (i := 13) (v := undef) rfl (by kernel_rfl) (by kernel_rfl) (by kernel_rfl) (fun _ _ _ h => h) (Or.inr ⟨by rfl, rfl⟩) hHeld ?_
            simp only [Act.put, List.getElem_toArray, List.getElem_cons_succ, List.getElem_cons_zero, List.setIfInBounds_toArray, List.set_cons_zero, List.set_cons_succ]
            refine wpAnyH_take (i := 14) (v := ?_) rfl (by kernel_rfl) (by kernel_rfl) (by kernel_rfl) (fun _ _ _ h => h) (Or.inl ⟨by rfl, ?_⟩) hHeld ?_
            rotate_left 1
            · intro W hSw
              go_simp
              with_reducible rfl
            simp only [Act.put, List.getElem_toArray, List.getElem_cons_succ, List.getElem_cons_zero, List.setIfInBounds_toArray, List.set_cons_zero, List.set_cons_succ]
            refine wpAnyH_done (by kernel_rfl) ?_ _
            go_wp2_with fail
            go_meet
            exact ⟨by simp, hw2⟩
          | true =>
            by_cases hxp : x = p
            · have q1 : (x == p) = true := by simpa using hxp
              have q2 : decide (x = p) = true := by simpa using hxp
              have Q2 := Lib.hid q2
              clear hxp q2
              refine wp_region_held_drew (S := fun W : World => W.cell? ⟨w.heap.size, 0, none⟩ = some (.int .i64 f) ∧ W.cell? ⟨w.heap.size, 1, none⟩ = some (.int .i64 m) ∧ W.cell? ⟨w.heap.size, 2, none⟩ = some vw ∧ W.cell? ⟨w.heap.size, 3, none⟩ = some (.slice PA np pc) ∧ W.cell? ⟨w.heap.size, 4, none⟩ = some vc ∧ W.cell? (ad.add k) = some (.int .i64 x)) (by kernel_rfl) (HSS.out _ z1) (fun hHeld => ?_)
              clear c0 c1 c2 c3 c4 hc
              refine wpAnyH_take (i := 0) (v := ?_) rfl (by kernel_rfl) (by kernel_rfl) (by kernel_rfl) (fun _ _ _ h => h) (Or.inl ⟨by rfl, ?_⟩) hHeld ?_
              rotate_left 1
              · intro W hSw
                go_simp
                with_reducible rfl
              simp only [Act.put, List.getElem_toArray, List.getElem_cons_succ, List.getElem_cons_zero, List.setIfInBounds_toArray, List.set_cons_zero, List.set_cons_succ]
              refine wpAnyH_take (i := 1) (v := ?_) rfl (by kernel_rfl) (by kernel_rfl) (by kernel_rfl) (fun _ _ _ h => h) (Or.inl ⟨by rfl, ?_⟩) hHeld ?_
              rotate_left 1
              · intro W hSw
                go_simp
                with_reducible rfl
              simp only [Act.put, List.getElem_toArray, List.getElem_cons_succ, List.getElem_cons_zero, List.setIfInBounds_toArray, List.set_cons_zero, List.set_cons_succ]
              refine wpAnyH_take (i := 2) (v := ?_) rfl (by kernel_rfl) (by kernel_rfl) (by kernel_rfl) (fun _ _ _ h => h) (Or.inl ⟨by rfl, ?_⟩) hHeld ?_
              rotate_left 1
              · intro W hSw
                go_simp
                with_reducible rfl
              simp only [Act.put, List.getElem_toArray, List.getElem_cons_succ, List.getElem_cons_zero, List.setIfInBounds_toArray, List.set_cons_zero, List.set_cons_succ]
              refine wpAnyH_take (i := 3) (v := ?_) rfl (by kernel_rfl) (by kernel_rfl) (by kernel_rfl) (fun _ _ _ h => h) (Or.inl ⟨by rfl, ?_⟩) hHeld ?_
              rotate_left 1
              · intro W hSw
                go_simp
                with_reducible rfl
              simp only [Act.put, List.getElem_toArray, List.getElem_cons_succ, List.getElem_cons_zero, List.setIfInBounds_toArray, List.set_cons_zero, List.set_cons_succ]
              refine wpAnyH_take (i := 4) (v := ?_) rfl (by kernel_rfl) (by kernel_rfl) (by kernel_rfl) (fun _ _ _ h => h) (Or.inl ⟨by rfl, ?_⟩) hHeld ?_
              rotate_left 1
              · intro W hSw
                go_simp
                with_reducible rfl
              simp only [Act.put, List.getElem_toArray, List.getElem_cons_succ, List.getElem_cons_zero, List.setIfInBounds_toArray, List.set_cons_zero, List.set_cons_succ]
              refine wpAnyH_ready (rs := [5]) (by kernel_rfl) (by simp) ?_
              refine AllReadyH.cons rfl (fun K hK => ?_) AllReadyH.nil
              try simp only [List.getElem_toArray, List.getElem_cons_succ, List.getElem_cons_zero]
              go_simp
              go_at_call 80
              refine (HH2.out _).mono ?_
              rintro e w2 ⟨rfl, hb2⟩
              have hw2 : Below wr.heap.size wr w2 := z1.trans (hb2.mono z1.size)
              refine hK.out _ _ (HSS.out _ hw2) (fun hHeld => ?_)
              clear hK K
              try simp only [Act.put, List.getElem_toArray, List.getElem_cons_succ, List.getElem_cons_zero, List.setIfInBounds_toArray, List.set_cons_zero, List.set_cons_succ]
              refine wpAnyH_take (i := 6) (v := ?_) rfl (by kernel_rfl) (by kernel_rfl) (by kernel_rfl) (fun _ _ _ h => h) (Or.inl ⟨by rfl, ?_⟩) hHeld ?_
              rotate_left 1
              · intro W hSw
                go_simp
                with_reducible rfl
              simp only [Act.put, List.getElem_toArray, List.getElem_cons_succ, List.getElem_cons_zero, List.setIfInBounds_toArray, List.set_cons_zero, List.set_cons_succ]
              refine wpAnyH_take (i := 7) (v := ?_) rfl (by kernel_rfl) (by kernel_rfl) (by kernel_rfl) (fun _ _ _ h => h) (Or.inl ⟨by rfl, ?_⟩) hHeld ?_
              rotate_left 1
              · intro W hSw
                go_simp
                with_reducible rfl
              simp only [Act.put, List.getElem_toArray, List.getElem_cons_succ, List.getElem_cons_zero, List.setIfInBounds_toArray, List.set_cons_zero, List.set_cons_succ]
              refine wpAnyH_take (i := 8) (v := ?_) rfl (by kernel_rfl) (by kernel_rfl) (by kernel_rfl) (fun _ _ _ h => h) (Or.inl ⟨by rfl, ?_⟩) hHeld ?_
              rotate_left 1
              · intro W hSw
                go_simp
                with_reducible rfl
              simp only [Act.put, List.getElem_toArray, List.getElem_cons_succ, List.getElem_cons_zero, List.setIfInBounds_toArray, List.set_cons_zero, List.set_cons_succ]
              refine wpAnyH_take (i := 9) (v := ?_) rfl (by kernel_rfl) (by kernel_rfl) (by kernel_rfl) (fun _ _ _ h => h) (Or.inl ⟨by rfl, ?_⟩) hHeld ?_
              rotate_left 1
              · intro W hSw
                go_simp
                with_reducible rfl
              simp only [Act.put, List.getElem_toArray, List.getElem_cons_succ, List.getElem_cons_zero, List.setIfInBounds_toArray, List.set_cons_zero, List.set_cons_succ]
              refine wpAnyH_take (i := 10) (v := ?_) rfl (by kernel_rfl) (by kernel_rfl) (by kernel_rfl) (fun _ _ _ h => h) (Or.inl ⟨by rfl, ?_⟩) hHeld ?_
              rotate_left 1
              · intro W hSw
                go_simp
                with_reducible rfl
              simp only [Act.put, List.getElem_toArray, List.getElem_cons_succ, List.getElem_cons_zero, List.setIfInBounds_toArray, List.set_cons_zero, List.set_cons_succ]
              refine wpAnyH_take (i := 11) (v := ?_) rfl (by kernel_rfl) (by kernel_rfl) (by kernel_rfl) (fun _ _ _ h => h) (Or.inl ⟨by rfl, ?_⟩) hHeld ?_
              rotate_left 1
              · intro W hSw
                go_simp
                with_reducible rfl
              simp only [Act.put, List.getElem_toArray, List.getElem_cons_succ, List.getElem_cons_zero, List.setIfInBounds_toArray, List.set_cons_zero, List.set_cons_succ]
              refine wpAnyH_take (i := 12) (v := ?_) rfl (by kernel_rfl) (by kernel_rfl) (by kernel_rfl) (fun _ _ _ h => h) (Or.inl ⟨by rfl, ?_⟩) hHeld ?_
              rotate_left 1
              · intro W hSw
                go_simp
                with_reducible rfl
              simp only [Act.put, List.getElem_toArray, List.getElem_cons_succ, List.getElem_cons_zero, List.setIfInBounds_toArray, List.set_cons_zero, List.set_cons_succ]
              refine wpAnyH_take (i := 13) (v := ?_) rfl (by kernel_rfl) (by kernel_rfl) (by kernel_rfl) (fun _ _ _ h => h) (Or.inl ⟨by rfl, ?_⟩) hHeld ?_
              rotate_left 1
              · intro W hSw
                go_simp
                with_reducible rfl
              simp only [Act.put, List.getElem_toArray, List.getElem_cons_succ, List.getElem_cons_zero, List.setIfInBounds_toArray, List.set_cons_zero, List.set_cons_succ]
              refine wpAnyH_take (i := 14) (v := ?_) rfl (by kernel_rfl) (by kernel_rfl) (by kernel_rfl) (fun _ _ _ h => h) (Or.inl ⟨by rfl, ?_⟩) hHeld ?_
              rotate_left 1
              · intro W hSw
                go_simp
                with_reducible rfl
              simp only [Act.put, List.getElem_toArray, List.getElem_cons_succ, List.getElem_cons_zero, List.setIfInBounds_toArray, List.set_cons_zero, List.set_cons_succ]
              refine wpAnyH_done (by kernel_rfl) ?_ _
              go_wp2_with fail
              go_meet
              exact ⟨by rw [Q2.out]; simp, hw2⟩
            · have q1 : (x == p) = false := by simpa using hxp
              have q2 : decide (x = p) = false := by simpa using hxp
              have Q2 := Lib.hid q2
              clear hxp q2
              refine wp_region_held_drew (S := fun W : World => W.cell? ⟨w.heap.size, 0, none⟩ = some (.int .i64 f) ∧ W.cell? ⟨w.heap.size, 1, none⟩ = some (.int .i64 m) ∧ W.cell? ⟨w.heap.size, 2, none⟩ = some vw ∧ W.cell? ⟨w.heap.size, 3, none⟩ = some (.slice PA np pc) ∧ W.cell? ⟨w.heap.size, 4, none⟩ = some vc ∧ W.cell? (ad.add k) = some (.int .i64 x)) (by kernel_rfl) (HSS.out _ z1) (fun hHeld => ?_)
              clear c0 c1 c2 c3 c4 hc
              refine wpAnyH_take (i := 0) (v := ?_) rfl (by kernel_rfl) (by kernel_rfl) (by kernel_rfl) (fun _ _ _ h => h) (Or.inl ⟨by rfl, ?_⟩) hHeld ?_
              rotate_left 1
              · intro W hSw
                go_simp
                with_reducible rfl
              simp only [Act.put, List.getElem_toArray, List.getElem_cons_succ, List.getElem_cons_zero, List.setIfInBounds_toArray, List.set_cons_zero, List.set_cons_succ]
              refine wpAnyH_take (i := 1) (v := ?_) rfl (by kernel_rfl) (by kernel_rfl) (by kernel_rfl) (fun _ _ _ h => h) (Or.inl ⟨by rfl, ?_⟩) hHeld ?_
              rotate_left 1
              · intro W hSw
                go_simp
                with_reducible rfl
              simp only [Act.put, List.getElem_toArray, List.getElem_cons_succ, List.getElem_cons_zero, List.setIfInBounds_toArray, List.set_cons_zero, List.set_cons_succ]
              refine wpAnyH_take (i := 2) (v := ?_) rfl (by kernel_rfl) (by kernel_rfl) (by kernel_rfl) (fun _ _ _ h => h) (Or.inl ⟨by rfl, ?_⟩) hHeld ?_
              rotate_left 1
              · intro W hSw
                go_simp
                with_reducible rfl
              simp only [Act.put, List.getElem_toArray, List.getElem_cons_succ, List.getElem_cons_zero, List.setIfInBounds_toArray, List.set_cons_zero, List.set_cons_succ]
              refine wpAnyH_take (i := 3) (v := ?_) rfl (by kernel_rfl) (by kernel_rfl) (by kernel_rfl) (fun _ _ _ h => h) (Or.inl ⟨by rfl, ?_⟩) hHeld ?_
              rotate_left 1
              · intro W hSw
                go_simp
                with_reducible rfl
              simp only [Act.put, List.getElem_toArray, List.getElem_cons_succ, List.getElem_cons_zero, List.setIfInBounds_toArray, List.set_cons_zero, List.set_cons_succ]
              refine wpAnyH_take (i := 4) (v := ?_) rfl (by kernel_rfl) (by kernel_rfl) (by kernel_rfl) (fun _ _ _ h => h) (Or.inl ⟨by rfl, ?_⟩) hHeld ?_
              rotate_left 1
              · intro W hSw
                go_simp
                with_reducible rfl
              simp only [Act.put, List.getElem_toArray, List.getElem_cons_succ, List.getElem_cons_zero, List.setIfInBounds_toArray, List.set_cons_zero, List.set_cons_succ]
              refine wpAnyH_ready (rs := [5]) (by kernel_rfl) (by simp) ?_
              refine AllReadyH.cons rfl (fun K hK => ?_) AllReadyH.nil
              try simp only [List.getElem_toArray, List.getElem_cons_succ, List.getElem_cons_zero]
              go_simp
              go_at_call 80
              refine (HH2.out _).mono ?_
              rintro e w2 ⟨rfl, hb2⟩
              have hw2 : Below wr.heap.size wr w2 := z1.trans (hb2.mono z1.size)
              refine hK.out _ _ (HSS.out _ hw2) (fun hHeld => ?_)
              clear hK K
              try simp only [Act.put, List.getElem_toArray, List.getElem_cons_succ, List.getElem_cons_zero, List.setIfInBounds_toArray, List.set_cons_zero, List.set_cons_succ]
              refine wpAnyH_take (i := 6) (v := ?_) rfl (by kernel_rfl) (by kernel_rfl) (by kernel_rfl) (fun _ _ _ h => h) (Or.inl ⟨by rfl, ?_⟩) hHeld ?_
              rotate_left 1
              · intro W hSw
                go_simp
                with_reducible rfl
              simp only [Act.put, List.getElem_toArray, List.getElem_cons_succ, List.getElem_cons_zero, List.setIfInBounds_toArray, List.set_cons_zero, List.set_cons_succ]
              refine wpAnyH_take (i := 7) (v := ?_) rfl (by kernel_rfl) (by kernel_rfl) (by kernel_rfl) (fun _ _ _ h => h) (Or.inl ⟨by rfl, ?_⟩) hHeld ?_
              rotate_left 1
              · intro W hSw
                go_simp
                with_reducible rfl
              simp only [Act.put, List.getElem_toArray, List.getElem_cons_succ, List.getElem_cons_zero, List.setIfInBounds_toArray, List.set_cons_zero, List.set_cons_succ]
              refine wpAnyH_take (i := 8) (v := ?_) rfl (by kernel_rfl) (by kernel_rfl) (by kernel_rfl) (fun _ _ _ h => h) (Or.inl ⟨by rfl, ?_⟩) hHeld ?_
              rotate_left 1
              · intro W hSw
                go_simp
                with_reducible rfl
              simp only [Act.put, List.getElem_toArray, List.getElem_cons_succ, List.getElem_cons_zero, List.setIfInBounds_toArray, List.set_cons_zero, List.set_cons_succ]
              refine wpAnyH_take (i := 9) (v := ?_) rfl (by kernel_rfl) (by kernel_rfl) (by kernel_rfl) (fun _ _ _ h => h) (Or.inl ⟨by rfl, ?_⟩) hHeld ?_
              rotate_left 1
              · intro W hSw
                go_simp
                with_reducible rfl
              simp only [Act.put, List.getElem_toArray, List.getElem_cons_succ, List.getElem_cons_zero, List.setIfInBounds_toArray, List.set_cons_zero, List.set_cons_succ]
              refine wpAnyH_take (i := 10) (v := ?_) rfl (by kernel_rfl) (by kernel_rfl) (by kernel_rfl) (fun _ _ _ h => h) (Or.inl ⟨by rfl, ?_⟩) hHeld ?_
              rotate_left 1
              · intro W hSw
                go_simp
                with_reducible rfl
              simp only [Act.put, List.getElem_toArray, List.getElem_cons_succ, List.getElem_cons_zero, List.setIfInBounds_toArray, List.set_cons_zero, List.set_cons_succ]
              refine wpAnyH_take (i := 11) (v := ?_) rfl (by kernel_rfl) (by kernel_rfl) (by kernel_rfl) (fun _ _ _ h => h) (Or.inl ⟨by rfl, ?_⟩) hHeld ?_
              rotate_left 1
              · intro W hSw
                go_simp
                with_reducible rfl
              simp only [Act.put, List.getElem_toArray, List.getElem_cons_succ, List.getElem_cons_zero, List.setIfInBounds_toArray, List.set_cons_zero, List.set_cons_succ]
              refine wpAnyH_take (i := 12) (v := ?_) rfl (by kernel_rfl) (by kernel_rfl) (by kernel_rfl) (fun _ _ _ h => h) (Or.inl ⟨by rfl, ?_⟩) hHeld ?_
              rotate_left 1
              · intro W hSw
                go_simp
                with_reducible rfl
              simp only [Act.put, List.getElem_toArray, List.getElem_cons_succ, List.getElem_cons_zero, List.setIfInBounds_toArray, List.set_cons_zero, List.set_cons_succ]
              refine wpAnyH_take (i := 13) (v := ?_) rfl (by kernel_rfl) (by kernel_rfl) (by kernel_rfl) (fun _ _ _ h => h) (Or.inl ⟨by rfl, ?_⟩) hHeld ?_
              rotate_left 1
              · intro W hSw
                go_simp
                with_reducible rfl
              simp only [Act.put, List.getElem_toArray, List.getElem_cons_succ, List.getElem_cons_zero, List.setIfInBounds_toArray, List.set_cons_zero, List.set_cons_succ]
              refine wpAnyH_take (i := 14) (v := ?_) rfl (by kernel_rfl) (by kernel_rfl) (by kernel_rfl) (fun _ _ _ h => h) (Or.inl ⟨by rfl, ?_⟩) hHeld ?_
              rotate_left 1
              · intro W hSw
                go_simp
                with_reducible rfl
              simp only [Act.put, List.getElem_toArray, List.getElem_cons_succ, List.getElem_cons_zero, List.setIfInBounds_toArray, List.set_cons_zero, List.set_cons_succ]
              refine wpAnyH_done (by kernel_rfl) ?_ _
              go_wp2_with fail
              go_meet
              exact ⟨by rw [Q2.out]; simp, hw2⟩
        case rest =>
          obtain ⟨rfl, hbw⟩ := hcut
          have hbx2 := hbx.below hbw hbx.lt
          have hbW : Below w.heap.size w wc := hb.trans (hbw.mono hsz)
          clear hbx hb c0 c1 c2 c3 c4 hc z1 hbw
          by_cases hbad : (!b2 || decide (x = p)) = true
          · rw [hbad]
            have e : r = false := by
              rw [← He.out]
              simp only [Bool.or_eq_true, Bool.not_eq_true', decide_eq_true_eq] at hbad
              rcases hbad with h | h
              · simp [h]
              · have : met.contains x = true := (Hmet.out x).2 (.inl h)
                rw [if_pos (by rw [this]; rfl)]
            subst e
            clear hbad
            go_wp2
            go_ret
            exact ⟨rfl, hbW⟩
          · have hbad2 : (!b2 || decide (x = p)) = false := by simpa using hbad
            rw [hbad2]
            simp only [Bool.or_eq_false_iff, Bool.not_eq_false', decide_eq_false_iff_not] at hbad2
            obtain ⟨rfl, hxp⟩ := hbad2
            have Hxp := Lib.hid hxp
            clear hbad hxp
            go_wp2
            go_loopw [8] (fun j wr => ∃ q : Nat, q ≤ k ∧ j = .int .i64 q ∧ ¬ x ∈ l.take q ∧ Blk wr w.heap.size 64 #[.int .i64 f, .int .i64 m, vw, .slice PA np pc, vc] ∧ Below w.heap.size w wr) (fun j _ => k - (intOf j).toNat)
            case atStart => exact ⟨0, Nat.zero_le _, rfl, by simp, hbx2, hbW⟩
            case round =>
              clear hbx2 hbW
              obtain ⟨q, hq, rfl, hno, hbx, hb⟩ := hrel
              have Hno := Lib.hid hno
              clear hno
              have hlr2 := hl.keep (w' := wr) fun j hj _ => hb.block j hj
              by_cases hlq : q < k
              · have hlq2 : (q : Int) < (k : Int) := by omega
                have hq0 : (0 : Int) ≤ (q : Int) := by omega
                have hqn : (q : Int) < (n : Int) := by omega
                obtain ⟨ad3, y, ead, hy, hcy⟩ := at_I hlr2 (k := q) (by rw [Hn.out]; omega)
                obtain ⟨ad4, x', ead2, hx', hcx⟩ := at_I hlr2 (k := k) (by rw [Hn.out]; omega)
                cases ead
                cases ead2
                rw [Hx.out] at hx'
                cases hx'
                have htq := take_snoc' hy
                have Htq := Lib.hid htq
                have hyt : y ∈ l.take k := by
                  rw [List.mem_iff_getElem?]
                  exact ⟨q, by rw [List.getElem?_take_of_lt hlq]; exact hy⟩
                have Hyt := Lib.hid hyt
                clear htq hy hyt
                by_cases hyx : y = x
                · have e : r = false := by
                    rw [← He.out]
                    have : met.contains x = true := (Hmet.out x).2 (.inr (by rw [← hyx]; exact Hyt.out))
                    rw [if_pos (by rw [this]; rfl)]
                  subst e
                  have g1 : (y == x) = true := by simpa using hyx
                  clear hyx
                  go_wp2
                  go_quiet (fail)
                  go_wp2
                  go_ret
                  exact ⟨rfl, below_drewN hb⟩
                · have g1 : (y == x) = false := by simpa using hyx
                  have Hyx := Lib.hid hyx
                  clear hyx
                  go_wp2
                  go_quiet (fail)
                  go_wp2
                  have hfin : ¬ x ∈ l.take (q + 1) := by
                    rw [Htq.out, List.mem_append, List.mem_singleton]
                    rintro (h | h)
                    · exact Hno.out h
                    · exact Hyx.out h.symm
                  exact ⟨⟨q + 1, by omega, by go_num, hfin, hbx.drewN _, below_drewN hb⟩, by simp [intOf]; omega⟩
              · have hlq2 : ¬ (q : Int) < (k : Int) := by omega
                obtain rfl : q = k := by omega
                have hmx : met.contains x = false := by
                  rw [Bool.eq_false_iff]
                  intro h
                  rcases (Hmet.out x).1 h with h | h
                  · exact Hxp.out h
                  · exact Hno.out h
                have he2 : namesFrom np (x :: met) (l.drop (q + 1)) = r := by rw [← He.out, hmx]; rfl
                have hmet2 : ∀ z, (x :: met).contains z = true ↔ z = p ∨ z ∈ l.take (q + 1) := by
                  intro z
                  rw [Htk.out, List.mem_append, List.mem_singleton, List.contains_cons, Bool.or_eq_true, Hmet.out z, beq_iff_eq]
                  constructor
                  · rintro (h | h | h)
                    · exact .inr (.inr h)
                    · exact .inl h
                    · exact .inr (.inl h)
                  · rintro (h | h | h)
                    · exact .inr (.inl h)
                    · exact .inr (.inr h)
                    · exact .inl h
                have Hm2 := Lib.hid hmet2
                have He2 := Lib.hid he2
                clear hmx he2 hmet2
                go_wp2
                go_roundw
                case rel => exact ⟨q + 1, _, by omega, by go_num, Hm2.out, He2.out, hbx, hb⟩
                case measure => simp [intOf] <;> omega
      · have hk2 : ¬ (k : Int) < (n : Int) := by omega
        have e : r = true := by rw [← he, List.drop_of_length_le (by rw [Hn.out]; omega)]; rfl
        subst e
        clear he
        go_wp2
        go_ret
        exact ⟨rfl, hb⟩
end Go.Proofs.Ytgljmflcbdhigaa
