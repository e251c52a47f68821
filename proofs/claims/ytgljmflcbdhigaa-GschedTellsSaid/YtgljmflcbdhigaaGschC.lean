/- Who gets a tick: first, At, Donees. -/
import Derived.Test.YtgljmflcbdhigaaGschB
import Derived.Test.YtgljmflcbdhigaaOpen
set_option linter.unusedVariables false
set_option linter.unusedSimpArgs false
namespace Go.Proofs.Ytgljmflcbdhigaa
open Go.RowKit

theorem at_B {e B : Nat} {w : World} {A : Option Addr} {l : List Bool} (h : Row repB e B w A l) {k : Nat} (hk : k < l.length) : ∃ ad x, A = some ad ∧ l[k]? = some x ∧ w.cell? (ad.add k) = some (.bool x) := by
  obtain ⟨ad, cs, hA, _, _, hr, hc⟩ := h.at (List.getElem?_eq_getElem hk)
  have hr : cs = [.bool _] := hr
  subst hr
  have h0 := hc 0 _ rfl
  simp only [repB, Rep.flat, Nat.mul_one, Nat.add_zero] at h0
  exact ⟨ad, _, hA, List.getElem?_eq_getElem hk, h0⟩

def readyD (rs : List Bool) (p : Int) : Bool := decide (p < rs.length) && (rs[p.toNat]?).getD false
def firstP (rs : List Bool) : List Int → Int
  | [] => -1
  | p :: r => if readyD rs p then p else firstP rs r

set_option maxHeartbeats 1000000 in
theorem gfirst_any (B : Nat) (RA : Option Addr) (rc : Nat) (rs : List Bool) (A : Option Addr) (c : Nat) (l : List Int) (w : World) (hr : Row repB 4 B w RA rs) (hl : Row repI 3 B w A l) (hn : l.length ≤ 1000) (hrn : rs.length ≤ 1000) (hp : ∀ p ∈ l, 0 ≤ p) :
    Calls Try.prog 94 #[.slice RA rs.length rc, .slice A l.length c] w fun e w' => e = .returned (.int .i64 (firstP rs l)) ∧ w = w' := by
  obtain ⟨n, hn'⟩ : ∃ n, l.length = n := ⟨_, rfl⟩
  obtain ⟨m, hm'⟩ : ∃ n, rs.length = n := ⟨_, rfl⟩
  rw [hn'] at hn ⊢
  rw [hm'] at hrn ⊢
  have Hn := Lib.hid hn'
  have Hm := Lib.hid hm'
  have Hp := Lib.hid hp
  obtain ⟨r, hrr⟩ : ∃ r, firstP rs l = r := ⟨_, rfl⟩
  rw [hrr]
  have Hr := Lib.hid hrr
  clear hn' hm' hp hrr
  go_enter Try.func94, Try.ntmps94
  go_wp2
  go_loop [9] (fun j => ∃ k : Nat, k ≤ n ∧ j = .int .i64 k ∧ firstP rs (l.drop k) = r) (fun j => n - (intOf j).toNat)
  case atStart => exact ⟨0, Nat.zero_le _, rfl, Hr.out⟩
  case round =>
    clear Hr
    obtain ⟨k, hk, rfl, he⟩ := hrel
    by_cases hlt : k < n
    · have hk2 : (k : Int) < (n : Int) := by omega
      obtain ⟨ad, p, rfl, hx, hc⟩ := at_I hl (k := k) (by rw [Hn.out]; exact hlt)
      have hp0 := Hp.out p (List.mem_of_getElem? hx)
      obtain ⟨q, rfl⟩ : ∃ q : Nat, p = q := ⟨p.toNat, by omega⟩
      rw [drop_cons' hx, firstP] at he
      by_cases hq : q < m
      · have hq2 : (q : Int) < (m : Int) := by omega
        obtain ⟨ad2, b, rfl, hb, hc2⟩ := at_B hr (k := q) (by rw [Hm.out]; exact hq)
        have hrd : readyD rs q = b := by simp [readyD, hb]; rw [Hm.out]; simp [hq]
        rw [hrd] at he
        clear hx hb hrd
        cases b with
        | true =>
          have e : (q : Int) = r := by simpa using he
          have E := Lib.hid e
          clear he e
          go_wp2
          go_ret
          exact ⟨ret_i E.out, rfl⟩
        | false =>
          have e : firstP rs (l.drop (k + 1)) = r := by simpa using he
          have E := Lib.hid e
          clear he e
          go_wp2
          go_round
          case rel => exact ⟨k + 1, by omega, by go_num, E.out⟩
          case measure => simp [intOf] <;> omega
      · have hq2 : ¬ (q : Int) < (m : Int) := by omega
        have hrd : readyD rs q = false := by simp [readyD]; rw [Hm.out]; intro h; omega
        rw [hrd] at he
        have e : firstP rs (l.drop (k + 1)) = r := by simpa using he
        have E := Lib.hid e
        clear he e hx hrd
        go_wp2
        go_round
        case rel => exact ⟨k + 1, by omega, by go_num, E.out⟩
        case measure => simp [intOf] <;> omega
    · have hk2 : ¬ (k : Int) < (n : Int) := by omega
      have e : r = -1 := by rw [← he, List.drop_of_length_le (by rw [Hn.out]; omega)]; rfl
      have E := Lib.hid e
      clear he e
      go_wp2
      go_ret
      exact ⟨ret_i E.out.symm, rfl⟩

/-! ### none -/
theorem snone_nil (w : World) : Calls Try.prog 92 #[.pointer none] w fun e w' => e = .returned (.bool true) ∧ w = w' := by
  go_enter Try.func92, Try.ntmps92
  go_wp2
  go_ret
  exact ⟨rfl, rfl⟩
theorem snone_zero (S : Nat) (v : Value) (w : World) (hS : Blk w S 121 #[.pointer none, v]) : Calls Try.prog 92 #[.pointer (some ⟨S, 0, none⟩)] w fun e w' => e = .returned (.bool true) ∧ w = w' := by
  have c0 := hS.cell 0 rfl
  go_enter Try.func92, Try.ntmps92
  go_wp2
  go_ret
  exact ⟨rfl, rfl⟩
theorem snone_some (S T : Nat) (v : Value) (w : World) (hS : Blk w S 121 #[.pointer (some ⟨T, 0, none⟩), v]) : Calls Try.prog 92 #[.pointer (some ⟨S, 0, none⟩)] w fun e w' => e = .returned (.bool false) ∧ w = w' := by
  have c0 := hS.cell 0 rfl
  go_enter Try.func92, Try.ntmps92
  go_wp2
  go_ret
  exact ⟨rfl, rfl⟩

/-! ### At -/
set_option maxHeartbeats 1000000 in
theorem sat_nil (tick : Int) (v : Value) (w : World) : Calls Try.prog 42 #[.pointer none, .int .i64 tick, v] w fun e w' => e = .returned (.agg #[.int .i64 4, .int .i64 (-1), .int .i64 (-1)]) ∧ Below w.heap.size w w' := by
  have hq := (((Blk.new w 103 #[.int .i64 0, .int .i64 0, .int .i64 0]).set 0 (.int .i64 4)).set 1 (.int .i64 (-1))).set 2 (.int .i64 (-1))
  go_enter Try.func42, Try.ntmps42
  go_wp2_with fail
  refine (snone_nil _).mono ?_
  rintro e w1 ⟨rfl, rfl⟩
  go_wp2
  refine bodyPost_ret (v := .agg #[.int .i64 4, .int .i64 (-1), .int .i64 (-1)]) ?_ rfl ?_
  · simp [results, Try.results42, go_sem]
  · exact ⟨rfl, (Below.refl _ _).alloc (Nat.le_refl _) _⟩
set_option maxHeartbeats 1000000 in
theorem sat_zero (S : Nat) (u : Value) (tick : Int) (v : Value) (w : World) (hS : Blk w S 121 #[.pointer none, u]) : Calls Try.prog 42 #[.pointer (some ⟨S, 0, none⟩), .int .i64 tick, v] w fun e w' => e = .returned (.agg #[.int .i64 4, .int .i64 (-1), .int .i64 (-1)]) ∧ Below w.heap.size w w' := by
  go_enter Try.func42, Try.ntmps42
  go_wp2_with fail
  refine (snone_zero S u _ (hS.alloc _)).mono ?_
  rintro e w1 ⟨rfl, rfl⟩
  go_wp2
  refine bodyPost_ret (v := .agg #[.int .i64 4, .int .i64 (-1), .int .i64 (-1)]) ?_ rfl ?_
  · simp [results, Try.results42, go_sem]
  · exact ⟨rfl, (Below.refl _ _).alloc (Nat.le_refl _) _⟩

def donD (c : CfgD) (p : Int) : List Int := ((c.ps[p.toNat]?).map PartD.ds).getD []
def atD (c : CfgD) (tick : Int) (rs : List Bool) : Int × Int × Int :=
  if (c.tab.owner tick).2 = 0 then (4, -1, -1)
  else if (c.tab.owner tick).2 = 1 then (3, (c.tab.owner tick).1, -1)
  else if firstP rs [(c.tab.owner tick).1] = (c.tab.owner tick).1 then (0, (c.tab.owner tick).1, (c.tab.owner tick).1)
  else if firstP rs (donD c (c.tab.owner tick).1) ≠ -1 then (1, (c.tab.owner tick).1, firstP rs (donD c (c.tab.owner tick).1))
  else (2, (c.tab.owner tick).1, -1)

theorem winFrom_has (f : Int) (np : Nat) : ∀ (l : List WinD) (en : Int) (k : Nat), winFrom f np en k l < 0 → ∀ x ∈ l, hasD np x.part = true
  | [], en, k, _ => by simp
  | y :: r, en, k, h => by
    unfold winFrom at h
    by_cases hb : winBad f np en y = true
    · rw [if_pos hb] at h; omega
    · rw [if_neg hb] at h
      intro x hx
      rcases List.mem_cons.1 hx with rfl | hx
      · simp [winBad] at hb; exact hb.2
      · exact winFrom_has f np r _ _ h x hx
theorem namesFrom_has (n : Nat) : ∀ (l met : List Int), namesFrom n met l = true → ∀ q ∈ l, hasD n q = true
  | [], met, _ => by simp
  | y :: r, met, h => by
    unfold namesFrom at h
    split at h
    · cases h
    · rename_i hb
      intro q hq
      rcases List.mem_cons.1 hq with rfl | hq
      · simp at hb; exact hb.2
      · exact namesFrom_has n r _ h q hq
theorem check_owner {c : CfgD} (h : c.check.1 = 0) (tick : Int) : (c.tab.owner tick = (-1, 0)) ∨ (((c.tab.owner tick).2 = 1 ∨ (c.tab.owner tick).2 = 2) ∧ 0 ≤ (c.tab.owner tick).1 ∧ (c.tab.owner tick).1 < c.ps.length) := by
  obtain ⟨_, h4, _⟩ := (check_ok c).1 h
  have hw : ∀ x ∈ c.ws, hasD c.ps.length x.part = true := by
    unfold winE at h4
    by_cases q1 : 32 < c.ws.length
    · rw [if_pos q1] at h4; simp at h4
    · rw [if_neg q1] at h4
      by_cases q2 : winFrom c.frame c.ps.length 0 0 c.ws < 0
      · exact winFrom_has _ _ _ _ _ q2
      · rw [if_neg q2] at h4; simp at h4
  unfold TabD.owner
  cases ho : winAt c.tab.ws (tick % c.tab.f) with
  | none => exact .inl rfl
  | some x =>
    have := hw x (List.mem_of_find?_eq_some ho)
    simp only [hasD, Bool.and_eq_true, decide_eq_true_eq] at this
    right
    simp only
    split
    · exact ⟨.inl rfl, this⟩
    · exact ⟨.inr rfl, this⟩
theorem check_donees {c : CfgD} (h : c.check.1 = 0) {i : Nat} {p : PartD} (hp : c.ps[i]? = some p) : ∀ q ∈ p.ds, 0 ≤ q ∧ q < c.ps.length := by
  obtain ⟨_, _, h4, _⟩ := (check_ok c).1 h
  have := (h4 i p hp).2
  simp only [namesD, Bool.and_eq_true] at this
  intro q hq
  have := namesFrom_has _ _ _ this.2 q hq
  simpa [hasD] using this

set_option maxRecDepth 100000 in
set_option maxHeartbeats 2000000 in
theorem sat_any (B S : Nat) (c : CfgD) (T : Nat) (DA : Option Addr) (dc : Nat) (tick : Int) (RA : Option Addr) (rc : Nat) (rs : List Bool) (w : World) (h : SchR B w S c T DA dc) (hk : c.check.1 = 0) (hl : c.light = true) (hr : Row repB 4 B w RA rs) (hrn : rs.length ≤ 1000) (hB : B ≤ w.heap.size) :
    Calls Try.prog 42 #[.pointer (some ⟨S, 0, none⟩), .int .i64 tick, .slice RA rs.length rc] w fun e w' => e = .returned (.agg #[.int .i64 (atD c tick rs).1, .int .i64 (atD c tick rs).2.1, .int .i64 (atD c tick rs).2.2]) ∧ Below w.heap.size w w' := by
  have hA : ∀ o, Below w.heap.size w (w.alloc o) := fun o => (Below.refl _ _).alloc (Nat.le_refl _) o
  obtain ⟨hok, _⟩ := check_tab hk
  have hco := check_owner hk tick
  have kn := fun o => snone_some S T (.slice DA c.ps.length dc) (w.alloc o) (h.blk.alloc o)
  have ko := fun o => owner_any B T c.tab tick (w.alloc o) (h.tab.below (hA o) (Nat.le_refl _)) hok (Nat.le_trans hB (hA o).size)
  obtain ⟨p, kd, hpk⟩ : ∃ p k, c.tab.owner tick = (p, k) := ⟨_, _, rfl⟩
  rw [hpk] at ko hco
  obtain ⟨r1, r2, r3, hres⟩ : ∃ r1 r2 r3, atD c tick rs = (r1, r2, r3) := ⟨_, _, _, rfl⟩
  rw [hres]
  unfold atD at hres
  rw [hpk] at hres
  simp only at hco hres ko
  obtain ⟨m, hm⟩ : ∃ n, rs.length = n := ⟨_, rfl⟩
  obtain ⟨n, hn⟩ : ∃ n, c.ps.length = n := ⟨_, rfl⟩
  have k1 := fun (W : World) (hW : Below w.heap.size w W) (hp : 0 ≤ p) (A : Option Addr) (hA : Row repI 3 W.heap.size W A [p]) => gfirst_any W.heap.size RA rc rs A 1 [p] W ((hr.keep fun j hj _ => hW.block j hj).up (Nat.le_trans hB hW.size)) hA (by simp) hrn (by simpa using hp)
  have k2 := fun (W : World) (hW : Below w.heap.size w W) (i : Nat) (pt : PartD) (hpt : c.ps[i]? = some pt) (A : Option Addr) (cc : Nat) (hs : Slc repI 3 B W pt.ds A cc) (hlen : pt.ds.length ≤ 1000) => gfirst_any B RA rc rs A cc pt.ds W (hr.keep fun j hj _ => hW.block j hj) hs.row hlen hrn (fun q hq => (check_donees hk hpt q hq).1)
  simp only [CfgD.light, Bool.and_eq_true, decide_eq_true_eq, List.all_eq_true] at hl
  have hblk := h.blk
  have hds := h.ds
  rw [hm] at k1 k2 ⊢
  rw [hn] at hco hblk
  have s0 := hblk.cell 0 rfl
  have s1 := hblk.cell 1 rfl
  have lS := hblk.lt
  have KN := Lib.hid kn
  have KO := Lib.hid ko
  have K1 := Lib.hid k1
  have K2 := Lib.hid k2
  have Hres := Lib.hid hres
  have Hl := Lib.hid hl
  have Hn := Lib.hid hn
  clear kn ko k1 k2 hres hl hm hn hpk h hok hk
  go_enter Try.func42, Try.ntmps42
  go_wp2_with fail
  refine (KN.out _).mono ?_
  rintro e w1 ⟨rfl, rfl⟩
  go_wp2_with fail
  refine (KO.out _).mono ?_
  rintro e w1 ⟨rfl, hb⟩
  have hZ := (Blk.new w 103 #[.int .i64 0, .int .i64 0, .int .i64 0]).below hb (by simp)
  have hb1 := (hA (.cells #[.int .i64 0, .int .i64 0, .int .i64 0] 103)).trans (hb.mono (hA _).size)
  clear hb KN KO
  have z0 := hZ.cell 0 rfl
  have z1 := hZ.cell 1 rfl
  have z2 := hZ.cell 2 rfl
  have f0 := hZ.free 0
  have f1 := hZ.free 1
  have f2 := hZ.free 2
  have hfin : ∀ (u0 u1 u2 : Value) (W : World), Blk W w.heap.size 103 #[.int .i64 0, .int .i64 0, .int .i64 0] → Below w.heap.size w W →
      (((W.setCell ⟨w.heap.size, 0, none⟩ u0).setCell ⟨w.heap.size, 1, none⟩ u1).setCell ⟨w.heap.size, 2, none⟩ u2).cell? ⟨w.heap.size, 0, none⟩ = some u0 ∧ (((W.setCell ⟨w.heap.size, 0, none⟩ u0).setCell ⟨w.heap.size, 1, none⟩ u1).setCell ⟨w.heap.size, 2, none⟩ u2).cell? ⟨w.heap.size, 1, none⟩ = some u1 ∧
      (((W.setCell ⟨w.heap.size, 0, none⟩ u0).setCell ⟨w.heap.size, 1, none⟩ u1).setCell ⟨w.heap.size, 2, none⟩ u2).cell? ⟨w.heap.size, 2, none⟩ = some u2 ∧ Below w.heap.size w (((W.setCell ⟨w.heap.size, 0, none⟩ u0).setCell ⟨w.heap.size, 1, none⟩ u1).setCell ⟨w.heap.size, 2, none⟩ u2) := fun u0 u1 u2 W hW hb => by
    have hq := ((hW.set 0 u0).set 1 u1).set 2 u2
    exact ⟨hq.cell 0 rfl, hq.cell 1 rfl, hq.cell 2 rfl, ((hb.setCell (p := ⟨w.heap.size, 0, none⟩) (Nat.le_refl _) _).setCell (p := ⟨w.heap.size, 1, none⟩) (Nat.le_refl _) _).setCell (p := ⟨w.heap.size, 2, none⟩) (Nat.le_refl _) _⟩
  have Hfin := Lib.hid hfin
  clear hfin
  rcases hco with hco | ⟨hkd, hp0, hp1⟩
  · injection hco with e1 e2
    subst e1 e2
    have e : ((4 : Int), (-1 : Int), (-1 : Int)) = (r1, r2, r3) := by have := Hres.out; simpa using this
    injection e with e1 e2
    injection e2 with e2 e3
    subst e1 e2 e3
    obtain ⟨p0, p1, p2, hb2⟩ := Hfin.out (.int .i64 4) (.int .i64 (-1)) (.int .i64 (-1)) w1 hZ hb1
    clear Hres
    go_wp2
    refine bodyPost_ret (v := .agg #[.int .i64 4, .int .i64 (-1), .int .i64 (-1)]) ?_ rfl ?_
    · simp [results, Try.results42, go_sem, p0, p1, p2]
    · exact ⟨rfl, hb2⟩
  rcases hkd with rfl | rfl
  · have e : ((3 : Int), p, (-1 : Int)) = (r1, r2, r3) := by have := Hres.out; simpa using this
    injection e with e1 e2
    injection e2 with e2 e3
    subst e1 e2 e3
    obtain ⟨p0, p1, p2, hb2⟩ := Hfin.out (.int .i64 3) (.int .i64 p) (.int .i64 (-1)) w1 hZ hb1
    clear Hres
    go_wp2
    refine bodyPost_ret (v := .agg #[.int .i64 3, .int .i64 p, .int .i64 (-1)]) ?_ rfl ?_
    · simp [results, Try.results42, go_sem, p0, p1, p2]
    · exact ⟨rfl, hb2⟩
  have hres2 : (if firstP rs [p] = p then (0, p, p) else if firstP rs (donD c p) ≠ -1 then (1, p, firstP rs (donD c p)) else (2, p, -1)) = (r1, r2, r3) := by have := Hres.out; simpa using this
  have Hres2 := Lib.hid hres2
  clear hres2 Hres
  go_wp2_with fail
  refine (K1.out _ (hb1.alloc hb1.size _) hp0 _ (Row.ints _ [p] _ _ _ (by simp))).mono ?_
  rintro e w2 ⟨rfl, rfl⟩
  generalize hW : World.alloc _ _ = W2
  have hb2 : Below w.heap.size w W2 := by rw [← hW]; exact hb1.alloc hb1.size _
  have hZ2 : Blk W2 w.heap.size 103 #[.int .i64 0, .int .i64 0, .int .i64 0] := by rw [← hW]; exact hZ.alloc _
  clear hW hZ z0 z1 z2 f0 f1 f2 hb1
  have z0 := hZ2.cell 0 rfl
  have z1 := hZ2.cell 1 rfl
  have z2 := hZ2.cell 2 rfl
  have f0 := hZ2.free 0
  have f1 := hZ2.free 1
  have f2 := hZ2.free 2
  obtain ⟨x1, hx1⟩ : ∃ x, firstP rs [p] = x := ⟨_, rfl⟩
  have hr3 := Hres2.out
  rw [hx1] at hr3
  rw [hx1]
  clear hx1 Hres2 K1
  by_cases q1 : x1 = p
  · subst q1
    have e : ((0 : Int), x1, x1) = (r1, r2, r3) := by simpa using hr3
    injection e with e1 e2
    injection e2 with e2 e3
    subst e1 e2 e3
    obtain ⟨p0, p1, p2, hb3⟩ := Hfin.out (.int .i64 0) (.int .i64 x1) (.int .i64 x1) W2 hZ2 hb2
    clear hr3
    go_wp2
    refine bodyPost_ret (v := .agg #[.int .i64 0, .int .i64 x1, .int .i64 x1]) ?_ rfl ?_
    · simp [results, Try.results42, go_sem, p0, p1, p2]
    · exact ⟨rfl, hb3⟩
  have q1' : (x1 == p) = false := by simpa using q1
  rw [if_neg q1] at hr3
  obtain ⟨i, rfl⟩ : ∃ i : Nat, p = i := ⟨p.toNat, by omega⟩
  have hin : i < n := by omega
  obtain ⟨pt, hpt⟩ : ∃ x, c.ps[i]? = some x := ⟨_, List.getElem?_eq_getElem (by rw [Hn.out]; exact hin)⟩
  have hpf := Hl.out.2 pt (List.mem_of_getElem? hpt)
  simp only [PartD.few, Bool.and_eq_true, decide_eq_true_eq] at hpf
  have hdd : donD c i = pt.ds := by simp [donD, hpt]
  rw [hdd] at hr3
  obtain ⟨ad, cs, rfl, _, _, ⟨DA2, dc2, rfl, d1, d2, d3, d4⟩, hcd⟩ := (hds.row.keep (w' := W2) fun j hj _ => hb2.block j hj).at (i := i) (x := pt.ds) (by rw [List.getElem?_map, hpt]; rfl)
  have g0 : W2.cell? (ad.add i) = some (.slice DA2 pt.ds.length dc2) := by have := hcd 0 _ rfl; simpa [repD, Rep.slc] using this
  have kk := K2.out W2 hb2 i pt hpt DA2 dc2 ⟨d1, d2, d3, d4⟩ (by omega)
  obtain ⟨x2, hx2⟩ : ∃ x, firstP rs pt.ds = x := ⟨_, rfl⟩
  rw [hx2] at hr3 kk
  have KK := Lib.hid kk
  have Hr3 := Lib.hid hr3
  have hS2 := hblk.below hb2 hblk.lt
  have t1 := hS2.cell 1 rfl
  have i2 : (i : Int) < (n : Int) := by omega
  clear hr3 kk hx2 hcd hpt K2 q1 hdd s0 s1
  go_wp2_with fail
  refine KK.out.mono ?_
  rintro e w3 ⟨rfl, rfl⟩
  by_cases q2 : x2 = -1
  · subst q2
    have e : ((2 : Int), (i : Int), (-1 : Int)) = (r1, r2, r3) := by have := Hr3.out; simpa using this
    injection e with e1 e2
    injection e2 with e2 e3
    subst e1 e2 e3
    obtain ⟨p0, p1, p2, hb3⟩ := Hfin.out (.int .i64 2) (.int .i64 i) (.int .i64 (-1)) W2 hZ2 hb2
    go_wp2
    refine bodyPost_ret (v := .agg #[.int .i64 2, .int .i64 i, .int .i64 (-1)]) ?_ rfl ?_
    · simp [results, Try.results42, go_sem, p0, p1, p2]
    · exact ⟨rfl, hb3⟩
  · have q2' : (x2 != -1) = true := by simpa using q2
    have e : ((1 : Int), (i : Int), x2) = (r1, r2, r3) := by have := Hr3.out; simpa [q2] using this
    injection e with e1 e2
    injection e2 with e2 e3
    subst e1 e2 e3
    obtain ⟨p0, p1, p2, hb3⟩ := Hfin.out (.int .i64 1) (.int .i64 i) (.int .i64 x2) W2 hZ2 hb2
    clear q2 Hr3
    go_wp2
    refine bodyPost_ret (v := .agg #[.int .i64 1, .int .i64 i, .int .i64 x2]) ?_ rfl ?_
    · simp [results, Try.results42, go_sem, p0, p1, p2]
    · exact ⟨rfl, hb3⟩
end Go.Proofs.Ytgljmflcbdhigaa
