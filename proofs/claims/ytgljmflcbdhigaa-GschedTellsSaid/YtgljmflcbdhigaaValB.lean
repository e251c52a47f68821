/- The looks of valid: partitions, channels. -/
import Derived.Test.YtgljmflcbdhigaaValA
set_option linter.unusedVariables false
set_option linter.unusedSimpArgs false
namespace Go.Proofs.Ytgljmflcbdhigaa
open Go.RowKit

/-! ### partitions -/
def partsFrom (n : Nat) : Nat → List PartD → Int × Int
  | _, [] => (0, 0)
  | k, p :: r => if p.rights ≠ 0 then (p.rights, k) else if namesD n k p.ds = false then (24, k) else partsFrom n (k + 1) r

set_option maxHeartbeats 1000000 in
set_option maxRecDepth 100000 in
theorem parts1_any (B : Nat) (PA : Option Addr) (pc : Nat) (l : List PartD) (G : Nat) (f m : Int) (vw vc : Value) (w : World) (hl : Row tO.rep 52 B w PA l) (hn : l.length ≤ 1000) (hfew : ∀ p ∈ l, p.few = true) (hB : B ≤ w.heap.size)
    (hbx : Blk w G 71 #[.int .i64 f, .int .i64 m, vw, .slice PA l.length pc, vc]) (h1 : vw.oneCell' = true) (h2 : vc.oneCell' = true) :
    Calls Try.prog 122 #[.pointer (some ⟨G, 0, none⟩)] w fun e w' => e = .returned (.tuple #[.int .i64 (partsFrom l.length 0 l).1, .int .i64 (partsFrom l.length 0 l).2]) ∧ Below w.heap.size w w' := by
  obtain ⟨n, hn'⟩ : ∃ n, l.length = n := ⟨_, rfl⟩
  rw [hn'] at hbx hn ⊢
  have Hn := Lib.hid hn'
  clear hn'
  obtain ⟨r1, r2, hr⟩ : ∃ r1 r2, partsFrom n 0 l = (r1, r2) := ⟨_, _, rfl⟩
  rw [hr]
  have Hr := Lib.hid hr
  have Hfew := Lib.hid hfew
  clear hr hfew
  have c3 := hbx.cell 3 rfl
  go_enter Try.func122, Try.ntmps122
  go_wp2
  clear c3
  go_loopw [9] (fun j wr => ∃ (k : Nat), k ≤ n ∧ j = .int .i64 k ∧ partsFrom n k (l.drop k) = (r1, r2) ∧ Below w.heap.size w wr) (fun j _ => n - (intOf j).toNat)
  case atStart => exact ⟨0, Nat.zero_le _, rfl, Hr.out, Below.refl _ _⟩
  case round =>
    clear Hr
    obtain ⟨k, hk, rfl, he, hb⟩ := hrel
    by_cases hlt : k < n
    · have hk2 : (k : Int) < (n : Int) := by omega
      have hbx1 := hbx.below hb hbx.lt
      have hlr : Row tO.rep 52 B wr PA l := hl.keep fun j hj _ => hb.block j hj
      obtain ⟨ad, p, TA, tc, SA, sc, DA, dc, rfl, hbk, hx, c0, c1, c2, c3, c4, c5, s1, s2, s3⟩ := at_P hlr (k := k) (by rw [Hn.out]; omega)
      rw [drop_cons' hx, partsFrom] at he
      have hpf := Hfew.out p (List.mem_of_getElem? hx)
      simp only [PartD.few, Bool.and_eq_true, decide_eq_true_eq] at hpf
      clear hx hlr
      have hbA : ∀ o, Below wr.heap.size wr (wr.alloc o) := fun o => (Below.refl _ _).alloc (Nat.le_refl _) _
      have hrg := fun o => rights_any B TA SA tc sc (.slice DA p.ds.length dc) p (wr.alloc o) (by have := hb.size; have := (hbA o).size; omega) rfl (s1.row.keep fun j hj _ => (hbA o).block j hj) (s2.row.keep fun j hj _ => (hbA o).block j hj) (by omega) (by omega)
      have hnm := fun W (hW : Below wr.heap.size wr W) => names_any B f m vw vc (some ad) n pc k DA dc p.ds W h1 h2 (s3.row.keep fun j hj _ => hW.block j hj) (by omega) (by have := hb.size; have := hW.size; omega)
      obtain ⟨e1, he1⟩ : ∃ e, p.rights = e := ⟨_, rfl⟩
      obtain ⟨b1, hb1⟩ : ∃ b, namesD n k p.ds = b := ⟨_, rfl⟩
      rw [he1] at hrg he
      rw [hb1] at hnm he
      clear he1 hb1 s1 s2 s3
      have He := Lib.hid he
      have HR := Lib.hid hrg
      have HN := Lib.hid hnm
      clear he hrg hnm
      have hsz := hb.size
      go_wp2_with fail
      refine (HR.out _).mono ?_
      rintro e w1 ⟨rfl, hbr⟩
      have hb1 : Below wr.heap.size wr w1 := (hbA _).trans (hbr.mono (hbA _).size)
      have hb2 : Below w.heap.size w w1 := hb.trans (hb1.mono hsz)
      have hbx2 := hbx1.below hb1 hbx1.lt
      have hpx := (Blk.new wr 52 #[.slice TA p.ts.length tc, .slice SA p.ss.length sc, .slice DA p.ds.length dc, .int .u8 p.a0, .int .u8 p.a1, .int .u8 p.a2]).below hbr (by simp)
      clear c0 c1 c2 c3 c4 c5 hbr
      by_cases h0 : e1 = 0
      · subst h0
        have d2 := hpx.cell 2 rfl
        have g0 := hbx2.cell 0 rfl
        have g1 := hbx2.cell 1 rfl
        have g2 := hbx2.cell 2 rfl
        have g3 := hbx2.cell 3 rfl
        have g4 := hbx2.cell 4 rfl
        go_wp2_with fail
        refine (HN.out _ hb1).mono ?_
        rintro e w2 ⟨rfl, hb3⟩
        have hb4 : Below w.heap.size w w2 := hb2.trans (hb3.mono hb2.size)
        clear d2 g0 g1 g2 g3 g4
        cases b1 with
        | false =>
          have e : ((24 : Int), (k : Int)) = (r1, r2) := by have := He.out; simpa using this
          injection e with e1 e2
          have E1 := Lib.hid e1
          have E2 := Lib.hid e2
          clear e1 e2
          go_wp2
          go_ret2
          exact ⟨ret_ei E1.out E2.out, hb4⟩
        | true =>
          go_wp2
          go_roundw
          case rel => exact ⟨k + 1, by omega, by go_num, by have := He.out; simpa using this, hb4⟩
          case measure => simp [intOf] <;> omega
      · have h0' : (e1 != 0) = true := by simpa using h0
        have e : (e1, (k : Int)) = (r1, r2) := by have := He.out; simpa [h0] using this
        injection e with e1' e2
        have E1 := Lib.hid e1'
        have E2 := Lib.hid e2
        clear e1' e2
        have H0 := Lib.hid h0
        clear h0
        go_wp2
        go_ret2
        exact ⟨ret_ei E1.out E2.out, hb2⟩
    · have hk2 : ¬ (k : Int) < (n : Int) := by omega
      have e : (r1, r2) = ((0 : Int), (0 : Int)) := by rw [← he, List.drop_of_length_le (by rw [Hn.out]; omega)]; rfl
      injection e with e1 e2
      subst e1 e2
      clear he
      go_wp2
      go_ret2
      exact ⟨rfl, hb⟩

/-! ### channels -/
def chanOk (n : Nat) (h : ChanD) : Bool := namesD n h.frm [h.to_] && inD h.size 1 (if h.queue then 16 else 1000)
def chanE (n : Nat) (l : List ChanD) : Int × Int := if 8 < l.length then (25, 8) else if indexD (fun h => !chanOk n h) 0 l < 0 then (0, 0) else (25, indexD (fun h => !chanOk n h) 0 l)

set_option maxHeartbeats 1000000 in
theorem joins_any (f m : Int) (vw vc : Value) (PA : Option Addr) (np pc : Nat) (h : ChanD) (w : World) (h1 : vw.oneCell' = true) (h2 : vc.oneCell' = true) :
    Calls Try.prog 128 #[.agg #[.int .i64 f, .int .i64 m, vw, .slice PA np pc, vc], .agg #[.bool h.queue, .int .i64 h.frm, .int .i64 h.to_, .int .i64 h.size]] w fun e w' => e = .returned (.bool (chanOk np h)) ∧ Below w.heap.size w w' := by
  obtain ⟨q, a, b, s⟩ := h
  unfold chanOk
  simp only
  obtain ⟨b1, hb1⟩ : ∃ e, namesD np a [b] = e := ⟨_, rfl⟩
  have hnm := fun (W : World) (A : Option Addr) (hl : Row repI 3 W.heap.size W A [b]) => names_any W.heap.size f m vw vc PA np pc a A 1 [b] W h1 h2 hl (by simp) (Nat.le_refl _)
  rw [hb1] at hnm ⊢
  have HN := Lib.hid hnm
  clear hnm hb1
  cases q with
  | true =>
    obtain ⟨b2, hb2⟩ : ∃ e, inD s 1 (if true then 16 else 1000) = e := ⟨_, rfl⟩
    have hin := fun W => within_is s 1 16 b2 hb2 W
    rw [hb2]
    have HI := Lib.hid hin
    clear hin hb2
    go_enter Try.func128, Try.ntmps128
    go_wp2_with fail
    refine (HN.out _ _ (Row.ints _ [b] _ _ _ (by simp))).mono ?_
    rintro e w1 ⟨rfl, hb⟩
    have hbA : Below w.heap.size w (((w.alloc (.cells #[.int .i64 f, .int .i64 m, vw, .slice PA np pc, vc] 71)).alloc (.cells #[.bool true, .int .i64 a, .int .i64 b, .int .i64 s] 157)).alloc (.cells ([b].map (Value.int .i64)).toArray 3)) := (((Below.refl _ _).alloc (Nat.le_refl _) _).alloc (by simp) _).alloc (by simp <;> omega) _
    have hb1 := hbA.trans (hb.mono hbA.size)
    have hbx := (((Blk.new' (w.alloc (.cells #[.int .i64 f, .int .i64 m, vw, .slice PA np pc, vc] 71)) (w.heap.size + 1) 157 #[.bool true, .int .i64 a, .int .i64 b, .int .i64 s] (by simp)).alloc (.cells ([b].map (Value.int .i64)).toArray 3)).below hb (by simp <;> omega))
    have c3 := hbx.cell 3 rfl
    cases b1 with
    | false =>
      go_wp2
      go_ret
      exact ⟨ret_b (by simp), hb1⟩
    | true =>
      go_wp2_with fail
      refine (HI.out _).mono ?_
      rintro e w2 ⟨rfl, rfl⟩
      go_wp2
      go_ret
      exact ⟨ret_b (by simp), hb1⟩
  | false =>
    obtain ⟨b2, hb2⟩ : ∃ e, inD s 1 (if false = true then 16 else 1000) = e := ⟨_, rfl⟩
    have hin := fun W => within_is s 1 1000 b2 hb2 W
    rw [hb2]
    have HI := Lib.hid hin
    clear hin hb2
    go_enter Try.func128, Try.ntmps128
    go_wp2_with fail
    refine (HN.out _ _ (Row.ints _ [b] _ _ _ (by simp))).mono ?_
    rintro e w1 ⟨rfl, hb⟩
    have hbA : Below w.heap.size w (((w.alloc (.cells #[.int .i64 f, .int .i64 m, vw, .slice PA np pc, vc] 71)).alloc (.cells #[.bool false, .int .i64 a, .int .i64 b, .int .i64 s] 157)).alloc (.cells ([b].map (Value.int .i64)).toArray 3)) := (((Below.refl _ _).alloc (Nat.le_refl _) _).alloc (by simp) _).alloc (by simp <;> omega) _
    have hb1 := hbA.trans (hb.mono hbA.size)
    have hbx := (((Blk.new' (w.alloc (.cells #[.int .i64 f, .int .i64 m, vw, .slice PA np pc, vc] 71)) (w.heap.size + 1) 157 #[.bool false, .int .i64 a, .int .i64 b, .int .i64 s] (by simp)).alloc (.cells ([b].map (Value.int .i64)).toArray 3)).below hb (by simp <;> omega))
    have c3 := hbx.cell 3 rfl
    cases b1 with
    | false =>
      go_wp2
      go_ret
      exact ⟨ret_b (by simp), hb1⟩
    | true =>
      go_wp2_with fail
      refine (HI.out _).mono ?_
      rintro e w2 ⟨rfl, rfl⟩
      go_wp2
      go_ret
      exact ⟨ret_b (by simp), hb1⟩

set_option maxRecDepth 100000 in
theorem chan11_any (G : Nat) (f m : Int) (vw vc : Value) (PA : Option Addr) (np pc : Nat) (h : ChanD) (w : World) (hbx : Blk w G 71 #[.int .i64 f, .int .i64 m, vw, .slice PA np pc, vc]) (h1 : vw.oneCell' = true) (h2 : vc.oneCell' = true) :
    Calls Try.prog 127 #[.agg #[.bool h.queue, .int .i64 h.frm, .int .i64 h.to_, .int .i64 h.size], .pointer (some ⟨G, 0, none⟩)] w fun e w' => e = .returned (.bool (!chanOk np h)) ∧ Below w.heap.size w w' := by
  have g0 := hbx.cell 0 rfl
  have g1 := hbx.cell 1 rfl
  have g2 := hbx.cell 2 rfl
  have g3 := hbx.cell 3 rfl
  have g4 := hbx.cell 4 rfl
  have lG := hbx.lt
  go_enter Try.func127, Try.ntmps127
  go_wp2_with fail
  refine (joins_any f m vw vc PA np pc h _ h1 h2).mono ?_
  rintro e w1 ⟨rfl, hb⟩
  have hbA : Below w.heap.size w (w.alloc (.cells #[.bool h.queue, .int .i64 h.frm, .int .i64 h.to_, .int .i64 h.size] 157)) := (Below.refl _ _).alloc (Nat.le_refl _) _
  clear g0 g1 g2 g3 g4
  go_wp2
  go_ret
  exact ⟨rfl, hbA.trans (hb.mono hbA.size)⟩

set_option maxHeartbeats 1000000 in
theorem indexChan_any (B : Nat) (A : Option Addr) (c : Nat) (l : List ChanD) (G : Nat) (f m : Int) (vw vc : Value) (PA : Option Addr) (np pc : Nat) (w : World) (hl : Row repC 157 B w A l) (hn : l.length ≤ 1000)
    (hbx : Blk w G 71 #[.int .i64 f, .int .i64 m, vw, .slice PA np pc, vc]) (h1 : vw.oneCell' = true) (h2 : vc.oneCell' = true) :
    Calls Try.prog 126 #[.slice A l.length c, .func (.func 127) #[] #[.pointer (some ⟨G, 0, none⟩)]] w fun e w' => e = .returned (.int .i64 (indexD (fun h => !chanOk np h) 0 l)) ∧ Below w.heap.size w w' := by
  obtain ⟨n, hn'⟩ : ∃ n, l.length = n := ⟨_, rfl⟩
  rw [hn']
  have Hn := Lib.hid hn'
  rw [hn'] at hn
  clear hn'
  generalize hr : indexD (fun h => !chanOk np h) 0 l = r
  have Hr := Lib.hid hr
  clear hr
  go_enter Try.func126, Try.ntmps126
  go_wp2
  go_loopw [8] (fun j wr => ∃ k : Nat, k ≤ n ∧ j = .int .i64 k ∧ indexD (fun h => !chanOk np h) k (l.drop k) = r ∧ Below w.heap.size w wr) (fun j _ => n - (intOf j).toNat)
  case atStart => exact ⟨0, Nat.zero_le _, rfl, Hr.out, Below.refl _ _⟩
  case round =>
    obtain ⟨k, hk, rfl, he, hb⟩ := hrel
    by_cases hlt : k < n
    · have hk2 : (k : Int) < (n : Int) := by omega
      obtain ⟨ad, x, rfl, hbk, hx, h0, h1', h2', h3⟩ := at_C (hl.keep fun j hj _ => hb.block j hj) (k := k) (by rw [Hn.out]; omega)
      rw [drop_cons' hx, indexD] at he
      have hsz := hb.size
      have hcall := chan11_any G f m vw vc PA np pc x wr (hbx.below hb hbx.lt) h1 h2
      obtain ⟨rt, hrt⟩ : ∃ rt, (!chanOk np x) = rt := ⟨_, rfl⟩
      rw [hrt] at he hcall
      have He := Lib.hid he
      have HC := Lib.hid hcall
      clear he hx hrt hcall
      go_wp2_with fail
      refine HC.out.mono ?_
      rintro e w1 ⟨rfl, hb1⟩
      have hb2 : Below w.heap.size w w1 := hb.trans (hb1.mono hsz)
      clear h0 h1' h2' h3
      cases rt with
      | true =>
        go_wp2
        go_ret
        exact ⟨ret_i (by have := He.out; simpa using this), hb2⟩
      | false =>
        go_wp2
        go_roundw
        case rel => exact ⟨k + 1, by omega, by go_num, by have := He.out; simpa using this, hb2⟩
        case measure => simp [intOf] <;> omega
    · have hk2 : ¬ (k : Int) < (n : Int) := by omega
      have e : r = -1 := by rw [← he, List.drop_of_length_le (by rw [Hn.out]; omega)]; rfl
      have E := Lib.hid e
      clear he e
      go_wp2
      go_ret
      exact ⟨ret_i E.out.symm, hb⟩

set_option maxHeartbeats 1000000 in
theorem channels1_any (B : Nat) (A : Option Addr) (c : Nat) (l : List ChanD) (G : Nat) (f m : Int) (vw : Value) (PA : Option Addr) (np pc : Nat) (w : World) (hl : Row repC 157 B w A l) (hn : l.length ≤ 1000)
    (hbx : Blk w G 71 #[.int .i64 f, .int .i64 m, vw, .slice PA np pc, .slice A l.length c]) (h1 : vw.oneCell' = true) :
    Calls Try.prog 125 #[.pointer (some ⟨G, 0, none⟩)] w fun e w' => e = .returned (.tuple #[.int .i64 (chanE np l).1, .int .i64 (chanE np l).2]) ∧ Below w.heap.size w w' := by
  unfold chanE
  have hI0 := indexChan_any B A c l G f m vw (.slice A l.length c) PA np pc w hl hn hbx h1 rfl
  obtain ⟨n, hn'⟩ : ∃ n, l.length = n := ⟨_, rfl⟩
  rw [hn'] at hbx hI0 hn ⊢
  clear hn'
  have c4 := hbx.cell 4 rfl
  have lG := hbx.lt
  by_cases hm : 8 < n
  · have hm2 : (8 : Int) < (n : Int) := by omega
    rw [if_pos hm]
    go_enter Try.func125, Try.ntmps125
    go_wp2
    go_ret2
    exact ⟨rfl, Below.refl _ _⟩
  · have hm2 : ¬ (8 : Int) < (n : Int) := by omega
    rw [if_neg hm]
    obtain ⟨r, hr⟩ : ∃ r, indexD (fun h => !chanOk np h) 0 l = r := ⟨_, rfl⟩
    rw [hr] at hI0 ⊢
    have HI := Lib.hid hI0
    clear hI0 hr
    by_cases h0 : r < 0
    · rw [if_pos h0]
      go_enter Try.func125, Try.ntmps125
      go_wp2_with fail
      refine HI.out.mono ?_
      rintro e w1 ⟨rfl, hb⟩
      go_wp2
      go_ret2
      exact ⟨rfl, hb⟩
    · rw [if_neg h0]
      go_enter Try.func125, Try.ntmps125
      go_wp2_with fail
      refine HI.out.mono ?_
      rintro e w1 ⟨rfl, hb⟩
      go_wp2
      go_ret2
      exact ⟨rfl, hb⟩
end Go.Proofs.Ytgljmflcbdhigaa
