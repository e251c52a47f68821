/- The law on checks, walked. -/
import Derived.Test.YtgljmflcbdhigaaAuditT
import Derived.Test.YtgljmflcbdhigaaPart
set_option linter.unusedVariables false
set_option linter.unusedSimpArgs false
namespace Go.Proofs.Ytgljmflcbdhigaa
open Go.RowKit

theorem at_F {e B : Nat} {w : World} {A : Option Addr} {l : List Fault} (h : Row repF e B w A l) {k : Nat} (hk : k < l.length) : ∃ ad x, A = some ad ∧ l[k]? = some x ∧ w.cell? (ad.add (k * 2)) = some (.int .i64 x.kind) ∧
    w.cell? ⟨(ad.add (k * 2)).block, (ad.add (k * 2)).off + 1, none⟩ = some (.int .i64 x.place) := by
  obtain ⟨ad, cs, hA, hlt, _, hr, hc⟩ := h.at (List.getElem?_eq_getElem hk)
  have hr : cs = Fault.enc _ := hr
  subst hr
  refine ⟨ad, _, hA, List.getElem?_eq_getElem hk, hc 0 _ rfl, ?_⟩
  rw [addr_field _ _ _ (by decide)]
  exact hc 1 _ rfl

set_option maxRecDepth 100000 in
set_option maxHeartbeats 4000000 in
theorem auditChecks_any (TA SA DA A : Option Addr) (tc sc dc c : Nat) (p : PartD) (l : List Entry) (now : Int) (w : World) (ht : Row repT 143 w.heap.size w TA p.ts) (hs : Row repS 24 w.heap.size w SA p.ss) (hd : Row repI 3 w.heap.size w DA p.ds) (hdc : p.ds.length ≤ dc) (hdn : DA = none → dc = 0)
    (hl : Row repE 132 w.heap.size w A l) :
    Calls Try.prog 4 #[.agg #[.slice TA p.ts.length tc, .slice SA p.ss.length sc, .slice DA p.ds.length dc, .int .u8 p.a0, .int .u8 p.a1, .int .u8 p.a2], .slice A l.length c, .int .i64 now] w fun e w' => e = .returned (.bool true) ∧ Below w.heap.size w w' := by
  obtain ⟨nt, hnt⟩ : ∃ n, p.ts.length = n := ⟨_, rfl⟩
  obtain ⟨ns, hns⟩ : ∃ n, p.ss.length = n := ⟨_, rfl⟩
  obtain ⟨nd, hnd⟩ : ∃ n, p.ds.length = n := ⟨_, rfl⟩
  obtain ⟨n, hn'⟩ : ∃ n, l.length = n := ⟨_, rfl⟩
  have hfew := fun W hW => few28_any w.heap.size A c l W hW
  rw [hn'] at hfew ⊢
  rw [hnt, hns, hnd]
  rw [hnd] at hdc
  have Ht := Lib.hid hnt
  have Hs := Lib.hid hns
  have Hd := Lib.hid hnd
  have Hn := Lib.hid hn'
  clear hnt hns hnd hn'
  have hw1 : ∀ o, Below w.heap.size w (w.alloc o) := fun o => (Below.refl _ _).alloc (Nat.le_refl _) o
  go_enter Try.func4, Try.ntmps4
  go_wp2_with fail
  refine (hfew _ (hl.keep fun q hq _ => (hw1 _).block q hq)).mono ?_
  rintro e w1 ⟨⟨b, rfl, hfb⟩, hdr⟩
  have hbx := (Blk.new w 45 #[.slice TA nt tc, .slice SA ns sc, .slice DA nd dc, .int .u8 p.a0, .int .u8 p.a1, .int .u8 p.a2]).drawn hdr
  have hb1 : Below w.heap.size w w1 := (hw1 _).trans (hdr.below _)
  have c0 := hbx.cell 0 rfl
  have c1 := hbx.cell 1 rfl
  have c2 := hbx.cell 2 rfl
  have c3 := hbx.cell 3 rfl
  have c4 := hbx.cell 4 rfl
  have c5 := hbx.cell 5 rfl
  clear hdr hw1 hfew
  cases b with
  | false =>
    clear hfb
    go_wp2_with fail
    refine (knows_any _).mono ?_
    rintro e w2 ⟨rfl, hb2⟩
    go_wp2
    go_ret
    exact ⟨rfl, hb1.trans (hb2.mono hb1.size)⟩
  | true =>
    obtain ⟨hn, hli⟩ := hfb rfl
    rw [Hn.out] at hn
    have Hli := Lib.hid hli
    clear hli hfb
    by_cases q0 : (20 : Int) < (nt : Int)
    · go_wp2_with fail
      refine (knows_any _).mono ?_
      rintro e w2 ⟨rfl, hb2⟩
      go_wp2
      go_ret
      exact ⟨rfl, hb1.trans (hb2.mono hb1.size)⟩
    by_cases q1 : (20 : Int) < (ns : Int)
    · go_wp2_with fail
      refine (knows_any _).mono ?_
      rintro e w2 ⟨rfl, hb2⟩
      go_wp2
      go_ret
      exact ⟨rfl, hb1.trans (hb2.mono hb1.size)⟩
    by_cases q2 : (20 : Int) < (nd : Int)
    · go_wp2_with fail
      refine (knows_any _).mono ?_
      rintro e w2 ⟨rfl, hb2⟩
      go_wp2
      go_ret
      exact ⟨rfl, hb1.trans (hb2.mono hb1.size)⟩
    by_cases q3 : now < 0
    · go_wp2_with fail
      refine (knows_any _).mono ?_
      rintro e w2 ⟨rfl, hb2⟩
      go_wp2
      go_ret
      exact ⟨rfl, hb1.trans (hb2.mono hb1.size)⟩
    by_cases q4 : (2305843009213693952 : Int) < now
    · go_wp2_with fail
      refine (knows_any _).mono ?_
      rintro e w2 ⟨rfl, hb2⟩
      go_wp2
      go_ret
      exact ⟨rfl, hb1.trans (hb2.mono hb1.size)⟩
    have n1 : nt ≤ 20 := by omega
    have n2 : ns ≤ 20 := by omega
    have n3 : nd ≤ 20 := by omega
    have hnow : 0 ≤ now ∧ now ≤ 2305843009213693952 := by omega
    go_wp2_with fail
    refine (knows_any _).mono ?_
    rintro e w2 ⟨rfl, hb2⟩
    have hbx2 := hbx.below hb2 hbx.lt
    have hb3 : Below w.heap.size w w2 := hb1.trans (hb2.mono hb1.size)
    clear hb2 hb1 hbx c0 c1 c2 c3 c4 c5 q0 q1 q2 q3 q4
    have d0 := hbx2.cell 0 rfl
    have d1 := hbx2.cell 1 rfl
    have d2 := hbx2.cell 2 rfl
    have d3 := hbx2.cell 3 rfl
    have d4 := hbx2.cell 4 rfl
    have d5 := hbx2.cell 5 rfl
    have hpart := part_any w.heap.size TA SA DA tc sc dc p w2 (ht.keep fun q hq _ => hb3.block q hq) (hs.keep fun q hq _ => hb3.block q hq) (hd.keep fun q hq _ => hb3.block q hq) (by rw [Hd.out]; exact hdc) hdn hb3.size (by rw [Ht.out]; omega) (by rw [Hs.out]; omega) (by rw [Hd.out]; omega)
    rw [Ht.out, Hs.out, Hd.out] at hpart
    go_wp2_with fail
    refine hpart.mono ?_
    rintro e w3 ⟨vt, vs, vd, rfl, hot, hos, hod, hb4⟩
    obtain ⟨PA, pc, rfl, _, _, _, hrt⟩ := hot.row
    obtain ⟨A1, m1, k1, rfl⟩ : ∃ A n c, vs = Value.slice A n c := by obtain ⟨A', c', hv', _⟩ := hos.row; exact ⟨_, _, _, hv'⟩
    obtain ⟨A2, m2, k2, rfl⟩ : ∃ A n c, vd = Value.slice A n c := by obtain ⟨A', c', hv', _⟩ := hod.row; exact ⟨_, _, _, hv'⟩
    have hbx3 := hbx2.below hb4 hbx2.lt
    have hb5 : Below w.heap.size w w3 := hb3.trans (hb4.mono hb3.size)
    have howns := owns_any w.heap.size A c l w3 (hl.keep fun q hq _ => hb5.block q hq) (by rw [Hn.out]; omega)
    rw [Hn.out] at howns
    rw [Ht.out]
    clear hpart d0 d1 d2 d3 d4 d5 hbx2
    go_wp2_with fail
    refine howns.mono ?_
    rintro e w4 ⟨v4, rfl, hoe, hb6⟩
    obtain ⟨EA, ec, rfl, _, _, _, hre⟩ := hoe.row
    have hbx4 := hbx3.below hb6 hbx3.lt
    have hb7 : Below w.heap.size w w4 := hb5.trans (hb6.mono hb5.size)
    obtain ⟨PA', pc', hpe, _, _, _, hrt4⟩ := (hot.below hb6 (Nat.le_refl _)).row
    cases hpe
    have hchk := check_any 0 EA ec l PA pc p.ts (.slice A1 m1 k1) (.slice A2 m2 k2) (.int .u8 p.a0) (.int .u8 p.a1) (.int .u8 p.a2) now w4 hre hrt4 (by rw [Hn.out]; exact hn) Hli.out (by rw [Ht.out]; exact n1) hnow rfl rfl rfl rfl rfl
    rw [Hn.out]
    rw [Ht.out, Hn.out] at hchk
    clear hrt4 hrt hre hoe howns hot hos hod hb4 hb6
    go_wp2_with fail
    refine hchk.mono ?_
    rintro e w5 ⟨v5, rfl, hof, hb8⟩
    have hbx5 := hbx4.below hb8 hbx4.lt
    have hb9 : Below w.heap.size w w5 := hb7.trans (hb8.mono hb7.size)
    have d0 := hbx5.cell 0 rfl
    have d1 := hbx5.cell 1 rfl
    have d2 := hbx5.cell 2 rfl
    have d3 := hbx5.cell 3 rfl
    have d4 := hbx5.cell 4 rfl
    have d5 := hbx5.cell 5 rfl
    have href := refCheck_any w.heap.size A c l TA tc p.ts (.slice SA ns sc) (.slice DA nd dc) (.int .u8 p.a0) (.int .u8 p.a1) (.int .u8 p.a2) now w5 (hl.keep fun q hq _ => hb9.block q hq) (ht.keep fun q hq _ => hb9.block q hq) (by rw [Hn.out]; exact hn) Hli.out (by rw [Ht.out]; exact n1) hnow rfl rfl rfl rfl rfl
    rw [Ht.out, Hn.out] at href
    clear hchk hbx3 hbx4 hb3 hb5 hb7
    go_wp2_with fail
    refine href.mono ?_
    rintro e w6 ⟨v6, rfl, hor, hb10⟩
    have hb11 : Below w.heap.size w w6 := hb9.trans (hb10.mono hb9.size)
    have hof6 := hof.below hb10 (Nat.le_refl _)
    obtain ⟨X, xc, rfl, _, _, _, hrx⟩ := hof6.row
    obtain ⟨Y, yc, rfl, _, _, _, hry⟩ := hor.row
    clear hof hor hof6 href d0 d1 d2 d3 d4 d5 hbx5 hb8 hb9 hb10
    have hml : (checkD p.ts l now).length ≤ 400 := by
      have := checkFrom_len p.ts l now l 0
      rw [Hn.out] at this
      unfold checkD
      omega
    obtain ⟨m, hm⟩ : ∃ m, (checkD p.ts l now).length = m := ⟨_, rfl⟩
    rw [hm] at hml ⊢
    have Hm := Lib.hid hm
    clear hm
    go_wp2
    go_loopw [9] (fun i wr => ∃ k : Nat, k ≤ m ∧ i = .int .i64 k ∧ Drawn w6 wr) (fun i _ => m - (intOf i).toNat)
    case atStart => exact ⟨0, Nat.zero_le _, rfl, Drawn.refl _⟩
    case round =>
      obtain ⟨k, hk, rfl, hd⟩ := hrel
      by_cases hlt : k < m
      · obtain ⟨ad2, x, rfl, hx, g0, g1⟩ := at_F (hrx.drawn hd) (k := k) (by rw [Hm.out]; exact hlt)
        obtain ⟨ad3, y, rfl, hy, f0, f1⟩ := at_F (hry.drawn hd) (k := k) (by rw [Hm.out]; exact hlt)
        obtain rfl : x = y := by rw [hx] at hy; exact Option.some.inj hy
        clear hx hy hrx hry
        have hk2 : (k : Int) < (m : Int) := by omega
        have hk3 : (0 : Int) ≤ (k : Int) := by omega
        go_wp2
        go_quiet (fail)
        go_wp2
        exact ⟨⟨k + 1, by omega, by go_num, hd.drewN _⟩, by simp [intOf]; omega⟩
      · have hk2 : ¬ (k : Int) < (m : Int) := by omega
        clear hrx hry
        go_wp2
        go_ret
        exact ⟨rfl, hb11.trans (hd.below _)⟩
end Go.Proofs.Ytgljmflcbdhigaa
