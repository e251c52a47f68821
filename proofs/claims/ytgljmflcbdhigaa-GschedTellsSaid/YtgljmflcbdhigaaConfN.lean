/- Names: other numbers, each once. -/
import Derived.Test.YtgljmflcbdhigaaConfD
import Derived.Test.YtgljmflcbdhigaaCfg
set_option linter.unusedVariables false
set_option linter.unusedSimpArgs false
namespace Go.Proofs.Ytgljmflcbdhigaa
open Go.RowKit

def hasD (n : Nat) (p : Int) : Bool := decide (0 ≤ p) && decide (p < n)
def namesFrom (n : Nat) : List Int → List Int → Bool
  | _, [] => true
  | met, q :: r => if met.contains q || !hasD n q then false else namesFrom n (q :: met) r
def namesD (n : Nat) (p : Int) (l : List Int) : Bool := hasD n p && namesFrom n [p] l

def Met (lm : List KV) (met : List Int) : Prop := ∀ q, (kget lm q).getD (.bool false) = .bool (met.contains q)

theorem Met.set {lm : List KV} {met : List Int} (h : Met lm met) (q : Int) (c : Nat) : Met (kset lm q (.bool true) c) (q :: met) := by
  intro k
  rw [kget_set]
  by_cases e : k = q
  · rw [if_pos e]; simp [e]
  · rw [if_neg e, h k]; simp [List.contains_cons, e]


theorem has_is (f m : Int) (vw vc : Value) (PA : Option Addr) (np pc : Nat) (p : Int) (w : World) (b : Bool) (hb : hasD np p = b) (h1 : vw.oneCell' = true) (h2 : vc.oneCell' = true) :
    Calls Try.prog 77 #[.agg #[.int .i64 f, .int .i64 m, vw, .slice PA np pc, vc], .int .i64 p] w fun e w' => e = .returned (.bool b) ∧ Below w.heap.size w w' := by
  rw [← hb]
  exact has_any f m vw vc PA np pc p w h1 h2

set_option maxHeartbeats 1000000 in
theorem names_any (B : Nat) (f m : Int) (vw vc : Value) (PA : Option Addr) (np pc : Nat) (p : Int) (A : Option Addr) (c : Nat) (l : List Int) (w : World) (h1 : vw.oneCell' = true) (h2 : vc.oneCell' = true) (hl : Row repI 3 B w A l) (hn : l.length ≤ 1000) (hB : B ≤ w.heap.size) :
    Calls Try.prog 124 #[.agg #[.int .i64 f, .int .i64 m, vw, .slice PA np pc, vc], .int .i64 p, .slice A l.length c] w fun e w' => e = .returned (.bool (namesD np p l)) ∧ Below w.heap.size w w' := by
  obtain ⟨n, hn'⟩ : ∃ n, l.length = n := ⟨_, rfl⟩
  rw [hn']
  have Hn := Lib.hid hn'
  rw [hn'] at hn
  clear hn'
  obtain ⟨b0, hb0⟩ : ∃ b, hasD np p = b := ⟨_, rfl⟩
  obtain ⟨r, hr⟩ : ∃ b, namesD np p l = b := ⟨_, rfl⟩
  rw [hr]
  have hH := fun W => has_is f m vw vc PA np pc p W b0 hb0 h1 h2
  unfold namesD at hr
  rw [hb0] at hr
  have HH := Lib.hid hH
  have Hr := Lib.hid hr
  clear hH hr hb0
  have hmm := @run_makeMap Try.prog
  go_enter Try.func124, Try.ntmps124
  go_wp2_with fail
  refine (HH.out _).mono ?_
  rintro e w1 ⟨rfl, hb⟩
  have hbx := (Blk.new w 71 #[.int .i64 f, .int .i64 m, vw, .slice PA np pc, vc]).below hb (by simp)
  have hb1 : Below w.heap.size w w1 := ((Below.refl _ _).alloc (Nat.le_refl _) _).trans (hb.mono (by simp))
  clear hb
  cases b0 with
  | false =>
    have e : r = false := by rw [← Hr.out]; rfl
    subst e
    go_wp2
    go_ret
    exact ⟨rfl, hb1⟩
  | true =>
    have Hr2 : Hid (namesFrom np [p] l = r) := Lib.hid (by rw [← Hr.out]; rfl)
    clear Hr
    have m0 := IMap.made w1
    have hin := run_update_imap (P := Try.prog) Try.underlying253 Try.underlying3 m0 p (.bool true)
    have met0 : Met (kset [] p (.bool true) 0) [p] := Met.set (met := []) (fun q => by simp [kget]) p 0
    go_wp2
    have m1 := m0.put (kset [] p (.bool true) 0) (kclk [] p 0)
    have hbx1 := (hbx.alloc (.map #[] 0)).put m0 (mapObj (kset [] p (.bool true) 0) (kclk [] p 0))
    have hb2 : Below w.heap.size w (World.put (w1.alloc (.map #[] 0)) w1.heap.size (mapObj (kset [] p (.bool true) 0) (kclk [] p 0))) := (hb1.alloc hb1.size _).trans (put_below _ _ _ hb1.size)
    have hM : w.heap.size < w1.heap.size := hbx.lt
    go_loopw [19] (fun j wr => ∃ (k : Nat) (met : List Int) (lm : List KV) (clk : Nat), k ≤ n ∧ j = .int .i64 k ∧ IMap wr w1.heap.size lm clk ∧ Met lm met ∧ namesFrom np met (l.drop k) = r ∧ Blk wr w.heap.size 71 #[.int .i64 f, .int .i64 m, vw, .slice PA np pc, vc] ∧ Below w.heap.size w wr) (fun j _ => n - (intOf j).toNat)
    case atStart => exact ⟨0, _, _, _, Nat.zero_le _, rfl, m1, met0, Hr2.out, hbx1, hb2⟩
    case round =>
      obtain ⟨k, met, lm, clk, hk, rfl, hm, hmet, he, hbx, hb⟩ := hrel
      by_cases hlt : k < n
      · have hk2 : (k : Int) < (n : Int) := by omega
        obtain ⟨ad, x, rfl, hx, hc⟩ := at_I (hl.keep fun j hj _ => hb.block j (by omega)) (k := k) (by rw [Hn.out]; omega)
        rw [drop_cons' hx, namesFrom] at he
        have hlk := run_lookup_imap (P := Try.prog) Try.underlying253 Try.underlying3 hm (z := .bool false) (et := 4) (by kernel_rfl) x
        rw [hmet x] at hlk
        obtain ⟨b1, hb1'⟩ : ∃ b, met.contains x = b := ⟨_, rfl⟩
        obtain ⟨b2, hb2'⟩ : ∃ b, hasD np x = b := ⟨_, rfl⟩
        rw [hb1'] at hlk he
        rw [hb2'] at he
        have hH := fun W => has_is f m vw vc PA np pc x W b2 hb2' h1 h2
        have HH2 := Lib.hid hH
        have Hmet := Lib.hid hmet
        have c0 := hbx.cell 0 rfl
        have c1 := hbx.cell 1 rfl
        have c2 := hbx.cell 2 rfl
        have c3 := hbx.cell 3 rfl
        have c4 := hbx.cell 4 rfl
        clear hH hb1' hb2' hmet hx
        cases b1 with
        | true =>
          have e : r = false := by rw [← he]; rfl
          subst e
          clear he
          go_wp2
          go_ret
          exact ⟨rfl, hb⟩
        | false =>
          cases b2 with
          | false =>
            have e : r = false := by rw [← he]; rfl
            subst e
            clear he
            go_wp2_with fail
            refine (HH2.out _).mono ?_
            rintro e w2 ⟨rfl, hb3⟩
            go_wp2
            go_ret
            exact ⟨rfl, hb.trans (hb3.mono hb.size)⟩
          | true =>
            have He : Hid (namesFrom np (x :: met) (List.drop (k + 1) l) = r) := Lib.hid (by rw [← he]; rfl)
            clear he
            go_wp2_with fail
            refine (HH2.out _).mono ?_
            rintro e w2 ⟨rfl, hb3⟩
            have hm2 : IMap w2 w1.heap.size lm clk := hm.keep (hb3.block _ hm.lt)
            have hup := run_update_imap (P := Try.prog) Try.underlying253 Try.underlying3 hm2 x (.bool true)
            have hbx2 := (hbx.below hb3 hbx.lt).put hm2 (mapObj (kset lm x (.bool true) clk) (kclk lm x clk))
            have hb4 : Below w.heap.size w (World.put w2 w1.heap.size (mapObj (kset lm x (.bool true) clk) (kclk lm x clk))) := (hb.trans (hb3.mono hb.size)).trans (put_below _ _ _ (by omega))
            have hm4 := hm2.put (kset lm x (.bool true) clk) (kclk lm x clk)
            clear hm c0 c1 c2 c3 c4 hlk hb3
            go_wp2
            go_roundw
            case rel => exact ⟨k + 1, _, _, _, by omega, by go_num, hm4, Hmet.out.set x clk, He.out, hbx2, hb4⟩
            case measure => simp [intOf] <;> omega
      · have hk2 : ¬ (k : Int) < (n : Int) := by omega
        have e : r = true := by rw [← he, List.drop_of_length_le (by rw [Hn.out]; omega)]; rfl
        subst e
        clear he
        go_wp2
        go_ret
        exact ⟨rfl, hb⟩
end Go.Proofs.Ytgljmflcbdhigaa
