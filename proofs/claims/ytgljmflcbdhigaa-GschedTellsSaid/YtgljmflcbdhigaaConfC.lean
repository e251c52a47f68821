/- May a partition be right? -/
import Derived.Test.YtgljmflcbdhigaaConfB
set_option linter.unusedVariables false
set_option linter.unusedSimpArgs false
namespace Go.Proofs.Ytgljmflcbdhigaa
open Go.RowKit

theorem max_u8 (a b : Int) : (if a < b then b else a) = max a b := by
  by_cases h : a < b
  · rw [if_pos h]; omega
  · rw [if_neg h]; omega

set_option maxRecDepth 100000 in
set_option maxHeartbeats 1000000 in
/-- The greatest of three small numbers. -/
theorem max3_any (g o : Nat) (a0 a1 a2 : Int) (c : Nat) (w : World) (h0 : w.cell? ⟨g, o, none⟩ = some (.int .u8 a0)) (h1 : w.cell? ⟨g, o + 1, none⟩ = some (.int .u8 a1)) (h2 : w.cell? ⟨g, o + 2, none⟩ = some (.int .u8 a2)) :
    Calls Try.prog 150 #[.slice (some ⟨g, o, none⟩) 3 c] w fun e w' => e = .returned (.int .u8 (max (max a0 a1) a2)) ∧ Drawn w w' := by
  go_enter Try.func150, Try.ntmps150
  go_wp2
  go_loopw [3, 4] (fun m j wr => ((m = .int .u8 a0 ∧ j = .int .i64 1) ∨ (m = .int .u8 (max a0 a1) ∧ j = .int .i64 2) ∨ (m = .int .u8 (max (max a0 a1) a2) ∧ j = .int .i64 3)) ∧ Drawn w wr) (fun _ j _ => 3 - (intOf j).toNat)
  case atStart => exact ⟨.inl ⟨rfl, rfl⟩, Drawn.refl _⟩
  case round =>
    obtain ⟨h, hd⟩ := hrel
    have hb := hd.below w.heap.size
    have k1 := cb hb h1
    have k2 := cb hb h2
    rcases h with ⟨rfl, rfl⟩ | ⟨rfl, rfl⟩ | ⟨rfl, rfl⟩
    · go_wp2
      exact ⟨⟨.inr (.inl ⟨by rw [max_u8], rfl⟩), hd⟩, by simp [intOf]⟩
    · go_wp2
      exact ⟨⟨.inr (.inr ⟨by rw [max_u8], rfl⟩), hd⟩, by simp [intOf]⟩
    · go_wp2
      go_ret
      exact ⟨rfl, hd⟩

def PartD.rights (p : PartD) : Int :=
  if (decide (p.ts.length ≤ 6) && p.ts.all TaskD.right) = false then 22
  else if (decide (p.ss.length ≤ 3) && p.ss.all Srv.right) = false then 23
  else if 2 < max (max p.a0 p.a1) p.a2 then 26 else 0

set_option maxRecDepth 100000 in
set_option maxHeartbeats 1000000 in
theorem rights_any (B : Nat) (TA SA : Option Addr) (tc sc : Nat) (vd : Value) (p : PartD) (w : World) (hB : B ≤ w.heap.size) (hd : vd.oneCell' = true) (ht : Row repT 139 B w TA p.ts) (hs : Row repS 37 B w SA p.ss) (n1 : p.ts.length ≤ 1000) (n2 : p.ss.length ≤ 1000) :
    Calls Try.prog 123 #[.agg #[.slice TA p.ts.length tc, .slice SA p.ss.length sc, vd, .int .u8 p.a0, .int .u8 p.a1, .int .u8 p.a2]] w fun e w' => e = .returned (.int .i64 p.rights) ∧ Below w.heap.size w w' := by
  have cT := fun W hW hb => allTask_any B TA tc p.ts 6 W hW n1 hb
  have cS := fun W hW hb => allSrv_any B SA sc p.ss 3 W hW n2 hb
  unfold PartD.rights
  obtain ⟨bt, hbt⟩ : ∃ b, (decide (p.ts.length ≤ 6) && p.ts.all TaskD.right) = b := ⟨_, rfl⟩
  obtain ⟨bs, hbs⟩ : ∃ b, (decide (p.ss.length ≤ 3) && p.ss.all Srv.right) = b := ⟨_, rfl⟩
  rw [hbt] at cT ⊢
  rw [hbs] at cS ⊢
  clear hbt hbs
  have CT := Lib.hid cT
  have CS := Lib.hid cS
  clear cT cS
  go_enter Try.func123, Try.ntmps123
  go_wp2_with fail
  have hA : ∀ o, Below w.heap.size w (w.alloc o) := fun o => (Below.refl _ _).alloc (Nat.le_refl _) o
  refine (CT.out _ (ht.keep fun q hq _ => (hA _).block q hq) (Nat.le_trans hB (hA _).size)).mono ?_
  rintro e w1 ⟨rfl, hb⟩
  have hbx := (Blk.new w 52 #[.slice TA p.ts.length tc, .slice SA p.ss.length sc, vd, .int .u8 p.a0, .int .u8 p.a1, .int .u8 p.a2]).below hb (by simp)
  have hb1 : Below w.heap.size w w1 := (hA _).trans (hb.mono (by simp))
  have c1 := hbx.cell 1 rfl
  clear hb hA
  cases bt with
  | false =>
    go_wp2
    go_ret
    exact ⟨rfl, hb1⟩
  | true =>
    go_wp2_with fail
    refine (CS.out _ (hs.keep fun q hq _ => hb1.block q hq) (Nat.le_trans hB hb1.size)).mono ?_
    rintro e w2 ⟨rfl, hb⟩
    have hbx2 := hbx.below hb hbx.lt
    have hb2 : Below w.heap.size w w2 := hb1.trans (hb.mono hb1.size)
    clear hbx hb1 hb c1
    cases bs with
    | false =>
      go_wp2
      go_ret
      exact ⟨rfl, hb2⟩
    | true =>
      have hm := max3_any w.heap.size 3 p.a0 p.a1 p.a2 3 w2 (hbx2.cell 3 rfl) (hbx2.cell 4 rfl) (hbx2.cell 5 rfl)
      have d3 := hbx2.cell 3 rfl
      go_wp2_with fail
      refine hm.mono ?_
      rintro e w3 ⟨rfl, hd3⟩
      have hb3 : Below w.heap.size w w3 := hb2.trans (hd3.below _)
      by_cases h2 : 2 < max (max p.a0 p.a1) p.a2
      · have H2 := Lib.hid h2
        go_wp2
        go_ret
        exact ⟨ret_i (by simp <;> omega), hb3⟩
      · have H2 := Lib.hid h2
        go_wp2
        go_ret
        exact ⟨ret_i (by simp <;> omega), hb3⟩
end Go.Proofs.Ytgljmflcbdhigaa
