/- Whose tick it is: Owner; valid.Table. -/
import Derived.Test.YtgljmflcbdhigaaFrameD
set_option linter.unusedVariables false
set_option linter.unusedSimpArgs false
namespace Go.Proofs.Ytgljmflcbdhigaa
open Go.RowKit

theorem tnone_any (T : Nat) (cs : Array Value) (f : Int) (w : World) (hT : Blk w T 232 cs) (c2 : cs[2]? = some (.int .i64 f)) (hf : 1 ≤ f) :
    Calls Try.prog 130 #[.pointer (some ⟨T, 0, none⟩)] w fun e w' => e = .returned (.bool false) ∧ w = w' := by
  have t2 := hT.cell 2 c2
  have h0 : (f == 0) = false := by simp; omega
  go_enter Try.func130, Try.ntmps130
  go_wp2
  go_ret
  exact ⟨rfl, rfl⟩

def TabD.owner (t : TabD) (tick : Int) : Int × Int :=
  match winAt t.ws (tick % t.f) with
  | none => (-1, 0)
  | some x => if tick % t.f < x.opens t.m then (x.part, 1) else (x.part, 2)

set_option maxRecDepth 100000 in
set_option maxHeartbeats 2000000 in
theorem owner_any (B T : Nat) (t : TabD) (tick : Int) (w : World) (hT : TabR B w T t) (ok : t.ok) (hB : B ≤ w.heap.size) :
    Calls Try.prog 93 #[.pointer (some ⟨T, 0, none⟩), .int .i64 tick] w fun e w' => e = .returned (.tuple #[.int .i64 (t.owner tick).1, .int .i64 (t.owner tick).2]) ∧ Below w.heap.size w w' := by
  obtain ⟨cs, WA, wk, hT, hC⟩ := hT
  obtain ⟨f1, f2, m1, m2, n1, hfit⟩ := ok
  have hall := fits_all t.f t.ws 0 (Int.le_refl _) hfit
  have kn := tnone_any T cs t.f w hT hC.c2 (by omega)
  have km := fun W => mod_any tick t.f W (by omega) (by omega)
  obtain ⟨q, hq⟩ : ∃ q, tick % (t.f : Int) = q := ⟨_, rfl⟩
  have hq0 : 0 ≤ q := by rw [← hq]; exact Int.emod_nonneg _ (by omega)
  have hq1 : q < t.f := by rw [← hq]; exact Int.emod_lt_of_pos _ (by omega)
  have ka := fun W (hW : Below w.heap.size w W) => at_any B WA wk t.ws t.m q t.f W (hC.ws.row.keep fun j hj _ => hW.block j hj) (by omega) hfit (by omega) ⟨hq0, by omega⟩
  obtain ⟨r1, r2, hr⟩ : ∃ r1 r2, t.owner tick = (r1, r2) := ⟨_, _, rfl⟩
  rw [hr]
  unfold TabD.owner at hr
  rw [hq] at hr km
  obtain ⟨o, ho⟩ : ∃ o, winAt t.ws q = o := ⟨_, rfl⟩
  rw [ho] at ka hr
  have hoa : ∀ x, o = some x → 0 ≤ x.at_ ∧ 1 ≤ x.len ∧ x.at_ + x.len ≤ t.f ∧ 0 ≤ x.part ∧ x.part < 6 := fun x hx => hall x (by rw [hx] at ho; exact List.mem_of_find?_eq_some ho)
  have t0 := hT.cell 0 hC.c0
  have t1 := hT.cell 1 hC.c1
  have t2 := hT.cell 2 hC.c2
  obtain ⟨n, hn⟩ : ∃ n, t.ws.length = n := ⟨_, rfl⟩
  obtain ⟨f, hf⟩ : ∃ f, t.f = f := ⟨_, rfl⟩
  obtain ⟨m, hm⟩ : ∃ m, t.m = m := ⟨_, rfl⟩
  rw [hn, hm] at ka
  rw [hn] at t0
  rw [hm] at t1 m1 m2 hr
  rw [hf] at t2 km f2 hoa
  have hc0 := hC.c0
  have hc1 := hC.c1
  rw [hn] at hc0
  rw [hm] at hc1
  have KN := Lib.hid kn
  have KM := Lib.hid km
  have KA := Lib.hid ka
  have Hr := Lib.hid hr
  have Hoa := Lib.hid hoa
  clear kn km ka hr hoa hall hfit ho hn hf hm hq hC
  go_enter Try.func93, Try.ntmps93
  go_wp2_with fail
  refine KN.out.mono ?_
  rintro e w1 ⟨rfl, rfl⟩
  go_wp2_with fail
  refine (KM.out _).mono ?_
  rintro e w1 ⟨rfl, rfl⟩
  go_wp2_with fail
  refine (KA.out _ (Below.refl _ _)).mono ?_
  rintro e w1 ⟨rfl, hb1⟩
  have hT1 := hT.below hb1 hT.lt
  have u0 := hT1.cell 0 hc0
  have u1 := hT1.cell 1 hc1
  have lT := hT1.lt
  clear t0 t1 t2 KN KM KA
  cases o with
  | none =>
    have e : ((-1 : Int), (0 : Int)) = (r1, r2) := Hr.out
    injection e with e1 e2
    subst e1 e2
    have ko := fun W => open_any (.slice WA n wk) m ⟨0, 0, 0⟩ W rfl (Int.le_refl 0) (by decide) (Int.le_refl 0) (by decide) m1 m2
    have KO := Lib.hid ko
    clear ko
    have hz : WinD.opens m ⟨0, 0, 0⟩ = 0 := by unfold WinD.opens; simp only; omega
    rw [hz] at KO
    clear hz
    simp only [atV]
    go_wp2
    generalize hW : World.alloc _ _ = W2
    have hb2 : Below w1.heap.size w1 W2 := by rw [← hW]; exact (Below.refl _ _).alloc (Nat.le_refl _) _
    have hx2 : Blk W2 w1.heap.size 154 #[.int .i64 0, .int .i64 0, .int .i64 0] := by rw [← hW]; exact Blk.new _ _ _
    have s0 := (hT1.below hb2 hT1.lt).cell 0 hc0
    have s1 := (hT1.below hb2 hT1.lt).cell 1 hc1
    have x0 := hx2.cell 0 rfl
    have x1 := hx2.cell 1 rfl
    have x2 := hx2.cell 2 rfl
    have hb12 : Below w.heap.size w W2 := hb1.trans (hb2.mono hb1.size)
    have z1 : Below W2.heap.size W2 W2.drew := (Below.refl _ _).drew
    clear hW u0 u1
    go_cut [9, 10] (fun u v wx => u = .int .i64 0 ∧ v = .int .i64 0 ∧ Below W2.heap.size W2 wx)
    case first =>
      go_region_with (first | (go_at_call 133; refine (KO.out _).mono ?_; rintro e w3 ⟨rfl, hb3⟩; have hb4 : Below W2.heap.size W2 w3 := z1.trans (hb3.mono z1.size)))
      all_goals (go_wp2_with fail; go_meet; exact ⟨rfl, rfl, hb4⟩)
    case rest =>
      obtain ⟨rfl, rfl, hb4⟩ := hcut
      have hx4 := hx2.below hb4 hx2.lt
      have hbf : Below w.heap.size w wc := hb12.trans (hb4.mono hb12.size)
      clear s0 s1 x0 x1 x2 hb2 hx2 z1 hb4 hb12
      go_wp2
      go_ret2
      exact ⟨rfl, hbf⟩
  | some x =>
    have hxo := Hoa.out x rfl
    have ko := fun W => open_any (.slice WA n wk) m x W rfl hxo.1 (by omega) (by omega) (by omega) m1 m2
    obtain ⟨a, ha⟩ : ∃ a, x.opens m = a := ⟨_, rfl⟩
    obtain ⟨b, hb'⟩ : ∃ b, x.at_ + x.len = b := ⟨_, rfl⟩
    have hr2 := Hr.out
    simp only [ha] at hr2
    rw [ha, hb'] at ko
    have KO := Lib.hid ko
    have Hr2 := Lib.hid hr2
    clear ko ha hb' hr2 Hr
    simp only [atV]
    go_wp2
    generalize hW : World.alloc _ _ = W2
    have hb2 : Below w1.heap.size w1 W2 := by rw [← hW]; exact (Below.refl _ _).alloc (Nat.le_refl _) _
    have hx2 : Blk W2 w1.heap.size 154 #[.int .i64 x.at_, .int .i64 x.len, .int .i64 x.part] := by rw [← hW]; exact Blk.new _ _ _
    have s0 := (hT1.below hb2 hT1.lt).cell 0 hc0
    have s1 := (hT1.below hb2 hT1.lt).cell 1 hc1
    have x0 := hx2.cell 0 rfl
    have x1 := hx2.cell 1 rfl
    have x2 := hx2.cell 2 rfl
    have hb12 : Below w.heap.size w W2 := hb1.trans (hb2.mono hb1.size)
    have z1 : Below W2.heap.size W2 W2.drew := (Below.refl _ _).drew
    clear hW u0 u1
    go_cut [9, 10] (fun u v wx => u = .int .i64 a ∧ v = .int .i64 b ∧ Below W2.heap.size W2 wx)
    case first =>
      go_region_with (first | (go_at_call 133; refine (KO.out _).mono ?_; rintro e w3 ⟨rfl, hb3⟩; have hb4 : Below W2.heap.size W2 w3 := z1.trans (hb3.mono z1.size)))
      all_goals (go_wp2_with fail; go_meet; exact ⟨rfl, rfl, hb4⟩)
    case rest =>
      obtain ⟨rfl, rfl, hb4⟩ := hcut
      have hx4 := hx2.below hb4 hx2.lt
      have hbf : Below w.heap.size w wc := hb12.trans (hb4.mono hb12.size)
      clear s0 s1 x0 x1 x2 hb2 hx2 z1 hb4 hb12
      have x2 := hx4.cell 2 rfl
      by_cases hqa : q < a
      · have e : (x.part, (1 : Int)) = (r1, r2) := by have := Hr2.out; rwa [if_pos hqa] at this
        injection e with e1 e2
        subst e1 e2
        clear Hr2
        go_wp2
        go_ret2
        exact ⟨rfl, hbf⟩
      · have e : (x.part, (2 : Int)) = (r1, r2) := by have := Hr2.out; rwa [if_neg hqa] at this
        injection e with e1 e2
        subst e1 e2
        clear Hr2
        go_wp2
        go_ret2
        exact ⟨rfl, hbf⟩
end Go.Proofs.Ytgljmflcbdhigaa
