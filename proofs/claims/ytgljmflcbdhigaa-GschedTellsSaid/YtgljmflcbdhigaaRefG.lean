/- The document's scheduler: New, At. -/
import Derived.Test.YtgljmflcbdhigaaRefF
import Derived.Test.YtgljmflcbdhigaaRefB
set_option linter.unusedVariables false
set_option linter.unusedSimpArgs false
namespace Go.Proofs.Ytgljmflcbdhigaa
open Go.RowKit

structure RSch (B : Nat) (w : World) (S : Nat) (c : CfgD) (T : Nat) (WA : Option Addr) (wk : Nat) (PA : Option Addr) (pc : Nat) (CA : Option Addr) (cc : Nat) : Prop where
  blk : Blk w S 114 #[.int .i64 c.frame, .int .i64 c.margin, .slice WA c.ws.length wk, .slice PA c.ps.length pc, .slice CA c.cs.length cc, .pointer (some ⟨T, 0, none⟩)]
  tab : RTab B w T c.tab
  ps : Slc tR.rep tR.p B w c.ps PA pc
theorem RTab.up {B B' : Nat} {w : World} {T : Nat} {t : TabD} (h : RTab B w T t) (hB : B ≤ B') : RTab B' w T t := by
  obtain ⟨WA, wc, h1, h2⟩ := h
  exact ⟨WA, wc, h1, h2.up hB⟩
theorem RSch.below {B D : Nat} {w w' : World} {S : Nat} {c : CfgD} {T : Nat} {WA : Option Addr} {wk : Nat} {PA : Option Addr} {pc : Nat} {CA : Option Addr} {cc : Nat} (h : RSch B w S c T WA wk PA pc CA cc) (hb : Below D w w') (hD : w.heap.size ≤ D) : RSch B w' S c T WA wk PA pc CA cc :=
  ⟨h.blk.below hb (Nat.lt_of_lt_of_le h.blk.lt hD), h.tab.below hb hD, h.ps.below hb hD⟩
def RSchPost (B : Nat) (c : CfgD) (WA : Option Addr) (wk : Nat) (PA : Option Addr) (pc : Nat) (CA : Option Addr) (cc : Nat) (w : World) (e : Ending) (w' : World) : Prop := ∃ S T, e = .returned (.pointer (some ⟨S, 0, none⟩)) ∧ RSch B w' S c T WA wk PA pc CA cc ∧ Below w.heap.size w w'

section
variable {B : Nat} {c : CfgD} {WA : Option Addr} {wk : Nat} {PA : Option Addr} {pc : Nat} {CA : Option Addr} {cc : Nat} {w : World}
set_option maxHeartbeats 1000000 in
theorem rnew_no (h : CfgA tR B w c WA wk PA pc CA cc) (hl : c.light = true) (hB : B ≤ w.heap.size) (hk : c.check.1 ≠ 0) :
    Calls Try.prog 45 #[.agg #[.int .i64 c.frame, .int .i64 c.margin, .slice WA c.ws.length wk, .slice PA c.ps.length pc, .slice CA c.cs.length cc]] w fun e w' => e = .returned (.pointer none) ∧ Below w.heap.size w w' := by
  have hA : ∀ o, Below w.heap.size w (w.alloc o) := fun o => (Below.refl _ _).alloc (Nat.le_refl _) o
  have hck := fun o => refCheck6_any B c WA wk PA pc CA cc (w.alloc o) (h.below (hA o) (Nat.le_refl _)) hl (Nat.le_trans hB (hA o).size)
  obtain ⟨r1, r2, hr⟩ : ∃ r1 r2, c.check = (r1, r2) := ⟨_, _, rfl⟩
  rw [hr] at hck hk
  simp only at hck hk
  have q : (r1 != 0) = true := by simpa using hk
  have HC := Lib.hid hck
  clear hck hr h hk
  go_enter Try.func45, Try.ntmps45
  go_wp2_with fail
  refine (HC.out _).mono ?_
  rintro e w1 ⟨rfl, hb⟩
  have hb1 := (hA (.cells #[.int .i64 c.frame, .int .i64 c.margin, .slice WA c.ws.length wk, .slice PA c.ps.length pc, .slice CA c.cs.length cc] 64)).trans (hb.mono (hA _).size)
  go_wp2
  go_ret
  exact ⟨rfl, hb1⟩

set_option maxHeartbeats 2000000 in
theorem rnew_yes (h : CfgA tR B w c WA wk PA pc CA cc) (hl : c.light = true) (hB : B ≤ w.heap.size) (hk : c.check.1 = 0) :
    Calls Try.prog 45 #[.agg #[.int .i64 c.frame, .int .i64 c.margin, .slice WA c.ws.length wk, .slice PA c.ps.length pc, .slice CA c.cs.length cc]] w (RSchPost B c WA wk PA pc CA cc w) := by
  have hA : ∀ o, Below w.heap.size w (w.alloc o) := fun o => (Below.refl _ _).alloc (Nat.le_refl _) o
  have hck := fun o => refCheck6_any B c WA wk PA pc CA cc (w.alloc o) (h.below (hA o) (Nat.le_refl _)) hl (Nat.le_trans hB (hA o).size)
  obtain ⟨ok, hfr⟩ := check_tab hk
  have hnw := fun W (hW : Below w.heap.size w W) => refNew04_any B WA wk c.tab W (h.ws.below hW (Nat.le_refl _)) ok (Nat.le_trans hB hW.size)
  rw [hfr] at hnw
  obtain ⟨r1, r2, hr⟩ : ∃ r1 r2, c.check = (r1, r2) := ⟨_, _, rfl⟩
  rw [hr] at hck hk
  simp only at hck hk
  subst hk
  have hps := h.ps
  have htm : c.tab.m = c.margin := rfl
  have htw : c.tab.ws = c.ws := rfl
  rw [htm, htw] at hnw
  obtain ⟨f, hf⟩ : ∃ f, c.frame = f := ⟨_, rfl⟩
  obtain ⟨m, hm⟩ : ∃ f, c.margin = f := ⟨_, rfl⟩
  obtain ⟨n, hn⟩ : ∃ f, c.ps.length = f := ⟨_, rfl⟩
  obtain ⟨nw, hnw'⟩ : ∃ f, c.ws.length = f := ⟨_, rfl⟩
  obtain ⟨nc, hnc⟩ : ∃ f, c.cs.length = f := ⟨_, rfl⟩
  rw [hf, hm, hn, hnw', hnc] at hck ⊢
  rw [hf, hm, hnw'] at hnw
  have HC := Lib.hid hck
  have HN := Lib.hid hnw
  have Heq := Lib.hid (And.intro hf (And.intro hm (And.intro hn (And.intro hnw' hnc))))
  have HP := Lib.hid hps
  clear hck hr h hnw hf hm hn hnw' hnc htm htw hfr hps ok
  go_enter Try.func45, Try.ntmps45
  go_wp2_with fail
  refine (HC.out _).mono ?_
  rintro e w1 ⟨rfl, hb⟩
  have hb1 := (hA (.cells #[.int .i64 f, .int .i64 m, .slice WA nw wk, .slice PA n pc, .slice CA nc cc] 64)).trans (hb.mono (hA _).size)
  have hbx := (Blk.new w 64 #[.int .i64 f, .int .i64 m, .slice WA nw wk, .slice PA n pc, .slice CA nc cc]).below hb (by simp)
  have hSS : ∀ W, Below w1.heap.size w1 W → W.cell? ⟨w.heap.size, 0, none⟩ = some (.int .i64 f) ∧ W.cell? ⟨w.heap.size, 1, none⟩ = some (.int .i64 m) ∧ W.cell? ⟨w.heap.size, 2, none⟩ = some (.slice WA nw wk) ∧ W.cell? ⟨w.heap.size, 3, none⟩ = some (.slice PA n pc) ∧ W.cell? ⟨w.heap.size, 4, none⟩ = some (.slice CA nc cc) := fun W hW => by
    have hx := hbx.below hW hbx.lt
    exact ⟨hx.cell 0 rfl, hx.cell 1 rfl, hx.cell 2 rfl, hx.cell 3 rfl, hx.cell 4 rfl⟩
  have HSS := Lib.hid hSS
  have lx := hbx.lt
  have z1 : Below w1.heap.size w1 w1.drew := (Below.refl _ _).drew
  have z2 : Below w.heap.size w w1.drew := hb1.drew
  clear hb hSS
  go_wp2
  refine wp_region_held_drew (S := fun W : World => W.cell? ⟨w.heap.size, 0, none⟩ = some (.int .i64 f) ∧ W.cell? ⟨w.heap.size, 1, none⟩ = some (.int .i64 m) ∧ W.cell? ⟨w.heap.size, 2, none⟩ = some (.slice WA nw wk) ∧ W.cell? ⟨w.heap.size, 3, none⟩ = some (.slice PA n pc) ∧ W.cell? ⟨w.heap.size, 4, none⟩ = some (.slice CA nc cc)) (by kernel_rfl) (HSS.out _ z1) (fun hHeld => ?_)
  refine wpAnyH_take (i := 0) (v := ?_) rfl (by kernel_rfl) (by kernel_rfl) (by kernel_rfl) (fun _ _ _ h => h) (Or.inl ⟨by rfl, ?_⟩) hHeld ?_
  rotate_left 1
  · intro W hSw
    go_simp
    with_reducible rfl
  simp only [Act.put, List.getElem_toArray, List.getElem_cons_succ, List.getElem_cons_zero, List.setIfInBounds_toArray, List.set_cons_zero, List.set_cons_succ]
  refine wpAnyH_take (i := 1) (v := ?_) rfl (by kernel_rfl) (by kernel_rfl) (by kernel_rfl) (fun _ _ _ h => h) (Or.inl ⟨by rfl, ?_⟩) hHeld ?_
  rotate_left 1
  · intro W hSw
    go_simp
    with_reducible rfl
  simp only [Act.put, List.getElem_toArray, List.getElem_cons_succ, List.getElem_cons_zero, List.setIfInBounds_toArray, List.set_cons_zero, List.set_cons_succ]
  refine wpAnyH_take (i := 2) (v := ?_) rfl (by kernel_rfl) (by kernel_rfl) (by kernel_rfl) (fun _ _ _ h => h) (Or.inl ⟨by rfl, ?_⟩) hHeld ?_
  rotate_left 1
  · intro W hSw
    go_simp
    with_reducible rfl
  simp only [Act.put, List.getElem_toArray, List.getElem_cons_succ, List.getElem_cons_zero, List.setIfInBounds_toArray, List.set_cons_zero, List.set_cons_succ]
  refine wpAnyH_take (i := 3) (v := ?_) rfl (by kernel_rfl) (by kernel_rfl) (by kernel_rfl) (fun _ _ _ h => h) (Or.inl ⟨by rfl, ?_⟩) hHeld ?_
  rotate_left 1
  · intro W hSw
    go_simp
    with_reducible rfl
  simp only [Act.put, List.getElem_toArray, List.getElem_cons_succ, List.getElem_cons_zero, List.setIfInBounds_toArray, List.set_cons_zero, List.set_cons_succ]
  refine wpAnyH_take (i := 4) (v := ?_) rfl (by kernel_rfl) (by kernel_rfl) (by kernel_rfl) (fun _ _ _ h => h) (Or.inl ⟨by rfl, ?_⟩) hHeld ?_
  rotate_left 1
  · intro W hSw
    go_simp
    with_reducible rfl
  simp only [Act.put, List.getElem_toArray, List.getElem_cons_succ, List.getElem_cons_zero, List.setIfInBounds_toArray, List.set_cons_zero, List.set_cons_succ]
  refine wpAnyH_take (i := 5) (v := ?_) rfl (by kernel_rfl) (by kernel_rfl) (by kernel_rfl) (fun _ _ _ h => h) (Or.inl ⟨by rfl, ?_⟩) hHeld ?_
  rotate_left 1
  · intro W hSw
    go_simp
    with_reducible rfl
  simp only [Act.put, List.getElem_toArray, List.getElem_cons_succ, List.getElem_cons_zero, List.setIfInBounds_toArray, List.set_cons_zero, List.set_cons_succ]
  refine wpAnyH_take (i := 6) (v := ?_) rfl (by kernel_rfl) (by kernel_rfl) (by kernel_rfl) (fun _ _ _ h => h) (Or.inl ⟨by rfl, ?_⟩) hHeld ?_
  rotate_left 1
  · intro W hSw
    go_simp
    with_reducible rfl
  simp only [Act.put, List.getElem_toArray, List.getElem_cons_succ, List.getElem_cons_zero, List.setIfInBounds_toArray, List.set_cons_zero, List.set_cons_succ]
  refine wpAnyH_ready (rs := [7]) (by kernel_rfl) (by simp) ?_
  refine AllReadyH.cons rfl (fun K hK => ?_) AllReadyH.nil
  try simp only [List.getElem_toArray, List.getElem_cons_succ, List.getElem_cons_zero]
  go_simp
  go_at_call 96
  refine (HN.out _ z2).mono ?_
  rintro e w4 ⟨T, rfl, hT, hb4⟩
  have hw4 : Below w1.heap.size w1 w4 := z1.trans (hb4.mono z1.size)
  refine hK.out _ _ (HSS.out _ hw4) (fun hHeld => ?_)
  clear hK K
  try simp only [Act.put, List.getElem_toArray, List.getElem_cons_succ, List.getElem_cons_zero, List.setIfInBounds_toArray, List.set_cons_zero, List.set_cons_succ]
  refine wpAnyH_take (i := 8) (v := ?_) rfl (by kernel_rfl) (by kernel_rfl) (by kernel_rfl) (fun _ _ _ h => h) (Or.inl ⟨by rfl, ?_⟩) hHeld ?_
  rotate_left 1
  · intro W hSw
    go_simp
    with_reducible rfl
  simp only [Act.put, List.getElem_toArray, List.getElem_cons_succ, List.getElem_cons_zero, List.setIfInBounds_toArray, List.set_cons_zero, List.set_cons_succ]
  refine wpAnyH_ready (rs := [9]) (by kernel_rfl) (by simp) ?_
  refine AllReadyH.cons rfl (fun K hK => ?_) AllReadyH.nil
  try simp only [List.getElem_toArray, List.getElem_cons_succ, List.getElem_cons_zero]
  go_simp
  refine hK.out _ _ (HSS.out _ (hw4.alloc hw4.size _)) (fun hHeld => ?_)
  clear hK K
  try simp only [Act.put, List.getElem_toArray, List.getElem_cons_succ, List.getElem_cons_zero, List.setIfInBounds_toArray, List.set_cons_zero, List.set_cons_succ]
  refine wpAnyH_take (i := 10) (v := ?_) rfl (by kernel_rfl) (by kernel_rfl) (by kernel_rfl) (fun _ _ _ h => h) (Or.inl ⟨by rfl, ?_⟩) hHeld ?_
  rotate_left 1
  · intro W hSw
    go_simp
    with_reducible rfl
  simp only [Act.put, List.getElem_toArray, List.getElem_cons_succ, List.getElem_cons_zero, List.setIfInBounds_toArray, List.set_cons_zero, List.set_cons_succ]
  refine wpAnyH_done (by kernel_rfl) ?_ _
  have hb9 : Below w.heap.size w w4 := hb1.trans (hw4.mono hb1.size)
  go_wp2
  refine bodyPost_ret (v := .pointer (some ⟨w4.heap.size, 0, none⟩)) ?_ rfl ?_
  · simp [results, Try.results45, go_sem]
  · obtain ⟨e1, e2, e3, e4, e5⟩ := Heq.out
    refine ⟨_, T, rfl, ⟨?_, (hT.below ((Below.refl _ _).alloc (Nat.le_refl _) _) (Nat.le_refl _)).up (Nat.zero_le _), HP.out.below (hb9.alloc hb9.size _) (Nat.le_refl _)⟩, hb9.alloc hb9.size _⟩
    rw [e1, e2, e3, e4, e5]
    exact Blk.new w4 _ _
end
end Go.Proofs.Ytgljmflcbdhigaa
