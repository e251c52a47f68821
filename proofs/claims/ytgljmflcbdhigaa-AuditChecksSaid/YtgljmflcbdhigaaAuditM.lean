/- The law on jobs, walked. -/
import Derived.Test.YtgljmflcbdhigaaAuditK
set_option linter.unusedVariables false
namespace Go.Proofs.Ytgljmflcbdhigaa
open Go.RowKit

theorem at_J {e B : Nat} {w : World} {A : Option Addr} {l : List Job} (h : Row repJ e B w A l) {k : Nat} (hk : k < l.length) : ∃ ad x, A = some ad ∧ l[k]? = some x ∧ w.cell? (ad.add (k * 5)) = some (.int .i64 x.task) ∧
    w.cell? ⟨(ad.add (k * 5)).block, (ad.add (k * 5)).off + 1, none⟩ = some (.int .i64 x.work) ∧ w.cell? ⟨(ad.add (k * 5)).block, (ad.add (k * 5)).off + 2, none⟩ = some (.int .i64 x.src) ∧
    w.cell? ⟨(ad.add (k * 5)).block, (ad.add (k * 5)).off + 3, none⟩ = some (.int .i64 x.dst) ∧ w.cell? ⟨(ad.add (k * 5)).block, (ad.add (k * 5)).off + 4, none⟩ = some (.int .i64 x.fin) := by
  obtain ⟨ad, cs, hA, hlt, _, hr, hc⟩ := h.at (List.getElem?_eq_getElem hk)
  have hr : cs = Job.enc _ := hr
  subst hr
  refine ⟨ad, _, hA, List.getElem?_eq_getElem hk, hc 0 _ rfl, ?_, ?_, ?_, ?_⟩ <;> rw [addr_field _ _ _ (by decide)]
  · exact hc 1 _ rfl
  · exact hc 2 _ rfl
  · exact hc 3 _ rfl
  · exact hc 4 _ rfl

theorem two_entries (e B : Nat) (w : World) (x y : Entry) : Row repE e B (w.alloc (.cells (x.enc ++ y.enc).toArray e)) (some ⟨w.heap.size, 0, none⟩) [x, y] := by
  intro _
  refine ⟨_, rfl, by simp, .inr ⟨_, heap_alloc_new w _⟩, fun i z hi => ?_⟩
  have hadd : ∀ j, (⟨w.heap.size, 0, none⟩ : Addr).add j = ⟨w.heap.size, j, none⟩ := fun j => by unfold Addr.add; split <;> simp_all
  have hc : ∀ j, (w.alloc (.cells (x.enc ++ y.enc).toArray e)).cell? ⟨w.heap.size, j, none⟩ = (x.enc ++ y.enc).toArray[j]? := fun j => cell_of_row _ _ _ _ e (0, 0) (heap_alloc_new w _)
  match i with
  | 0 =>
    cases hi
    refine ⟨x.enc, rfl, fun j u hj => ?_⟩
    rw [hadd, hc, show 0 * repE.sz + j = j by omega, List.getElem?_toArray, List.getElem?_append_left (List.getElem?_eq_some_iff.1 hj).1]
    exact hj
  | 1 =>
    cases hi
    refine ⟨y.enc, rfl, fun j u hj => ?_⟩
    rw [hadd, hc, List.getElem?_toArray, List.getElem?_append_right (by show 4 ≤ 1 * 4 + j; omega)]
    rw [show 1 * repE.sz + j - x.enc.length = j by show 1 * 4 + j - 4 = j; omega]
    exact hj
  | i + 2 => simp at hi

set_option maxHeartbeats 1000000 in
theorem knows_any (w : World) : Calls Try.prog 10 #[] w fun e w' => e = .returned (.bool true) ∧ Below w.heap.size w w' := by
  have hr := two_entries 124 0 w ⟨3, 0, 0, 2⟩ ⟨5, 4, 0, 0⟩
  go_enter Try.func10, Try.ntmps10
  go_wp2_with fail
  refine (jobs_any 0 _ 2 _ _ hr (by decide)).mono ?_
  rintro e w1 ⟨v, rfl, hown, hb⟩
  obtain ⟨jA, jc, rfl, _, _, _, hrow⟩ := hown.row
  have hj : jobsD [⟨3, 0, 0, 2⟩, ⟨5, 4, 0, 0⟩] = [⟨0, 2, 3, 5, 1⟩] := rfl
  rw [hj] at hrow
  obtain ⟨ad, x, rfl, hx, h0, h1, h2, h3, h4⟩ := at_J hrow (k := 0) (by decide)
  cases hx
  have ea : ad.add (0 * 5) = ad := by simp [Addr.add]
  rw [ea] at h0 h1 h2 h3 h4
  have hW : wordD 3 = [108, 111, 119] := rfl
  have hT : waitD ⟨false, 2, 10⟩ 3 = 30 := rfl
  rw [hj]
  go_wp2_with fail
  refine (word_any 3 _).mono ?_
  rw [hW]
  rintro e w2 ⟨rfl, rfl⟩
  go_wp2_with fail
  refine (wait_any ⟨false, 2, 10⟩ 3 _).mono ?_
  rw [hT]
  rintro e w2 ⟨rfl, hb2⟩
  go_wp2
  go_ret
  exact ⟨rfl, (((Below.refl _ _).alloc (Nat.le_refl _) _).trans (hb.mono (by simp))).trans (hb2.mono (by have := hb.size; simp at this; omega))⟩

set_option maxHeartbeats 2000000 in
theorem auditJobs_any (B : Nat) (A : Option Addr) (c : Nat) (l : List Entry) (kd : Int) (s : Srv) (work : Int) (w : World) (hl : Row repE 132 B w A l) :
    Calls Try.prog 3 #[.slice A l.length c, .int .i64 kd, .agg #[.bool s.refill, .int .i64 s.c, .int .i64 s.t], .int .i64 work] w fun e w' => e = .returned (.bool true) ∧ Below w.heap.size w w' := by
  obtain ⟨n, hn'⟩ : ∃ n, l.length = n := ⟨_, rfl⟩
  rw [hn']
  have Hn := Lib.hid hn'
  clear hn'
  by_cases hn : 100 < n
  · have hn2 : (100 : Int) < (n : Int) := by omega
    clear hn
    go_enter Try.func3, Try.ntmps3
    go_wp2_with fail
    refine (knows_any _).mono ?_
    rintro e w1 ⟨rfl, hb⟩
    go_wp2
    go_ret
    exact ⟨rfl, ((Below.refl _ _).alloc (Nat.le_refl _) _).trans (hb.mono (by simp))⟩
  · have hn2 : ¬ (100 : Int) < (n : Int) := by omega
    have hn3 : n ≤ 100 := by omega
    have hlA : ∀ o, Row repE 132 B (w.alloc o) A l := fun o => hl.keep fun j hj _ => Below.heap_alloc _ _ _ hj
    have hc1 := fun W hW => owns_any B A c l W hW (by rw [Hn.out]; exact hn3)
    rw [Hn.out] at hc1
    go_enter Try.func3, Try.ntmps3
    go_wp2_with fail
    refine (hc1 _ (hlA _)).mono ?_
    rintro e w1 ⟨v1, rfl, hown1, hb1⟩
    have hbx := (Blk.new w 24 #[.bool s.refill, .int .i64 s.c, .int .i64 s.t]).below hb1 (by simp)
    have hw1 : Below w.heap.size w w1 := ((Below.refl _ _).alloc (Nat.le_refl _) _).trans (hb1.mono (by simp))
    clear hb1 hlA
    obtain ⟨a1, k1, rfl, _, _, _, hrow1⟩ := hown1.row
    clear hown1
    go_wp2_with fail
    refine (jobs_any _ _ k1 l _ hrow1 (by rw [Hn.out]; omega)).mono ?_
    rintro e w2 ⟨v2, rfl, hown2, hb2⟩
    have hbx2 := hbx.below hb2 hbx.lt
    have hw2 : Below w.heap.size w w2 := hw1.trans (hb2.mono hw1.size)
    have hl2 : Row repE 132 B w2 A l := hl.keep fun j hj _ => hw2.block j hj
    clear hbx hrow1 hb2 hw1
    have hc2 := fun W hW => refJobs_any B A c l W hW (by rw [Hn.out]; omega)
    rw [Hn.out] at hc2
    go_wp2_with fail
    refine (hc2 _ hl2).mono ?_
    rintro e w3 ⟨v3, rfl, hown3, hb3⟩
    have hbx3 := hbx2.below hb3 hbx2.lt
    have hw3 : Below w.heap.size w w3 := hw2.trans (hb3.mono hw2.size)
    have hown2' := hown2.below hb3 (Nat.le_refl _)
    clear hbx2 hown2 hw2 hl2 hb3 hc2 hc1
    obtain ⟨a2, k2, rfl, _, _, _, hrow2⟩ := hown2'.row
    obtain ⟨a3, k3, rfl, _, _, _, hrow3⟩ := hown3.row
    clear hown2' hown3
    obtain ⟨m, hm⟩ : ∃ m, (jobsD l).length = m := ⟨_, rfl⟩
    have hml : m ≤ 100 := by rw [← hm]; exact Nat.le_trans (jobsFrom_len l l 0) (by rw [Hn.out]; exact hn3)
    rw [hm]
    have Hm := Lib.hid hm
    clear hm
    go_wp2
    go_loopw [11] (fun i wr => ∃ k : Nat, k ≤ m ∧ i = .int .i64 k ∧ Drawn w3 wr) (fun i _ => m - (intOf i).toNat)
    case atStart => exact ⟨0, Nat.zero_le _, rfl, Drawn.refl _⟩
    case round =>
      obtain ⟨k, hk, rfl, hd⟩ := hrel
      by_cases hlt : k < m
      · obtain ⟨ad2, x, rfl, hx, c0, c1, c2, c3, c4⟩ := at_J (hrow2.drawn hd) (k := k) (by rw [Hm.out]; exact hlt)
        obtain ⟨ad3, y, rfl, hy, d0, d1, d2, d3, d4⟩ := at_J (hrow3.drawn hd) (k := k) (by rw [Hm.out]; exact hlt)
        obtain rfl : x = y := by rw [hx] at hy; exact Option.some.inj hy
        clear hx hy hrow2 hrow3
        have hk2 : (k : Int) < (m : Int) := by omega
        have hk3 : (0 : Int) ≤ (k : Int) := by omega
        go_wp2
        go_quiet (fail)
        go_wp2
        exact ⟨⟨k + 1, by omega, by go_num, hd.drewN _⟩, by simp [intOf]; omega⟩
      · have hk2 : ¬ (k : Int) < (m : Int) := by omega
        have hbx := hbx3.drawn hd
        have hw : Below w.heap.size w wr := hw3.trans (hd.below _)
        clear hrow2 hrow3 hbx3 hw3
        have hstep : ∀ W W' : World, (W.cell? ⟨w.heap.size, 0, none⟩ = some (.bool s.refill) ∧ W.cell? ⟨w.heap.size, 1, none⟩ = some (.int .i64 s.c) ∧ W.cell? ⟨w.heap.size, 2, none⟩ = some (.int .i64 s.t) ∧ Below w.heap.size w W) → Below W.heap.size W W' → (W'.cell? ⟨w.heap.size, 0, none⟩ = some (.bool s.refill) ∧ W'.cell? ⟨w.heap.size, 1, none⟩ = some (.int .i64 s.c) ∧ W'.cell? ⟨w.heap.size, 2, none⟩ = some (.int .i64 s.t) ∧ Below w.heap.size w W') := by
          rintro W W' ⟨h0, h1, h2, h3⟩ hb
          exact ⟨cb hb h0, cb hb h1, cb hb h2, h3.trans (hb.mono h3.size)⟩
        have s0 : (wr.drew.cell? ⟨w.heap.size, 0, none⟩ = some (.bool s.refill) ∧ wr.drew.cell? ⟨w.heap.size, 1, none⟩ = some (.int .i64 s.c) ∧ wr.drew.cell? ⟨w.heap.size, 2, none⟩ = some (.int .i64 s.t) ∧ Below w.heap.size w wr.drew) := ⟨hbx.cell 0 rfl, hbx.cell 1 rfl, hbx.cell 2 rfl, hw.drew⟩
        go_wp2
        go_region_held3 (fun W : World => (W.cell? ⟨w.heap.size, 0, none⟩ = some (.bool s.refill) ∧ W.cell? ⟨w.heap.size, 1, none⟩ = some (.int .i64 s.c) ∧ W.cell? ⟨w.heap.size, 2, none⟩ = some (.int .i64 s.t) ∧ Below w.heap.size w W)) (first | exact s8 | exact s7 | exact s6 | exact s5 | exact s0) (first | (go_at_call 14; refine (word_any kd _).mono ?_; rintro e w4 ⟨rfl, rfl⟩) | (go_at_call 15; refine (refWord_any kd _).mono ?_; rintro e w5 ⟨rfl, hb5⟩; have s5 := hstep _ _ s0 hb5) | (go_at_call 16; refine (wait_any s work _).mono ?_; rintro e w6 ⟨rfl, hb6⟩; have s6 := hstep _ _ s5 hb6) | (go_at_call 17; refine (refWait_any s work _).mono ?_; rintro e w7 ⟨rfl, hb7⟩; have s7 := hstep _ _ s6 hb7) | (go_at_call 10; refine (knows_any _).mono ?_; rintro e w8 ⟨rfl, hb8⟩; have s8 := hstep _ _ s7 hb8))
        go_wp2
        go_ret
        exact ⟨rfl, s8.2.2.2⟩
end Go.Proofs.Ytgljmflcbdhigaa
