/- The document's jobs of a log. -/
import Derived.Test.YtgljmflcbdhigaaAuditA
import Derived.BigRegion
import Derived.StillTailTactics
set_option linter.unusedVariables false
namespace Go.Proofs.Ytgljmflcbdhigaa
open Go.RowKit

/-- When, and how, a job of a task ends in what follows. -/
def endOf (task : Int) : List Entry → Int × Int
  | [] => (-1, 0)
  | x :: l => if x.ends task = 0 then endOf task l else (x.tick, x.ends task)
def jobD (l : List Entry) (i : Nat) (x : Entry) : Job := ⟨x.a, x.b, x.tick, (endOf x.a (l.drop (i + 1))).1, (endOf x.a (l.drop (i + 1))).2⟩

set_option maxHeartbeats 1000000 in
theorem job_any (B : Nat) (A : Option Addr) (c : Nat) (l : List Entry) (i : Nat) (x : Entry) (w : World) (hl : Row repE 132 B w A l) (hn : l.length ≤ 1000) (hx : l[i]? = some x) :
    Calls Try.prog 51 #[.slice A l.length c, .int .i64 i] w fun e w' => e = .returned (.agg #[.int .i64 (jobD l i x).task, .int .i64 (jobD l i x).work, .int .i64 (jobD l i x).src, .int .i64 (jobD l i x).dst, .int .i64 (jobD l i x).fin]) ∧ Below w.heap.size w w' := by
  obtain ⟨n, hn'⟩ : ∃ n, l.length = n := ⟨_, rfl⟩
  rw [hn']
  have Hn := Lib.hid hn'
  rw [hn'] at hn
  clear hn'
  have hi : i < n := by have := (List.getElem?_eq_some_iff.1 hx).1; rw [Hn.out] at this; exact this
  have hi2 : (i : Int) < (n : Int) := by omega
  have hi3 : (0 : Int) ≤ (i : Int) := by omega
  obtain ⟨ad, x', rfl, hbk, hx', h0, h1, h2, h3⟩ := at_E hl (k := i) (by rw [Hn.out]; exact hi)
  obtain rfl : x' = x := by rw [hx] at hx'; cases hx'; rfl
  have hbk1 : (ad.add (i * 4)).block < w.heap.size + 1 := by omega
  have Hx := Lib.hid hx
  clear hx hx'
  go_enter Try.func51, Try.ntmps51
  go_wp2
  go_region
  generalize hW : World.drew _ = W0
  have hb0 : Below w.heap.size w W0 := by rw [← hW]; exact ((((Below.refl _ _).alloc (Nat.le_refl _) _).alloc (by simp) _)).drew
  have hJ : Blk W0 (w.heap.size + 1) 33 #[.int .i64 x'.a, .int .i64 x'.b, .int .i64 x'.tick, .int .i64 (-1), .int .i64 0] := by rw [← hW]; exact (Blk.new' _ _ _ _ (by simp)).drew
  have hR : Blk W0 w.heap.size 33 #[.int .i64 0, .int .i64 0, .int .i64 0, .int .i64 0, .int .i64 0] := by rw [← hW]; exact ((Blk.new' _ _ _ _ rfl).alloc _).drew
  clear hW h0 h1 h2 h3 hbk hbk1
  go_wp2
  go_loopw [6] (fun j wr => ∃ k : Nat, i < k ∧ k ≤ n ∧ j = .int .i64 k ∧ endOf x'.a (l.drop (i + 1)) = endOf x'.a (l.drop k) ∧ Below w.heap.size w wr ∧
      Blk wr (w.heap.size + 1) 33 #[.int .i64 x'.a, .int .i64 x'.b, .int .i64 x'.tick, .int .i64 (-1), .int .i64 0] ∧
      Blk wr w.heap.size 33 #[.int .i64 0, .int .i64 0, .int .i64 0, .int .i64 0, .int .i64 0]) (fun j _ => n - (intOf j).toNat)
  case atStart => exact ⟨i + 1, by omega, by omega, by go_num, rfl, hb0, hJ, hR⟩
  case round =>
    obtain ⟨k, hik, hkn, rfl, he, hb, hJ, hR⟩ := hrel
    have He := Lib.hid he
    clear he
    by_cases hlt : k < n
    · have hlr : Row repE 132 B wr (some ad) l := hl.keep fun j hj _ => hb.block j hj
      obtain ⟨ad', y, ead, hbk, hy, h0, h1, h2, h3⟩ := at_E hlr (k := k) (by rw [Hn.out]; exact hlt)
      cases ead
      have Hy := Lib.hid hy
      clear hy
      have c0 := hJ.cell 0 rfl
      have hk2 : (k : Int) < (n : Int) := by omega
      go_wp2
      go_region_held3 (fun W : World => W.cell? (ad.add (k * 4)) = some (.int .i64 y.tick) ∧ W.cell? ⟨(ad.add (k * 4)).block, (ad.add (k * 4)).off + 1, none⟩ = some (.int .i64 y.kind) ∧ W.cell? ⟨(ad.add (k * 4)).block, (ad.add (k * 4)).off + 2, none⟩ = some (.int .i64 y.a) ∧ W.cell? ⟨(ad.add (k * 4)).block, (ad.add (k * 4)).off + 3, none⟩ = some (.int .i64 y.b) ∧ W.cell? ⟨w.heap.size + 1, 0, none⟩ = some (.int .i64 x'.a)) (first | exact ⟨h0, h1, h2, h3, c0⟩ | exact ⟨cbd hb2 h0, cbd hb2 h1, cbd hb2 h2, cbd hb2 h3, cbd hb2 c0⟩) (first | (go_at_call 103; refine (refEnds_any y _ _).mono ?_; rintro e w2 ⟨rfl, hb2⟩))
      have hbw : Below wr.heap.size wr w2 := undrew hb2
      have hJ2 := hJ.below hbw hJ.lt
      have hR2 := hR.below hbw hR.lt
      have hb3 : Below w.heap.size w w2 := hb.trans (hbw.mono hb.size)
      have g0 := cb hbw h0
      clear h0 h1 h2 h3 c0 hJ hR hb hbk hlr
      rename_i hHeld
      clear hHeld
      generalize hr : y.ends x'.a = r
      have Hr := Lib.hid hr
      clear hr
      by_cases hr0 : r = 0
      · have ht : (r != 0) = false := by simp [hr0]
        have Hr0 := Lib.hid hr0
        clear hr0
        go_wp2
        go_roundw
        case rel => exact ⟨k + 1, by omega, by omega, by go_num, by rw [He.out, drop_cons' Hy.out, endOf, if_pos (by rw [Hr.out, Hr0.out])], hb3, hJ2, hR2⟩
        case measure => simp [intOf]; omega
      · have ht : (r != 0) = true := by simp [hr0]
        clear hr0
        have k0 := hJ2.cell 0 rfl
        have k1 := hJ2.cell 1 rfl
        have k2 := hJ2.cell 2 rfl
        have k3 := hJ2.cell 3 rfl
        have k4 := hJ2.cell 4 rfl
        have f3 := hJ2.free 3
        have f4 := hJ2.free 4
        have q0 := hR2.cell 0 rfl
        have p0 := hR2.free 0
        have q1 := hR2.cell 1 rfl
        have p1 := hR2.free 1
        have q2 := hR2.cell 2 rfl
        have p2 := hR2.free 2
        have q3 := hR2.cell 3 rfl
        have p3 := hR2.free 3
        have q4 := hR2.cell 4 rfl
        have p4 := hR2.free 4
        go_wp2
        refine bodyPost_ret (v := .agg #[.int .i64 x'.a, .int .i64 x'.b, .int .i64 x'.tick, .int .i64 y.tick, .int .i64 r]) ?_ rfl ?_
        · simp [results, Try.results51, go_sem, q0, q1, q2, q3, q4]
        · have ej : jobD l i x' = ⟨x'.a, x'.b, x'.tick, y.tick, r⟩ := by
            unfold jobD
            rw [He.out, drop_cons' Hy.out, endOf, if_neg (by rw [Hr.out]; simpa using ht), Hr.out]
          rw [ej]
          exact ⟨rfl, (((((((hb3.setCell (by simp) _).setCell (by simp) _).setCell (by simp) _).setCell (by simp) _).setCell (by simp) _).setCell (by simp) _).setCell (by simp) _)⟩
    · have ej : jobD l i x' = ⟨x'.a, x'.b, x'.tick, -1, 0⟩ := by
        unfold jobD
        rw [He.out, List.drop_of_length_le (by rw [Hn.out]; omega), endOf]
      have Ej := Lib.hid ej
      clear ej
      have k0 := hJ.cell 0 rfl
      have k1 := hJ.cell 1 rfl
      have k2 := hJ.cell 2 rfl
      have k3 := hJ.cell 3 rfl
      have k4 := hJ.cell 4 rfl
      have q0 := hR.cell 0 rfl
      have p0 := hR.free 0
      have q1 := hR.cell 1 rfl
      have p1 := hR.free 1
      have q2 := hR.cell 2 rfl
      have p2 := hR.free 2
      have q3 := hR.cell 3 rfl
      have p3 := hR.free 3
      have q4 := hR.cell 4 rfl
      have p4 := hR.free 4
      go_wp2
      refine bodyPost_ret (v := .agg #[.int .i64 x'.a, .int .i64 x'.b, .int .i64 x'.tick, .int .i64 (-1), .int .i64 0]) ?_ rfl ?_
      · simp [results, Try.results51, go_sem, q0, q1, q2, q3, q4]
      · rw [Ej.out]
        exact ⟨rfl, (((((hb.setCell (by simp) _).setCell (by simp) _).setCell (by simp) _).setCell (by simp) _).setCell (by simp) _)⟩

theorem info_J3 : (Try.prog.info? 33).map (fun i => (i.zero, i.size, i.bytes)) = some (some (.agg #[.int .i64 0, .int .i64 0, .int .i64 0, .int .i64 0, .int .i64 0]), 5, 40) := by kernel_rfl

/-- The jobs of the entries from place k on. -/
def jobsFrom (l : List Entry) : Nat → List Entry → List Job
  | _, [] => []
  | k, x :: r => if x.kind = 0 then jobD l k x :: jobsFrom l (k + 1) r else jobsFrom l (k + 1) r
def jobsD (l : List Entry) : List Job := jobsFrom l 0 l
theorem jobsFrom_snoc (l : List Entry) (r : List Entry) (x : Entry) : ∀ k, jobsFrom l k (r ++ [x]) = jobsFrom l k r ++ (if x.kind = 0 then [jobD l (k + r.length) x] else []) := by
  induction r with
  | nil => intro k; simp only [List.nil_append, jobsFrom, List.length_nil, Nat.add_zero]
  | cons y r ih =>
    intro k
    simp only [List.cons_append, jobsFrom, ih, List.length_cons]
    rw [show k + 1 + r.length = k + (r.length + 1) by omega]
    split <;> rfl
theorem jobsFrom_len (l r : List Entry) : ∀ k, (jobsFrom l k r).length ≤ r.length := by
  induction r with
  | nil => intro k; simp [jobsFrom]
  | cons y r ih => intro k; have := ih (k + 1); simp only [jobsFrom]; split <;> simp <;> omega

set_option maxHeartbeats 1000000 in
theorem refJobs_any (B : Nat) (A : Option Addr) (c : Nat) (l : List Entry) (w : World) (hl : Row repE 132 B w A l) (hn : l.length ≤ 1000) :
    Calls Try.prog 13 #[.slice A l.length c] w fun e w' => ∃ v, e = .returned v ∧ Own repJ 33 0 w.heap.size w' v (jobsD l) ∧ Below w.heap.size w w' := by
  obtain ⟨n, hn'⟩ : ∃ n, l.length = n := ⟨_, rfl⟩
  rw [hn']
  have Hn := Lib.hid hn'
  rw [hn'] at hn
  clear hn'
  go_enter Try.func13, Try.ntmps13
  go_wp2
  go_loopw [3, 4] (fun v i wr => ∃ k : Nat, k ≤ n ∧ i = .int .i64 k ∧ Own repJ 33 0 w.heap.size wr v (jobsFrom l 0 (l.take k)) ∧ Below w.heap.size w wr) (fun _ i _ => n - (intOf i).toNat)
  case atStart => exact ⟨0, Nat.zero_le _, rfl, Own.nil, Below.refl _ _⟩
  case round =>
    obtain ⟨k, hk, rfl, hown, hb⟩ := hrel
    by_cases hlt : k < n
    · have hlr : Row repE 132 B wr A l := hl.keep fun j hj _ => hb.block j hj
      obtain ⟨ad, x, rfl, hbk, hx, h0, h1, h2, h3⟩ := at_E hlr (k := k) (by rw [Hn.out]; exact hlt)
      have hsn : jobsFrom l 0 (l.take (k + 1)) = jobsFrom l 0 (l.take k) ++ (if x.kind = 0 then [jobD l k x] else []) := by
        rw [take_snoc' hx, jobsFrom_snoc, List.length_take, Nat.min_eq_left (by rw [Hn.out]; omega), Nat.zero_add]
      have hjl := jobsFrom_len l (l.take k) 0
      rw [List.length_take] at hjl
      have Hs := Lib.hid hsn
      have Hx := Lib.hid hx
      clear hx hsn
      have hsz := hb.size
      by_cases hz : x.kind = 0
      · have hz' : (x.kind == 0) = true := by simp [hz]
        have Hz := Lib.hid hz
        clear hz
        rw [if_pos Hz.out] at Hs
        have hcon := fun W (hW : Row repE 132 B W (some ad) l) => job_any B (some ad) c l k x W hW (by rw [Hn.out]; omega) Hx.out
        rw [Hn.out] at hcon
        have Hc := Lib.hid hcon
        clear hcon
        go_wp2_with fail
        refine (Hc.out _ hlr).mono ?_
        generalize jobD l k x = J at Hs ⊢
        rintro e w1 ⟨rfl, hb1⟩
        have hown1 := hown.below hb1 (Nat.le_refl _)
        have hb2 : Below w.heap.size w w1 := hb.trans (hb1.mono hsz)
        have hsz2 := hb2.size
        clear h0 h1 h2 h3 hlr hown hb hb1 hbk
        go_wp2_with (at_builtin; refine wpList_append_one rfl _ _ _ rfl repJ 33 0 w.heap.size Try.underlying30 info_J3 rfl (by decide) (by decide) _ (jobsFrom l 0 (l.take k)) rfl hown1 J J.enc rfl rfl (Nat.zero_le _) ?c1 ?c2 hsz2 ?_)
        case c1 => omega
        case c2 => omega
        intro v' w2 hown' hg hat
        go_wp2
        go_roundw
        case rel => exact ⟨k + 1, by omega, by go_num, by rw [Hs.out]; exact hown', hb2.grown hg hsz2 (fun g hg => (hown1.block g hg).1)⟩
        case measure => simp [intOf]; omega
      · have hz' : (x.kind == 0) = false := by simp [hz]
        have Hz := Lib.hid hz
        clear hz
        go_wp2
        go_roundw
        case rel => exact ⟨k + 1, by omega, by go_num, by rw [Hs.out, if_neg Hz.out, List.append_nil]; exact hown, hb⟩
        case measure => simp [intOf]; omega
    · go_wp2
      go_ret
      have e : l.take k = l := List.take_of_length_le (by rw [Hn.out]; omega)
      exact ⟨_, rfl, by rw [e] at hown; exact hown, hb⟩
#print axioms refJobs_any
end Go.Proofs.Ytgljmflcbdhigaa
