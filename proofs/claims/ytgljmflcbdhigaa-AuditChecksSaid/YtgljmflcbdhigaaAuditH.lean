/- The follower's step by an entry: what is no acceptance and breaks nothing. -/
import Derived.Test.YtgljmflcbdhigaaAuditG
set_option linter.unusedVariables false
namespace Go.Proofs.Ytgljmflcbdhigaa
open Go.RowKit

theorem endsK_zero {x : Entry} (hb : x.brk = false) (task : Int) (h : endsK x.kind = 0) : x.ends task = 0 := by
  unfold Entry.ends
  rw [hb]
  simp [h]
theorem close_none {x : Entry} {jobs : List Job} (h : ∀ task, x.ends task = 0) : jobs.map x.close = jobs := by
  have : x.close = id := by
    funext y
    unfold Entry.close
    rw [if_neg (by rw [h]; simp)]
    rfl
  rw [this, List.map_id]
/-- The block of an entry that was boxed. -/
theorem box_keep {w w' : World} {F B : Nat} {jv : Value} {M1 : Nat} {l1 : List KV} {c1 M2 : Nat} {l2 : List KV} {c2 : Nat} {jobs : List Job} {idx : Int → List Nat} {high : Bool} {last : Int → Option Int} {N : Nat}
    (h : FolX w F B jv M1 l1 c1 M2 l2 c2 jobs idx high last N) {g : Nat} {cs : Array Value} (hb : Blk w g 124 cs) (hk : ∀ k, k < w.heap.size → k ≠ M1 → some k ≠ jv.ownBlock → w'.heap[k]? = w.heap[k]?) : Blk w' g 124 cs :=
  hb.keep (hk g hb.lt (h.m1.no_cells hb) (h.own.ne_blk hb (by decide)))

set_option maxHeartbeats 1000000 in
theorem see_high (F B : Nat) (jobs : List Job) (high : Bool) (last : Int → Option Int) (x : Entry) (w : World) (h : Fol w F B jobs high last) (hB : B ≤ w.heap.size) (hn : jobs.length ≤ 900) (hb : x.brk = false) (hk : x.kind = 7 ∨ x.kind = 9) :
    Calls Try.prog 50 #[.pointer (some ⟨F, 0, none⟩), .agg #[.int .i64 x.tick, .int .i64 x.kind, .int .i64 x.a, .int .i64 x.b]] w fun e w' => e = .returned (.tuple #[]) ∧ Fol w' F B (stepJobs x jobs) (stepHigh x high) (stepLast x last) ∧ Below B w w' ∧ Kept w w' := by
  have e1 : stepJobs x jobs = jobs := by
    unfold stepJobs
    rw [close_none (fun task => endsK_zero hb task (by rcases hk with h | h <;> rw [h] <;> decide)), if_neg (by omega), List.append_nil]
  have e2 : stepHigh x high = decide (x.kind = 7) := by
    unfold stepHigh
    rw [hb]
    rcases hk with h | h <;> simp [h]
  have e3 : stepLast x last = last := by unfold stepLast; rw [if_neg (by omega)]
  rw [e1, e2, e3]
  obtain ⟨jv, M1, l1, c1, M2, l2, c2, idx, h, hgd⟩ := h
  have Hb := Lib.hid hb
  have hk0 : (x.kind == 0) = false := by simp; omega
  clear e1 e2 e3 hb
  rcases hk with hk | hk
  · have k7 : (x.kind == 7) = true := by simp [hk]
    have d7 : decide (x.kind = 7) = true := by simp [hk]
    rw [d7]
    clear hk d7
    go_enter Try.func50, Try.ntmps50
    go_wp2_with fail
    refine (breaks_any x _).mono ?_
    rw [Hb.out]
    rintro e w1 ⟨rfl, hb1⟩
    have hbx := (Blk.new w 124 #[.int .i64 x.tick, .int .i64 x.kind, .int .i64 x.a, .int .i64 x.b]).below hb1 (by simp)
    have b1 := hbx.cell 1 rfl
    have hw1 : Below w.heap.size w w1 := ((Below.refl _ _).alloc (Nat.le_refl _) _).trans (hb1.mono (by simp))
    have h1 := h.below hw1
    have q2 := h1.blk.cell 2 rfl
    have p2 := h1.blk.free 2
    go_wp2
    go_end0
    exact ⟨rfl, ⟨_, _, _, _, _, _, _, _, h1.set_high true, hgd⟩, (hw1.mono hB).setCell h.hF _, (Kept.of_below hw1).trans (Kept.setF h1.blk 2 _)⟩
  · have k7 : (x.kind == 7) = false := by simp [hk]
    have k9 : (x.kind == 9) = true := by simp [hk]
    have d7 : decide (x.kind = 7) = false := by simp [hk]
    rw [d7]
    clear hk d7
    go_enter Try.func50, Try.ntmps50
    go_wp2_with fail
    refine (breaks_any x _).mono ?_
    rw [Hb.out]
    rintro e w1 ⟨rfl, hb1⟩
    have hbx := (Blk.new w 124 #[.int .i64 x.tick, .int .i64 x.kind, .int .i64 x.a, .int .i64 x.b]).below hb1 (by simp)
    have b1 := hbx.cell 1 rfl
    have hw1 : Below w.heap.size w w1 := ((Below.refl _ _).alloc (Nat.le_refl _) _).trans (hb1.mono (by simp))
    have h1 := h.below hw1
    have q2 := h1.blk.cell 2 rfl
    have p2 := h1.blk.free 2
    go_wp2
    go_end0
    exact ⟨rfl, ⟨_, _, _, _, _, _, _, _, h1.set_high false, hgd⟩, (hw1.mono hB).setCell h.hF _, (Kept.of_below hw1).trans (Kept.setF h1.blk 2 _)⟩

set_option maxHeartbeats 1000000 in
theorem see_none (F B : Nat) (jobs : List Job) (high : Bool) (last : Int → Option Int) (x : Entry) (w : World) (h : Fol w F B jobs high last) (hB : B ≤ w.heap.size) (hn : jobs.length ≤ 900) (hb : x.brk = false) (h0 : x.kind ≠ 0) (h7 : x.kind ≠ 7) (h9 : x.kind ≠ 9) (he : endsK x.kind = 0) :
    Calls Try.prog 50 #[.pointer (some ⟨F, 0, none⟩), .agg #[.int .i64 x.tick, .int .i64 x.kind, .int .i64 x.a, .int .i64 x.b]] w fun e w' => e = .returned (.tuple #[]) ∧ Fol w' F B (stepJobs x jobs) (stepHigh x high) (stepLast x last) ∧ Below B w w' ∧ Kept w w' := by
  have e1 : stepJobs x jobs = jobs := by
    unfold stepJobs
    rw [close_none (fun task => endsK_zero hb task he), if_neg h0, List.append_nil]
  have e2 : stepHigh x high = high := by
    unfold stepHigh
    rw [hb]
    simp [h7, h9]
  have e3 : stepLast x last = last := by unfold stepLast; rw [if_neg h0]
  rw [e1, e2, e3]
  obtain ⟨jv, M1, l1, c1, M2, l2, c2, idx, h, hgd⟩ := h
  have Hb := Lib.hid hb
  have He := Lib.hid he
  have k0 : (x.kind == 0) = false := by simp [h0]
  have k7 : (x.kind == 7) = false := by simp [h7]
  have k9 : (x.kind == 9) = false := by simp [h9]
  clear e1 e2 e3 hb he h0 h7 h9
  go_enter Try.func50, Try.ntmps50
  go_wp2_with fail
  refine (breaks_any x _).mono ?_
  rw [Hb.out]
  rintro e w1 ⟨rfl, hb1⟩
  have hbx := (Blk.new w 124 #[.int .i64 x.tick, .int .i64 x.kind, .int .i64 x.a, .int .i64 x.b]).below hb1 (by simp)
  have b0 := hbx.cell 0 rfl
  have b1 := hbx.cell 1 rfl
  have b2 := hbx.cell 2 rfl
  have b3 := hbx.cell 3 rfl
  have hw1 : Below w.heap.size w w1 := ((Below.refl _ _).alloc (Nat.le_refl _) _).trans (hb1.mono (by simp))
  have h1 := h.below hw1
  go_wp2_with fail
  refine (ends_any x _).mono ?_
  rw [He.out]
  rintro e w2 ⟨rfl, hb2⟩
  clear b0 b1 b2 b3
  go_wp2
  go_end0
  exact ⟨rfl, ⟨_, _, _, _, _, _, _, _, h1.below hb2, hgd⟩, (hw1.mono hB).trans (hb2.mono (by have := hw1.size; omega)), (Kept.of_below hw1).trans (Kept.of_below hb2)⟩

set_option maxHeartbeats 2000000 in
theorem see_end (F B : Nat) (jobs : List Job) (high : Bool) (last : Int → Option Int) (x : Entry) (w : World) (h : Fol w F B jobs high last) (hB : B ≤ w.heap.size) (hn : jobs.length ≤ 900) (hb : x.brk = false) (h0 : x.kind ≠ 0) (h7 : x.kind ≠ 7) (h9 : x.kind ≠ 9) (he : endsK x.kind ≠ 0) :
    Calls Try.prog 50 #[.pointer (some ⟨F, 0, none⟩), .agg #[.int .i64 x.tick, .int .i64 x.kind, .int .i64 x.a, .int .i64 x.b]] w fun e w' => e = .returned (.tuple #[]) ∧ Fol w' F B (stepJobs x jobs) (stepHigh x high) (stepLast x last) ∧ Below B w w' ∧ Kept w w' := by
  have e2 : stepHigh x high = high := by
    unfold stepHigh
    rw [hb]
    simp [h7, h9]
  have e3 : stepLast x last = last := by unfold stepLast; rw [if_neg h0]
  obtain ⟨jv, M1, l1, c1, M2, l2, c2, idx, h, hgd⟩ := h
  obtain ⟨s1, s2⟩ := shut_good hgd x.a (endsK x.kind) x.tick he
  have e1 : stepJobs x jobs = shutD (endsK x.kind) x.tick jobs (idx x.a) := by
    rw [s1]
    unfold stepJobs
    rw [if_neg h0, List.append_nil]
    apply List.map_congr_left
    intro y _
    unfold Entry.close Entry.ends
    rw [hb]
    by_cases hy : y.task = x.a
    · simp [hy, he]
    · have hy' : ¬ x.a = y.task := fun e => hy e.symm
      simp [hy, hy']
  rw [e1, e2, e3]
  have Hb := Lib.hid hb
  have k0 : (x.kind == 0) = false := by simp [h0]
  have k7 : (x.kind == 7) = false := by simp [h7]
  have k9 : (x.kind == 9) = false := by simp [h9]
  have k5 : (endsK x.kind != 0) = true := by simp [he]
  clear e1 e2 e3 hb he h0 h7 h9 s1
  go_enter Try.func50, Try.ntmps50
  go_wp2_with fail
  refine (breaks_any x _).mono ?_
  rw [Hb.out]
  rintro e w1 ⟨rfl, hb1⟩
  have hbx := (Blk.new w 124 #[.int .i64 x.tick, .int .i64 x.kind, .int .i64 x.a, .int .i64 x.b]).below hb1 (by simp)
  have b0 := hbx.cell 0 rfl
  have b1 := hbx.cell 1 rfl
  have b2 := hbx.cell 2 rfl
  have b3 := hbx.cell 3 rfl
  have hw1 : Below w.heap.size w w1 := ((Below.refl _ _).alloc (Nat.le_refl _) _).trans (hb1.mono (by simp))
  have h1 := h.below hw1
  go_wp2_with fail
  refine (ends_any x _).mono ?_
  rintro e w2 ⟨rfl, hb2⟩
  have hbx2 := hbx.below hb2 hbx.lt
  have h2 := h1.below hb2
  have hw2 : Below w.heap.size w w2 := hw1.trans (hb2.mono hw1.size)
  clear b0 b1 b2 b3 hbx h1 h hb1 hw1 hb2
  have b0 := hbx2.cell 0 rfl
  have b1 := hbx2.cell 1 rfl
  have b2 := hbx2.cell 2 rfl
  have b3 := hbx2.cell 3 rfl
  have hs2 := hw2.size
  go_wp2
  go_region_held3 (fun W : World => W.cell? ⟨w.heap.size, 0, none⟩ = some (.int .i64 x.tick) ∧ W.cell? ⟨w.heap.size, 1, none⟩ = some (.int .i64 x.kind) ∧ W.cell? ⟨w.heap.size, 2, none⟩ = some (.int .i64 x.a) ∧ W.cell? ⟨w.heap.size, 3, none⟩ = some (.int .i64 x.b)) (first | exact ⟨b0, b1, b2, b3⟩ | exact ⟨d0, d1, d2, d3⟩ | exact ⟨c0, c1', c2', c3⟩) (first | (go_at_call 102; refine (ends_any x _).mono ?_; rintro e w3 ⟨rfl, hb3⟩; have hb3' := undrew hb3; have c0 := cb hb3' b0; have c1' := cb hb3' b1; have c2' := cb hb3' b2; have c3 := cb hb3' b3; have h3 := h2.below hb3'; have hbx3 := hbx2.below hb3' hbx2.lt) | (go_at_call 101; refine (shut_any F B jv M1 l1 c1 M2 l2 c2 jobs idx high last jobs.length x.a (endsK x.kind) x.tick _ h3 (Nat.le_refl _) (by have := hb3'.size; omega) (by omega)).mono ?_; rintro e w4 ⟨rfl, h4, hb4, hk4⟩; have hbx4 := box_keep h3 hbx3 hk4; have d0 := hbx4.cell 0 rfl; have d1 := hbx4.cell 1 rfl; have d2 := hbx4.cell 2 rfl; have d3 := hbx4.cell 3 rfl))
  go_wp2
  go_end0
  exact ⟨rfl, ⟨_, _, _, _, _, _, _, _, by rw [shutD_len]; exact h4, s2⟩, ((hw2.mono hB).trans (hb3'.mono (show B ≤ w2.heap.size by omega))).trans hb4, ((Kept.of_below hw2).trans (Kept.of_below hb3')).trans (Kept.shut h3 hk4)⟩
end Go.Proofs.Ytgljmflcbdhigaa
