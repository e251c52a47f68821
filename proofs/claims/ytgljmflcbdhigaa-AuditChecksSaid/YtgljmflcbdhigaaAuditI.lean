/- The follower's step by an entry: a job is accepted. -/
import Derived.Test.YtgljmflcbdhigaaAuditH
import Derived.Deep.DeepCutAuto
import Derived.Deep.RegionLaw
set_option linter.unusedVariables false
namespace Go.Proofs.Ytgljmflcbdhigaa
open Go.RowKit

theorem info_I : (Try.prog.info? 3).map (fun i => (i.zero, i.size, i.bytes)) = some (some (.int .i64 0), 1, 8) := by kernel_rfl
theorem info_J2 : (Try.prog.info? 34).map (fun i => (i.zero, i.size, i.bytes)) = some (some (.agg #[.int .i64 0, .int .i64 0, .int .i64 0, .int .i64 0, .int .i64 0]), 5, 40) := by kernel_rfl

theorem good_push {jobs : List Job} {idx : Int → List Nat} (x : Entry) (h : Good jobs idx) {n : Nat} (hn : jobs.length = n) : Good (jobs ++ [x.newJob]) (fun i => if i = x.a then idx x.a ++ [n] else idx i) := by
  subst hn
  intro k j
  show j ∈ (if k = x.a then idx x.a ++ [jobs.length] else idx k) ↔ _
  have hlt : ∀ k j, j ∈ idx k → j < jobs.length := fun k j hj => by
    obtain ⟨y, h1, _⟩ := (h k j).1 hj
    exact (List.getElem?_eq_some_iff.1 h1).1
  have hnew : (jobs ++ [x.newJob])[jobs.length]? = some x.newJob := by simp
  have hold : ∀ j, j < jobs.length → (jobs ++ [x.newJob])[j]? = jobs[j]? := fun j hj => List.getElem?_append_left hj
  have hcase : ∀ y, (jobs ++ [x.newJob])[j]? = some y → (j < jobs.length ∧ jobs[j]? = some y) ∨ (j = jobs.length ∧ y = x.newJob) := fun y hy => by
    have hl := (List.getElem?_eq_some_iff.1 hy).1
    rw [List.length_append, List.length_singleton] at hl
    by_cases hj : j < jobs.length
    · rw [hold j hj] at hy; exact .inl ⟨hj, hy⟩
    · have e : j = jobs.length := by omega
      subst e
      rw [hnew] at hy
      cases hy
      exact .inr ⟨rfl, rfl⟩
  by_cases hk : k = x.a
  · subst hk
    rw [if_pos rfl, List.mem_append, List.mem_singleton]
    constructor
    · rintro (hj | rfl)
      · obtain ⟨y, h1, h2⟩ := (h x.a j).1 hj
        exact ⟨y, by rw [hold j (hlt _ j hj)]; exact h1, h2⟩
      · exact ⟨_, hnew, rfl, rfl⟩
    · rintro ⟨y, h1, h2, h3⟩
      rcases hcase y h1 with ⟨_, h4⟩ | ⟨h4, _⟩
      · exact .inl ((h x.a j).2 ⟨y, h4, h2, h3⟩)
      · exact .inr h4
  · rw [if_neg hk]
    constructor
    · intro hj
      obtain ⟨y, h1, h2⟩ := (h k j).1 hj
      exact ⟨y, by rw [hold j (hlt _ j hj)]; exact h1, h2⟩
    · rintro ⟨y, h1, h2, h3⟩
      rcases hcase y h1 with ⟨_, h4⟩ | ⟨_, h4⟩
      · exact (h k j).2 ⟨y, h4, h2, h3⟩
      · subst h4
        exact absurd h2.symm hk

set_option maxRecDepth 8000 in
set_option maxHeartbeats 4000000 in
theorem see_acc (F B : Nat) (jobs : List Job) (high : Bool) (last : Int → Option Int) (x : Entry) (w : World) (h : Fol w F B jobs high last) (hB : B ≤ w.heap.size) (hn : jobs.length ≤ 900) (h0 : x.kind = 0) :
    Calls Try.prog 50 #[.pointer (some ⟨F, 0, none⟩), .agg #[.int .i64 x.tick, .int .i64 x.kind, .int .i64 x.a, .int .i64 x.b]] w fun e w' => e = .returned (.tuple #[]) ∧ Fol w' F B (stepJobs x jobs) (stepHigh x high) (stepLast x last) ∧ Below B w w' ∧ Kept w w' := by
  have hb : x.brk = false := by simp [Entry.brk, h0]
  have e1 : stepJobs x jobs = jobs ++ [x.newJob] := by
    unfold stepJobs
    rw [close_none (fun task => endsK_zero hb task (by rw [h0]; rfl)), if_pos h0]
  have e2 : stepHigh x high = high := by unfold stepHigh; rw [hb]; simp [h0]
  have e3 : stepLast x last = fun k => if k = x.a then some x.tick else last k := by unfold stepLast; rw [if_pos h0]
  rw [e1, e2, e3]
  obtain ⟨jv, M1, l1, c1, M2, l2, c2, idx, h, hgd⟩ := h
  have Hb := Lib.hid hb
  have k0 : (x.kind == 0) = true := by simp [h0]
  have Hgd := Lib.hid hgd
  clear e1 e2 e3 hb h0 hgd
  go_enter Try.func50, Try.ntmps50
  go_wp2_with fail
  refine (breaks_any x _).mono ?_
  rw [Hb.out]
  rintro e w1 ⟨rfl, hb1⟩
  have hbx := (Blk.new w 124 #[.int .i64 x.tick, .int .i64 x.kind, .int .i64 x.a, .int .i64 x.b]).below hb1 (by simp)
  have hw1 : Below w.heap.size w w1 := ((Below.refl _ _).alloc (Nat.le_refl _) _).trans (hb1.mono (by simp))
  have h1 := h.below hw1
  clear h hb1
  have b0 := hbx.cell 0 rfl
  have b1 := hbx.cell 1 rfl
  have b2 := hbx.cell 2 rfl
  have b3 := hbx.cell 3 rfl
  have q0 := h1.blk.cell 0 rfl
  have q1 := h1.blk.cell 1 rfl
  have q3 := h1.blk.cell 3 rfl
  have hs1 := hw1.size
  obtain ⟨jA, jc, hjv, hjl, hjm, hjn, _⟩ := h1.own.row
  obtain ⟨n, hn'⟩ : ∃ n, jobs.length = n := ⟨_, rfl⟩
  rw [hn'] at hjv hn h1
  have hr := h1.openRow x.a
  have hfew := h1.few x.a
  have Hfew := Lib.hid hfew
  have Hn := Lib.hid hn'
  -- what the look-up and the store come to
  have hlk : ∀ W, IMap W M1 l1 c1 → (Instr.lookup 128 (.map (some M1)) (.int .i64 x.a) false).run Try.prog W = .ok ((kget l1 x.a).getD (.slice none 0 0)) W :=
    fun W hW => run_lookup_imap Try.underlying128 Try.underlying3 hW (by kernel_rfl) x.a
  have hup : ∀ W v, IMap W M1 l1 c1 → (Instr.mapUpdate 128 (.map (some M1)) (.int .i64 x.a) v).run Try.prog W = .ok () (World.put W M1 (mapObj (kset l1 x.a v c1) (kclk l1 x.a c1))) :=
    fun W v hW => run_update_imap Try.underlying128 Try.underlying3 hW x.a v
  have Hr := Lib.hid hr
  obtain ⟨rA, rc, hrv, _⟩ := hr.row
  generalize hrv' : (kget l1 x.a).getD (.slice none 0 0) = rv at hlk
  have Hrv := Lib.hid hrv'
  subst hjv
  clear hn' hr hfew hrv hrv'
  go_wp2
  go_cut [] (fun wx => ∃ l1' c1', FolX wx F B (.slice jA n jc) M1 l1' c1' M2 l2 c2 jobs (fun i => if i = x.a then idx x.a ++ [n] else idx i) high last (n + 1) ∧ Blk wx w.heap.size 124 #[.int .i64 x.tick, .int .i64 x.kind, .int .i64 x.a, .int .i64 x.b] ∧ Below B w wx ∧ Kept w wx)
  case first =>
    have m1 := h1.m1
    have hO := Hr.out
    rw [Hrv.out] at hO
    have HO := Lib.hid hO
    clear hO Hr
    have hS : ∀ W : World, Below w1.heap.size w1 W → W.cell? ⟨F, 0, none⟩ = some (.slice jA n jc) ∧ W.cell? ⟨F, 1, none⟩ = some (.map (some M1)) ∧ W.cell? ⟨w.heap.size, 2, none⟩ = some (.int .i64 x.a) := fun W hW =>
      ⟨(h1.blk.below hW h1.blk.lt).cell 0 rfl, (h1.blk.below hW h1.blk.lt).cell 1 rfl, (hbx.below hW hbx.lt).cell 2 rfl⟩
    have md : IMap w1.drew M1 l1 c1 := m1
    have ma : ∀ o, IMap (w1.alloc o).drew M1 l1 c1 := fun o => m1.keep (((Below.refl w1.heap.size w1).drew.alloc (Nat.le_refl _) o).block _ m1.lt)
    have hK : ∀ (v' : Value) (w3 : World), Own repI 3 0 B w3 v' ((idx x.a).map Int.ofNat ++ [(n : Int)]) → (w1.drew.alloc (.cells #[.int .i64 n] 3)).grownBy w3 rv.ownBlock → (v'.ownBlock = rv.ownBlock ∨ v'.ownBlock = some (w1.drew.alloc (.cells #[.int .i64 n] 3)).heap.size) →
        IMap w3 M1 l1 c1 ∧ (w3.cell? ⟨F, 0, none⟩ = some (.slice jA n jc) ∧ w3.cell? ⟨F, 1, none⟩ = some (.map (some M1)) ∧ w3.cell? ⟨w.heap.size, 2, none⟩ = some (.int .i64 x.a)) ∧
        ((World.put w3 M1 (mapObj (kset l1 x.a v' c1) (kclk l1 x.a c1))).cell? ⟨F, 0, none⟩ = some (.slice jA n jc) ∧ (World.put w3 M1 (mapObj (kset l1 x.a v' c1) (kclk l1 x.a c1))).cell? ⟨F, 1, none⟩ = some (.map (some M1)) ∧ (World.put w3 M1 (mapObj (kset l1 x.a v' c1) (kclk l1 x.a c1))).cell? ⟨w.heap.size, 2, none⟩ = some (.int .i64 x.a)) ∧
        FolX (World.put w3 M1 (mapObj (kset l1 x.a v' c1) (kclk l1 x.a c1))) F B (.slice jA n jc) M1 (kset l1 x.a v' c1) (kclk l1 x.a c1) M2 l2 c2 jobs (fun i => if i = x.a then idx x.a ++ [n] else idx i) high last (n + 1) ∧
        Blk (World.put w3 M1 (mapObj (kset l1 x.a v' c1) (kclk l1 x.a c1))) w.heap.size 124 #[.int .i64 x.tick, .int .i64 x.kind, .int .i64 x.a, .int .i64 x.b] ∧
        Below B w (World.put w3 M1 (mapObj (kset l1 x.a v' c1) (kclk l1 x.a c1))) ∧ Kept w (World.put w3 M1 (mapObj (kset l1 x.a v' c1) (kclk l1 x.a c1))) := by
      intro v' w3 hown' hg hat
      have hgo : w1.grownBy w3 rv.ownBlock := by
        obtain ⟨g1, g2, g3, g4, g5⟩ := (World.grownBy_alloc w1.drew _ _).trans hg
        exact ⟨g1, g2, g3, g4, g5⟩
      have hO := HO.out
      have hrv : (kget l1 x.a).getD (.slice none 0 0) = rv := Hrv.out
      have hne : ∀ {t : TypeId} {g : Nat} {cs : Array Value}, Blk w1 g t cs → 3 ≠ t → rv.ownBlock ≠ some g := fun hb ht => fun e => hO.ne_blk hb ht e.symm
      have m3 : IMap w3 M1 l1 c1 := m1.keep (hgo.block M1 m1.lt (fun e => by
        obtain ⟨_, _, cells, hh⟩ := hO.block M1 e.symm
        exact m1.no_cells hh rfl))
      have bF : Blk w3 F _ _ := h1.blk.grown hgo (hO.ne_blk h1.blk (by decide))
      have bx : Blk w3 w.heap.size _ _ := hbx.grown hgo (hO.ne_blk hbx (by decide))
      have bF' := bF.put m3 (mapObj (kset l1 x.a v' c1) (kclk l1 x.a c1))
      have bx' := bx.put m3 (mapObj (kset l1 x.a v' c1) (kclk l1 x.a c1))
      refine ⟨m3, ⟨bF.cell 0 rfl, bF.cell 1 rfl, bx.cell 2 rfl⟩, ⟨bF'.cell 0 rfl, bF'.cell 1 rfl, bx'.cell 2 rfl⟩, ?_, bx', ?_, ((Kept.of_below hw1).trans (Kept.grown hO hgo (.inl rfl))).trans (Kept.putM m3 _)⟩
      · exact h1.pushOpen x.a hown' (by rw [hrv]; exact hgo) (by rw [hrv]; exact hat.imp id (fun e => ⟨_, e, by simp⟩))
      · refine ((hw1.mono hB).grown hgo (by omega) (fun k hk => (hO.block k hk).1)).trans ?_
        exact put_below _ _ _ h1.hM1
    go_region_held3 (fun W : World => W.cell? ⟨F, 0, none⟩ = some (.slice jA n jc) ∧ W.cell? ⟨F, 1, none⟩ = some (.map (some M1)) ∧ W.cell? ⟨w.heap.size, 2, none⟩ = some (.int .i64 x.a)) (first | exact hS _ (Below.refl _ _).drew | exact hS _ ((Below.refl _ _).drew.alloc (Nat.le_refl _) _) | with_reducible exact hS3.2.1 | with_reducible exact hS3.2.2.1) (((refine step_append_row rfl (.tmp 41) (.tmp 47) 42 rfl repI 3 0 B (by kernel_rfl) info_I (by decide) (by decide) (by decide) rv ((idx x.a).map Int.ofNat) ?_ (HO.out.drew.alloc _) (some ⟨w1.heap.size, 0, none⟩) 1 [(n : Int)] ?_ (fun h => by cases h) (Nat.le_refl _) (Row.one (w := w1.drew) rfl (Nat.zero_le _)) (Nat.zero_le _) ?_ ?_ ?_ ?_; (· rfl); (· rfl); (· have := Hfew.out; simp; omega); (· have := Hfew.out; simp; omega); (· simp; omega); intro v' w3 hown' hg hat; have hS3 := hK v' w3 hown' hg hat; have m3 := hS3.1)))
    all_goals (go_wp2_with fail; go_meet; exact ⟨_, _, hS3.2.2.2⟩)
  case rest =>
    clear b0 b1 b2 b3 q0 q1 q3 hbx hw1 h1 hlk hup Hr Hrv hs1 Hfew
    obtain ⟨l1', c1', h1, hbx, hB1, hkp1⟩ := hcut
    have b0 := hbx.cell 0 rfl
    have b2 := hbx.cell 2 rfl
    have q3 := h1.blk.cell 3 rfl
    have hup : ∀ W, IMap W M2 l2 c2 → (Instr.mapUpdate 129 (.map (some M2)) (.int .i64 x.a) (.int .i64 x.tick)).run Try.prog W = .ok () (World.put W M2 (mapObj (kset l2 x.a (.int .i64 x.tick) c2) (kclk l2 x.a c2))) :=
      fun W hW => run_update_imap Try.underlying129 Try.underlying3 hW x.a _
    have m2 : IMap wc.drew M2 l2 c2 := h1.m2
    go_upto_region 9 with fail
    go_cut [] (fun wx => ∃ l2' c2', FolX wx F B (.slice jA n jc) M1 l1' c1' M2 l2' c2' jobs (fun i => if i = x.a then idx x.a ++ [n] else idx i) high (fun i => if i = x.a then some x.tick else last i) (n + 1) ∧ Blk wx w.heap.size 124 #[.int .i64 x.tick, .int .i64 x.kind, .int .i64 x.a, .int .i64 x.b] ∧ Below B w wx ∧ Kept w wx)
    case first =>
      go_region
      go_wp2_with fail
      go_meet
      have h1' := h1.below ((Below.refl wc.heap.size wc).drew)
      exact ⟨_, _, h1'.setLast x.a x.tick, hbx.drew.put h1'.m2 _, (hB1.drew).trans (put_below _ _ _ h1.hM2), (hkp1.trans (Kept.of_below ((Below.refl wc.heap.size wc).drew))).trans (Kept.putM h1'.m2 _)⟩
    case rest =>
      clear b0 b2 q3 hbx h1 hup hB1 m2 hkp1
      obtain ⟨l2', c2', h1, hbx, hB1, hkp1⟩ := hcut
      have b0 := hbx.cell 0 rfl
      have b2 := hbx.cell 2 rfl
      have b3 := hbx.cell 3 rfl
      have q0 := h1.blk.cell 0 rfl
      have qa : ∀ o, (wc.alloc o).cell? ⟨F, 0, none⟩ = some (.slice jA n jc) := fun o => (h1.blk.below ((Below.refl wc.heap.size wc).alloc (Nat.le_refl _) o) h1.blk.lt).cell 0 rfl
      have qb : ∀ o, (wc.alloc o).drew.cell? ⟨F, 0, none⟩ = some (.slice jA n jc) := fun o => qa o
      have hsz := hB1.size
      have HO := Lib.hid h1.own
      have hG := Lib.hid (good_push x Hgd.out Hn.out)
      have hK : ∀ (v' : Value) (w3 : World), Own repJ 34 0 B w3 v' (jobs ++ [x.newJob]) → (wc.drew.alloc (.cells #[.int .i64 x.a, .int .i64 x.b, .int .i64 x.tick, .int .i64 (-1), .int .i64 0] 34)).grownBy w3 (Value.slice jA n jc).ownBlock →
          ((w3.cell? ⟨w.heap.size, 0, none⟩ = some (.int .i64 x.tick) ∧ w3.cell? ⟨w.heap.size, 2, none⟩ = some (.int .i64 x.a) ∧ w3.cell? ⟨w.heap.size, 3, none⟩ = some (.int .i64 x.b)) ∧ 
           ((w3.setCell ⟨F, 0, none⟩ v').cell? ⟨w.heap.size, 0, none⟩ = some (.int .i64 x.tick) ∧ (w3.setCell ⟨F, 0, none⟩ v').cell? ⟨w.heap.size, 2, none⟩ = some (.int .i64 x.a) ∧ (w3.setCell ⟨F, 0, none⟩ v').cell? ⟨w.heap.size, 3, none⟩ = some (.int .i64 x.b))) ∧
          (w3.cell? ⟨F, 0, none⟩ = some (.slice jA n jc) ∧ w3.frozen? ⟨F, 0, none⟩ = false) ∧
          FolX (w3.setCell ⟨F, 0, none⟩ v') F B v' M1 l1' c1' M2 l2' c2' (jobs ++ [x.newJob]) (fun i => if i = x.a then idx x.a ++ [n] else idx i) high (fun i => if i = x.a then some x.tick else last i) (n + 1) ∧
          Below B w (w3.setCell ⟨F, 0, none⟩ v') ∧ Kept w (w3.setCell ⟨F, 0, none⟩ v') := by
        intro v' w3 hown' hg
        have hgo : wc.grownBy w3 (Value.slice jA n jc).ownBlock := by
          obtain ⟨g1, g2, g3, g4, g5⟩ := (World.grownBy_alloc wc.drew _ _).trans hg
          exact ⟨g1, g2, g3, g4, g5⟩
        have bF : Blk w3 F _ _ := h1.blk.grown hgo (h1.own.ne_blk h1.blk (by decide))
        have bx : Blk w3 w.heap.size _ _ := hbx.grown hgo (h1.own.ne_blk hbx (by decide))
        have hFx : F ≠ w.heap.size := by
          intro e
          have h3 := h1.blk
          have h4 := hbx
          rw [← e] at h4
          unfold Blk at h3 h4
          rw [h3] at h4
          injection h4 with h4
          injection h4 with _ h4
          exact absurd h4 (by decide)
        have bx' : Blk (w3.setCell ⟨F, 0, none⟩ v') w.heap.size _ _ := bx.keep (Below.heap_setCell _ _ _ _ (fun e => hFx e.symm))
        exact ⟨⟨⟨bx.cell 0 rfl, bx.cell 2 rfl, bx.cell 3 rfl⟩, ⟨bx'.cell 0 rfl, bx'.cell 2 rfl, bx'.cell 3 rfl⟩⟩, ⟨bF.cell 0 rfl, bF.free 0⟩, h1.pushJob hown' hgo,
          ((hB1.grown hgo (by omega) (fun k hk => (h1.own.block k hk).1)).setCell h1.hF _), (hkp1.trans (Kept.grown h1.own hgo (.inr rfl))).trans (Kept.setF bF 0 _)⟩
      have hS : ∀ W : World, Below wc.heap.size wc W → W.cell? ⟨w.heap.size, 0, none⟩ = some (.int .i64 x.tick) ∧ W.cell? ⟨w.heap.size, 2, none⟩ = some (.int .i64 x.a) ∧ W.cell? ⟨w.heap.size, 3, none⟩ = some (.int .i64 x.b) := fun W hW =>
        ⟨(hbx.below hW hbx.lt).cell 0 rfl, (hbx.below hW hbx.lt).cell 2 rfl, (hbx.below hW hbx.lt).cell 3 rfl⟩
      go_wp2
      go_region_law (((refine step_append_row rfl (.tmp 61) (.tmp 69) 26 rfl repJ 34 0 B (by kernel_rfl) info_J2 (by decide) (by decide) (by decide) (.slice jA n jc) jobs ?_ (HO.out.drew.alloc _) (some ⟨wc.heap.size, 0, none⟩) 1 [x.newJob] ?_ (fun h => by cases h) (Nat.le_refl _) (Row.one (w := wc.drew) rfl (Nat.zero_le _)) (Nat.zero_le _) ?_ ?_ ?_ ?_; (· rfl); (· rfl); (· have := Hn.out; simp; omega); (· have := Hn.out; simp; omega); (· simp; omega); intro v' w3 hown' hg hat; obtain ⟨A', n', c', rfl⟩ : ∃ A' n' c', v' = Value.slice A' n' c' := (by obtain ⟨A', c', hv', _⟩ := hown'.row; exact ⟨_, _, _, hv'⟩); have hS3 := hK _ w3 hown' hg; have c3 := hS3.2.1.1; have f3 := hS3.2.1.2)))
      all_goals (go_wp2_with fail; go_end0; exact ⟨rfl, ⟨_, _, _, _, _, _, _, _, (by rw [List.length_append, Hn.out]; exact hS3.2.2.1), hG.out⟩, hS3.2.2.2⟩)
end Go.Proofs.Ytgljmflcbdhigaa
