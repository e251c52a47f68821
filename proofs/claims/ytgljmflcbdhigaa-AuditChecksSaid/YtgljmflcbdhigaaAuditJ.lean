/- The follower's step by an entry: a break ends all that is open. -/
import Derived.Test.YtgljmflcbdhigaaAuditH
import Derived.Deep.LoopGhost
set_option linter.unusedVariables false
namespace Go.Proofs.Ytgljmflcbdhigaa
open Go.RowKit

theorem kdel_len {k : Int} {p : KV} : ∀ {l : List KV}, p ∈ l → p.1 = k → (kdel l k).length < l.length
  | [], h, _ => by cases h
  | q :: r, h, hk => by
    unfold kdel
    by_cases hq : q.1 = k
    · rw [if_pos hq]; simp
    · rw [if_neg hq]
      rcases List.mem_cons.1 h with rfl | h
      · exact absurd hk hq
      · have := kdel_len h hk
        simp only [List.length_cons]
        omega
/-- An iterator is written, nothing else. -/
theorem FolX.iter {w w' : World} {F B : Nat} {jv : Value} {M1 : Nat} {l1 : List KV} {c1 M2 : Nat} {l2 : List KV} {c2 : Nat} {jobs : List Job} {idx : Int → List Nat} {high : Bool} {last : Int → Option Int} {N I : Nat}
    (h : FolX w F B jv M1 l1 c1 M2 l2 c2 jobs idx high last N) (hk : ∀ k, k ≠ I → w'.heap[k]? = w.heap[k]?) (hI : ∀ cells e f, w.heap[I]? ≠ some (.cells cells e f)) (hM : ∀ l c, ¬ IMap w I l c) : FolX w' F B jv M1 l1 c1 M2 l2 c2 jobs idx high last N := by
  have hb : ∀ {g : Nat} {t : TypeId} {cs : Array Value}, Blk w g t cs → Blk w' g t cs := fun {g t cs} hg => hg.keep (hk g (fun e => by unfold Blk at hg; exact hI _ _ _ (by rw [← e]; exact hg)))
  have hm : ∀ {M : Nat} {l : List KV} {c : Nat}, IMap w M l c → IMap w' M l c := fun {M l c} hg => hg.keep (hk M (fun e => hM l c (by subst e; exact hg)))
  have hown : ∀ {α : Type} {d : Rep α} {e : TypeId} {v : Value} {xs : List α}, d.E = [] → Own d e 0 B w v xs → Own d e 0 B w' v xs := fun {α d e v xs} hE h' => h'.keep fun k _ h2 => by
    rcases h2 with h2 | h2 | ⟨c, t, ht, _⟩
    · omega
    · obtain ⟨_, _, cells, hh⟩ := h'.block k h2
      exact hk k (fun e => hI _ _ _ (by rw [← e]; exact hh))
    · rw [hE] at ht; cases ht
  exact
    { h with
      blk := hb h.blk
      own := hown rfl h.own
      m1 := hm h.m1
      m2 := hm h.m2
      rows := fun p hp => hown rfl (h.rows p hp) }

/-- One round's shutting keeps what the break is to make. -/
theorem brk_shut {x : Entry} (hb : x.brk = true) {jobs : List Job} {idx : Int → List Nat} (h : Good jobs idx) (task : Int) :
    (shutD 5 x.tick jobs (idx task)).map x.close = jobs.map x.close ∧ Good (shutD 5 x.tick jobs (idx task)) (fun k => if k = task then [] else idx k) := by
  obtain ⟨h1, h2⟩ := shut_good h task 5 x.tick (by decide)
  refine ⟨?_, h2⟩
  rw [h1, List.map_map]
  apply List.map_congr_left
  intro y _
  have he : ∀ t, x.ends t = 5 := fun t => by unfold Entry.ends; rw [hb]; rfl
  show x.close (if y.fin = 0 ∧ y.task = task then { y with dst := x.tick, fin := 5 } else y) = x.close y
  by_cases hy : y.fin = 0 ∧ y.task = task
  · rw [if_pos hy]
    unfold Entry.close
    simp [he, hy.1]
  · rw [if_neg hy]
theorem brk_done {x : Entry} {jobs : List Job} {idx : Int → List Nat} (h : Good jobs idx) (h0 : ∀ k, idx k = []) : jobs.map x.close = jobs := by
  have : ∀ y ∈ jobs, x.close y = y := by
    intro y hy
    obtain ⟨j, hj⟩ := List.getElem?_of_mem hy
    unfold Entry.close
    rw [if_neg]
    rintro ⟨h1, _⟩
    have := (h y.task j).2 ⟨y, hj, rfl, h1⟩
    rw [h0] at this
    cases this
  rw [List.map_congr_left this, List.map_id']

set_option maxRecDepth 8000 in
set_option maxHeartbeats 4000000 in
theorem see_brk (F B : Nat) (jobs : List Job) (high : Bool) (last : Int → Option Int) (x : Entry) (w : World) (h : Fol w F B jobs high last) (hB : B ≤ w.heap.size) (hn : jobs.length ≤ 900) (hb : x.brk = true) :
    Calls Try.prog 50 #[.pointer (some ⟨F, 0, none⟩), .agg #[.int .i64 x.tick, .int .i64 x.kind, .int .i64 x.a, .int .i64 x.b]] w fun e w' => e = .returned (.tuple #[]) ∧ Fol w' F B (stepJobs x jobs) (stepHigh x high) (stepLast x last) ∧ Below B w w' ∧ Kept w w' := by
  have h0 : x.kind ≠ 0 := by
    intro h0
    unfold Entry.brk at hb
    simp [h0] at hb
  have e1 : stepJobs x jobs = jobs.map x.close := by
    unfold stepJobs
    rw [if_neg h0, List.append_nil]
  have e2 : stepHigh x high = false := by unfold stepHigh; rw [hb]; rfl
  have e3 : stepLast x last = last := by unfold stepLast; rw [if_neg h0]
  rw [e1, e2, e3]
  obtain ⟨jv, M1, l1, c1, M2, l2, c2, idx, h, hgd⟩ := h
  have Hb := Lib.hid hb
  have Hgd := Lib.hid hgd
  clear e1 e2 e3 hb h0 hgd
  go_enter Try.func50, Try.ntmps50
  go_wp2_with fail
  refine (breaks_any x _).mono ?_
  rw [Hb.out]
  rintro e w1 ⟨rfl, hb1⟩
  have hbx := (Blk.new w 124 #[.int .i64 x.tick, .int .i64 x.kind, .int .i64 x.a, .int .i64 x.b]).below hb1 (by simp)
  have hw1 : Below w.heap.size w w1 := ((Below.refl _ _).alloc (Nat.le_refl _) _).trans (hb1.mono (by simp))
  have h1 := h.below hw1
  clear h hb1
  have q2 := h1.blk.cell 2 rfl
  have p2 := h1.blk.free 2
  have h2 := h1.set_high false
  have hFx : F ≠ w.heap.size := by
    intro e
    have h3 := h1.blk
    have h4 := hbx
    rw [← e] at h4
    unfold Blk at h3 h4
    rw [h3] at h4
    injection h4 with h4
    injection h4 with _ h4
    exact absurd h4 (by decide)
  have hbx2 : Blk (w1.setCell ⟨F, 2, none⟩ (.bool false)) w.heap.size _ _ := hbx.keep (Below.heap_setCell _ _ _ _ (fun e => hFx e.symm))
  have hw2 : Below B w (w1.setCell ⟨F, 2, none⟩ (.bool false)) := (hw1.mono hB).setCell h1.hF _
  have hkp2 : Kept w (w1.setCell ⟨F, 2, none⟩ (.bool false)) := (Kept.of_below hw1).trans (Kept.setF h1.blk 2 _)
  have hs2 : w.heap.size ≤ (w1.setCell ⟨F, 2, none⟩ (.bool false)).heap.size := hw2.size
  have q1 := h2.blk.cell 1 rfl
  obtain ⟨hrg, hit⟩ := run_range_imap (P := Try.prog) Try.underlying128 h2.m1 (fun p hp => h2.k1.2.2 p hp)
  generalize hW2 : w1.setCell ⟨F, 2, none⟩ (.bool false) = w2 at h2 hbx2 hw2 q1 hrg hit hs2 hkp2
  go_wp2
  have hbI : Below w2.heap.size w2 (w2.alloc (.mapIter (some M1) c1 #[] c1)) := (Below.refl _ _).alloc (Nat.le_refl _) _
  have h3 := h2.below hbI
  have hbx3 := hbx2.below hbI hbx2.lt
  have hw3 := (hw2.trans (hbI.mono (by omega)))
  have hkp3 := hkp2.trans (Kept.of_below hbI)
  have hs3 : w2.heap.size < (w2.alloc (.mapIter (some M1) c1 #[] c1)).heap.size := by simp
  generalize hW3 : w2.alloc (.mapIter (some M1) c1 #[] c1) = w3 at h3 hbx3 hw3 hit hs3 hkp3
  obtain ⟨I, hI⟩ : ∃ I, w2.heap.size = I := ⟨_, rfl⟩
  rw [hI] at hit hs2
  simp only [hI]
  have hIw : w.heap.size ≤ I := hs2
  clear h1 h2 hbx hbx2 hw1 hw2 q1 q2 p2 hrg hbI hs2 hs3 hW2 hW3 hI hkp2
  go_loopg [] l1.length (fun k wr => ∃ l1' idx' jobs', l1'.length = k ∧ FolX wr F B jv M1 l1' c1 M2 l2 c2 jobs' idx' false last jobs.length ∧ jobs'.length = jobs.length ∧ Good jobs' idx' ∧ IIter wr I M1 l1' c1 ∧ jobs'.map x.close = jobs.map x.close ∧ Blk wr w.heap.size 124 #[.int .i64 x.tick, .int .i64 x.kind, .int .i64 x.a, .int .i64 x.b] ∧ Below B w wr ∧ Kept w wr)
  case atStart => exact ⟨l1, idx, jobs, rfl, h3, rfl, Hgd.out, hit, rfl, hbx3, hw3, hkp3⟩
  case round =>
    obtain ⟨l1', idx', jobs', hk, h4, hl4, hg4, hit4, hc4, hbx4, hw4, hkp4⟩ := hrel
    rcases run_next_imap (P := Try.prog) h4.m1 hit4 0 with ⟨hnil, hnx⟩ | ⟨p, w5, hp, hnx, ⟨seen, hh5, hs5, hns5⟩, ho5, ht5, hu5⟩
    · go_wp2
      go_end0
      subst hnil
      have hno : ∀ k, idx' k = [] := fun k => h4.none_ k rfl
      have e := brk_done (x := x) hg4 hno
      rw [← hc4, e]
      exact ⟨rfl, ⟨_, _, _, _, _, _, _, _, by rw [hl4]; exact h4, hg4⟩, hw4, hkp4⟩
    · have hIt : ∃ sn, wr.heap[I]? = some (.mapIter (some M1) c1 sn c1) := by obtain ⟨sn, h, _⟩ := hit4; exact ⟨sn, h⟩
      obtain ⟨sn, hIt⟩ := hIt
      have hne5 : ∀ k, k ≠ I → w5.heap[k]? = wr.heap[k]? := fun k hk => by rw [hh5, Array.getElem?_setIfInBounds_ne (fun e => hk e.symm)]
      have h5 := h4.iter hne5 (fun _ _ _ e => by rw [hIt] at e; cases e) (fun l c e => by unfold IMap mapObj at e; rw [hIt] at e; cases e)
      have hx5 := hbx4.keep (hne5 w.heap.size (fun e => by
        have := hbx4
        unfold Blk at this
        rw [e, hIt] at this
        cases this))
      have hI5 : w5.heap[I]? = some (.mapIter (some M1) c1 seen c1) := by
        rw [hh5, Array.getElem?_setIfInBounds_self_of_lt (Array.getElem?_eq_some_iff.1 hIt).1]
      have hw5 : Below B w w5 := hw4.trans ⟨ho5, ht5, hu5, by rw [hh5]; simp, fun k hk => hne5 k (by omega)⟩
      have hkp5 : Kept w w5 := hkp4.trans (fun k cells t hk _ _ _ => hne5 k (fun e => by rw [e, hIt] at hk; cases hk))
      have hen := run_entry_imap (P := Try.prog) h5.m1 hI5 hs5 hp (fun q hq e => h5.k1.born hp hq e)
      have b0 := hx5.cell 0 rfl
      have hs5' := hw5.size
      go_wp2_with fail
      refine (shut_any F B jv M1 l1' c1 M2 l2 c2 jobs' idx' false last jobs.length p.1 5 x.tick _ h5 (Nat.le_of_eq hl4.symm) (by omega) (by omega)).mono ?_
      rintro e w6 ⟨rfl, h6, hb6, hk6⟩
      have hx6 := box_keep h5 hx5 hk6
      have hI6 : w6.heap[I]? = some (.mapIter (some M1) c1 seen c1) := by
        rw [hk6 I (Array.getElem?_eq_some_iff.1 hI5).1 (fun e => by have := h5.m1; unfold IMap mapObj at this; rw [← e, hI5] at this; cases this) (fun e => by
          obtain ⟨_, _, cells, hh⟩ := h5.own.block I e.symm
          rw [hI5] at hh
          cases hh)]
        exact hI5
      obtain ⟨s1, s2⟩ := brk_shut Hb.out hg4 p.1
      go_wp2
      go_roundg (kdel l1' p.1).length
      case measure => rw [← hk]; exact kdel_len hp rfl
      case rel =>
        refine ⟨kdel l1' p.1, _, _, rfl, h6, by rw [shutD_len]; exact hl4, s2, ⟨seen, hI6, fun q hq => ?_⟩, s1.trans hc4, hx6, hw5.trans hb6, hkp5.trans (Kept.shut h5 hk6)⟩
        have hq' := mem_kdel hq
        refine ⟨h5.k1.2.2 q hq', hns5 q hq' (fun e => ?_)⟩
        have e := h5.k1.born hp hq' e
        subst e
        exact kget_none.1 (by rw [kget_del _ _ _ h5.k1.1, if_pos rfl] : kget (kdel l1' q.1) q.1 = none) q hq rfl
end Go.Proofs.Ytgljmflcbdhigaa
