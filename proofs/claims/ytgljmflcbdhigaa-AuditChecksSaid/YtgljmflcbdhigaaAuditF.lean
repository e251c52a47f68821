/- The follower of a log in memory: what it holds, and its steps. -/
import Derived.Test.YtgljmflcbdhigaaAuditB
import Derived.Test.YtgljmflcbdhigaaMap
set_option linter.unusedVariables false
namespace Go.Proofs.Ytgljmflcbdhigaa
open Go.RowKit

/-- What a follower holds: jobs, their places that are open by tasks, the mode, the last ticks. -/
structure FolX (w : World) (F B : Nat) (jv : Value) (M1 : Nat) (l1 : List KV) (c1 : Nat) (M2 : Nat) (l2 : List KV) (c2 : Nat) (jobs : List Job) (idx : Int → List Nat) (high : Bool) (last : Int → Option Int) (N : Nat) : Prop where
  blk : Blk w F 131 #[jv, .map (some M1), .bool high, .map (some M2)]
  hF : B ≤ F
  own : Own repJ 34 0 B w jv jobs
  hM1 : B ≤ M1
  m1 : IMap w M1 l1 c1
  k1 : KOk l1 c1
  hM2 : B ≤ M2
  m2 : IMap w M2 l2 c2
  k2 : KOk l2 c2
  ne : M1 ≠ M2
  rows : ∀ p ∈ l1, Own repI 3 0 B w p.2.1 ((idx p.1).map Int.ofNat)
  some_ : ∀ p ∈ l1, 0 < (idx p.1).length
  apart : ∀ p ∈ l1, ∀ q ∈ l1, p.1 ≠ q.1 → ∀ g, p.2.1.ownBlock = some g → q.2.1.ownBlock ≠ some g
  none_ : ∀ k, kget l1 k = none → idx k = []
  lasts : ∀ k, kget l2 k = (last k).map (Value.int .i64)
  lt : ∀ k j, j ∈ idx k → j < N
  few : ∀ k, (idx k).length ≤ N
def shutD (how tick : Int) : List Job → List Nat → List Job
  | jobs, [] => jobs
  | jobs, j :: r => shutD how tick (jobs.modify j fun x => { x with dst := tick, fin := how }) r
theorem shutD_len (how tick : Int) : ∀ (ks : List Nat) (jobs : List Job), (shutD how tick jobs ks).length = jobs.length
  | [], _ => rfl
  | j :: r, jobs => by unfold shutD; rw [shutD_len how tick r, List.length_modify]
theorem shutD_snoc (how tick : Int) (j : Nat) : ∀ (ks : List Nat) (jobs : List Job), shutD how tick jobs (ks ++ [j]) = (shutD how tick jobs ks).modify j fun x => { x with dst := tick, fin := how }
  | [], _ => rfl
  | i :: r, jobs => by simp only [List.cons_append, shutD]; exact shutD_snoc how tick j r _

set_option maxHeartbeats 1000000 in
theorem shut_any (F B : Nat) (jv : Value) (M1 : Nat) (l1 : List KV) (c1 M2 : Nat) (l2 : List KV) (c2 : Nat) (jobs : List Job) (idx : Int → List Nat) (high : Bool) (last : Int → Option Int) (N : Nat) (task how tick : Int) (w : World)
    (h : FolX w F B jv M1 l1 c1 M2 l2 c2 jobs idx high last N) (hN : N ≤ jobs.length) (hB : B ≤ w.heap.size) (hn : jobs.length ≤ 1000) :
    Calls Try.prog 101 #[.pointer (some ⟨F, 0, none⟩), .int .i64 task, .int .i64 how, .int .i64 tick] w fun e w' => e = .returned (.tuple #[]) ∧
      FolX w' F B jv M1 (kdel l1 task) c1 M2 l2 c2 (shutD how tick jobs (idx task)) (fun k => if k = task then [] else idx k) high last N ∧ Below B w w' ∧
      (∀ k, k < w.heap.size → k ≠ M1 → some k ≠ jv.ownBlock → w'.heap[k]? = w.heap[k]?) := by
  have cF0 := h.blk.cell 0 rfl
  have cF1 := h.blk.cell 1 rfl
  have hlk : ∀ W, IMap W M1 l1 c1 → (Instr.lookup 128 (.map (some M1)) (.int .i64 task) false).run Try.prog W = .ok ((kget l1 task).getD (.slice none 0 0)) W :=
    fun W hW => run_lookup_imap Try.underlying128 Try.underlying3 hW (by kernel_rfl) task
  have hl0 := hlk w h.m1
  clear hlk
  -- the row of the task's open places
  obtain ⟨v, hv⟩ : ∃ v, (kget l1 task).getD (.slice none 0 0) = v := ⟨_, rfl⟩
  have hrow : ∃ A c, v = .slice A ((idx task).map Int.ofNat).length c ∧ Row repI 3 0 w A ((idx task).map Int.ofNat) := by
    cases hg : kget l1 task with
    | none =>
      rw [hg] at hv
      rw [h.none_ task hg]
      exact ⟨none, 0, hv.symm, Row.nil⟩
    | some u =>
      rw [hg] at hv
      obtain ⟨c, hc⟩ := kget_mem hg
      obtain ⟨A, c', h1, _, _, _, h2⟩ := (h.rows _ hc).row
      exact ⟨A, c', by rw [← hv]; exact h1, h2⟩
  rw [hv] at hl0
  clear hv
  obtain ⟨A, c, rfl, hrow⟩ := hrow
  obtain ⟨ks, hks⟩ : ∃ ks, idx task = ks := ⟨_, rfl⟩
  have hkl : ks.length ≤ jobs.length := by rw [← hks]; exact Nat.le_trans (h.few task) hN
  have hkj : ∀ j ∈ ks, j < jobs.length := by rw [← hks]; exact fun j hj => Nat.lt_of_lt_of_le (h.lt task j hj) hN
  rw [hks] at hrow hl0
  have Hks := Lib.hid hks
  clear hks
  obtain ⟨n, hn'⟩ : ∃ n, (ks.map Int.ofNat).length = n := ⟨_, rfl⟩
  rw [hn'] at hl0
  have hnk : n ≤ jobs.length := by rw [← hn', List.length_map]; exact hkl
  have Hn := Lib.hid hn'
  have Hkj := Lib.hid hkj
  clear hn' hkl hkj
  go_enter Try.func101, Try.ntmps101
  go_wp2
  go_loopw [17] (fun i wr => ∃ k : Nat, k ≤ n ∧ i = .int .i64 k ∧ Own repJ 34 0 B wr jv (shutD how tick jobs (ks.take k)) ∧ w.grownBy wr jv.ownBlock) (fun i _ => n - (intOf i).toNat)
  case atStart => exact ⟨0, Nat.zero_le _, rfl, h.own, World.grownBy.refl w _⟩
  case round =>
    obtain ⟨k, hk, rfl, hown, hg⟩ := hrel
    by_cases hlt : k < n
    · have hF : Blk wr F 131 #[jv, .map (some M1), .bool high, .map (some M2)] := h.blk.grown hg (h.own.ne_blk h.blk (by decide))
      have hrw : Row repI 3 0 wr A (ks.map Int.ofNat) := hrow.grown hg (fun g hg => ⟨Nat.zero_le _, (h.own.block g hg).2.2⟩) (by decide)
      obtain ⟨ad, x, rfl, hx, h0⟩ := at_I hrw (k := k) (by rw [Hn.out]; exact hlt)
      obtain ⟨j, rfl, hj⟩ : ∃ j : Nat, x = (j : Int) ∧ ks[k]? = some j := by
        rw [List.getElem?_map, Option.map_eq_some_iff] at hx
        obtain ⟨j, h1, h2⟩ := hx
        exact ⟨j, h2.symm, h1⟩
      have hjl : j < jobs.length := Hkj.out j (List.mem_of_getElem? hj)
      have hjl' : (j : Int) < (jobs.length : Int) := by omega
      obtain ⟨g, cap, hjv⟩ : ∃ g cap, jv = .slice (some ⟨g, 0, none⟩) jobs.length cap := h.own.head (by rintro rfl; simp at hjl)
      subst hjv
      have f0 := hF.cell 0 rfl
      obtain ⟨y, hy⟩ : ∃ y, (shutD how tick jobs (ks.take k))[j]? = some y := ⟨_, List.getElem?_eq_getElem (by rw [shutD_len]; exact hjl)⟩
      have q3 : wr.cell? ⟨g, j * 5 + 3, none⟩ = some (.int .i64 y.dst) := hown.cell_flat hy (f := 3) rfl
      have q4 : wr.cell? ⟨g, j * 5 + 4, none⟩ = some (.int .i64 y.fin) := hown.cell_flat hy (f := 4) rfl
      have p3 := hown.free (j * 5 + 3)
      have p4 := hown.free (j * 5 + 4)
      have Hj := Lib.hid hj
      have Hy := Lib.hid hy
      clear cF0 cF1 hl0 hj hx hy
      go_wp2
      go_region
      go_wp2
      go_roundw
      case rel =>
        refine ⟨k + 1, by omega, by go_num, ?_, ?_⟩
        · rw [take_snoc' Hj.out, shutD_snoc]
          have o1 := hown.set_flat Hy.out (f := 3) (y := { y with dst := tick }) (.int .i64 tick) rfl (fun f' hf => by rcases f' with _ | _ | _ | _ | _ | f' <;> first | rfl | omega)
          have hjl2 : j < (shutD how tick jobs (ks.take k)).length := (List.getElem?_eq_some_iff.1 Hy.out).1
          have o2 := o1.set_flat (i := j) (x := { y with dst := tick }) (List.getElem?_set_self hjl2) (f := 4) (y := { y with dst := tick, fin := how }) (.int .i64 how) rfl (fun f' hf => by rcases f' with _ | _ | _ | _ | _ | f' <;> first | rfl | omega)
          rw [List.set_set] at o2
          rw [modify_of_get Hy.out]
          exact o2.drew
        · have hs : ∀ (W : World) (o : Nat) (u : Value), W.grownBy (W.setCell ⟨g, o, none⟩ u) (some g) := fun W o u => ⟨rfl, rfl, rfl, by simp [World.setCell], fun k _ hk => Below.heap_setCell _ _ _ _ (fun e => hk (by rw [e]))⟩
          have := (hg.trans (hs _ (j * 5 + 3) (.int .i64 tick))).trans (hs _ (j * 5 + 4) (.int .i64 how))
          exact ⟨this.os, this.tape, this.output, this.size, this.block⟩
      case measure => simp [intOf]; omega
    · have hF : Blk wr F 131 #[jv, .map (some M1), .bool high, .map (some M2)] := h.blk.grown hg (h.own.ne_blk h.blk (by decide))
      have f1 := hF.cell 1 rfl
      have hcell : ∀ k, (∀ cells e, w.heap[k]? ≠ some (.cells cells e (0, 0))) → some k ≠ jv.ownBlock := fun k hk e => by
        obtain ⟨_, _, cells, hh⟩ := h.own.block k e.symm
        exact hk _ _ hh
      have nm : ∀ {M : Nat} {l : List KV} {c : Nat}, IMap w M l c → some M ≠ jv.ownBlock := fun {M l c} hM => hcell M fun cells e => by
        unfold IMap mapObj at hM
        rw [hM]
        exact fun h => by cases h
      have m1 : IMap wr M1 l1 c1 := h.m1.keep (hg.block M1 h.m1.lt (nm h.m1))
      have m2 : IMap wr M2 l2 c2 := h.m2.keep (hg.block M2 h.m2.lt (nm h.m2))
      have hdel := fun ty => run_delete_imap (P := Try.prog) Try.underlying128 Try.underlying3 m1 task ty
      have hk' : ks.take k = ks := List.take_of_length_le (by have := Hn.out; rw [List.length_map] at this; omega)
      have hb : Below B w wr := ⟨hg.os, hg.tape, hg.output, hg.size, fun k hk => hg.block k (by omega) (fun e => by have := (h.own.block k e.symm).1; omega)⟩
      clear cF0 cF1 hl0
      go_wp2
      go_end0
      generalize hW : World.put wr M1 (mapObj (kdel l1 task) c1) = w2
      have hpo : ∀ k, k ≠ M1 → w2.heap[k]? = wr.heap[k]? := fun k hk => by rw [← hW]; exact put_other _ _ _ _ hk
      rw [hk'] at hown
      have hcl : ∀ {k : Nat} {cells : Array Value} {e : TypeId}, wr.heap[k]? = some (.cells cells e (0, 0)) → w2.heap[k]? = wr.heap[k]? := fun {k cells e} hk => hpo k (m1.no_cells hk)
      refine ⟨rfl, ?_, hb.trans (by rw [← hW]; exact put_below _ _ _ h.hM1), fun k hk hne hc => (hpo k hne).trans (hg.block k hk hc)⟩
      have hne : ∀ p ∈ kdel l1 task, p ∈ l1 ∧ p.1 ≠ task := fun p hp => ⟨mem_kdel hp, fun e => by
        have h1 := kget_del task task l1 h.k1.1
        rw [if_pos rfl] at h1
        exact kget_none.1 h1 p hp e⟩
      subst hW
      exact
        { blk := hF.put m1 _
          hF := h.hF
          own := by rw [Hks.out]; exact hown.put m1 _
          hM1 := h.hM1
          m1 := m1.put _ _
          k1 := h.k1.del task
          hM2 := h.hM2
          m2 := m2.keep (put_other _ _ _ _ (fun e => h.ne e.symm))
          k2 := h.k2
          ne := h.ne
          rows := fun p hp => by
            obtain ⟨hp1, hp2⟩ := hne p hp
            rw [if_neg hp2]
            exact ((h.rows p hp1).grown hg (fun g hg => ⟨Nat.zero_le _, (h.own.block g hg).2.2⟩) (by decide) (fun g hg e => (h.rows p hp1).ne_own h.own (by decide) g e hg)).put m1 _
          some_ := fun p hp => by
            obtain ⟨hp1, hp2⟩ := hne p hp
            rw [if_neg hp2]
            exact h.some_ p hp1
          apart := fun p hp q hq => h.apart p (hne p hp).1 q (hne q hq).1
          none_ := fun k hk => by
            rw [kget_del task k l1 h.k1.1] at hk
            by_cases e : k = task
            · rw [if_pos e]
            · rw [if_neg e] at hk ⊢
              exact h.none_ k hk
          lasts := h.lasts
          lt := fun k j hj => by
            by_cases e : k = task
            · rw [if_pos e] at hj; cases hj
            · rw [if_neg e] at hj; exact h.lt k j hj
          few := fun k => by
            by_cases e : k = task
            · rw [if_pos e]; exact Nat.zero_le _
            · rw [if_neg e]; exact h.few k }
#print axioms shut_any
end Go.Proofs.Ytgljmflcbdhigaa
