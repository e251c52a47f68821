/- The follower of a log: made, and stepped by an entry. -/
import Derived.Test.YtgljmflcbdhigaaAuditF
set_option linter.unusedVariables false
namespace Go.Proofs.Ytgljmflcbdhigaa
open Go.RowKit

/-- Open places are just the jobs that have not ended. -/
def Good (jobs : List Job) (idx : Int → List Nat) : Prop := ∀ k j, j ∈ idx k ↔ ∃ y, jobs[j]? = some y ∧ y.task = k ∧ y.fin = 0
def Fol (w : World) (F B : Nat) (jobs : List Job) (high : Bool) (last : Int → Option Int) : Prop :=
  ∃ jv M1 l1 c1 M2 l2 c2 idx, FolX w F B jv M1 l1 c1 M2 l2 c2 jobs idx high last jobs.length ∧ Good jobs idx

def Entry.close (x : Entry) (y : Job) : Job := if y.fin = 0 ∧ x.ends y.task ≠ 0 then { y with dst := x.tick, fin := x.ends y.task } else y
def Entry.newJob (x : Entry) : Job := ⟨x.a, x.b, x.tick, -1, 0⟩
def stepJobs (x : Entry) (jobs : List Job) : List Job := jobs.map x.close ++ (if x.kind = 0 then [x.newJob] else [])
def stepHigh (x : Entry) (h : Bool) : Bool := if x.brk then false else if x.kind = 7 then true else if x.kind = 9 then false else h
def stepLast (x : Entry) (last : Int → Option Int) : Int → Option Int := if x.kind = 0 then fun k => if k = x.a then some x.tick else last k else last

theorem shutD_get (how tick : Int) (j : Nat) : ∀ (ks : List Nat) (jobs : List Job), (shutD how tick jobs ks)[j]? = (jobs[j]?).map fun y => if j ∈ ks then { y with dst := tick, fin := how } else y
  | [], jobs => by simp [shutD]
  | i :: r, jobs => by
    unfold shutD
    rw [shutD_get how tick j r, List.getElem?_modify]
    cases jobs[j]? with
    | none => simp
    | some y =>
      simp only [Option.map_some, Option.map_eq_map, List.mem_cons]
      by_cases h1 : i = j
      · subst h1
        simp
      · by_cases h2 : j ∈ r
        · simp [h1, h2]
        · have : ¬ j = i := fun e => h1 e.symm
          simp [h1, h2, this]

/-- What is open of one task is ended. -/
theorem shut_good {jobs : List Job} {idx : Int → List Nat} (h : Good jobs idx) (task how tick : Int) (hh : how ≠ 0) :
    shutD how tick jobs (idx task) = jobs.map (fun y => if y.fin = 0 ∧ y.task = task then { y with dst := tick, fin := how } else y) ∧
    Good (shutD how tick jobs (idx task)) (fun k => if k = task then [] else idx k) := by
  have e : shutD how tick jobs (idx task) = jobs.map (fun y => if y.fin = 0 ∧ y.task = task then { y with dst := tick, fin := how } else y) := by
    apply List.ext_getElem?
    intro j
    rw [shutD_get, List.getElem?_map]
    cases hj : jobs[j]? with
    | none => rfl
    | some y =>
      simp only [Option.map_some]
      have : j ∈ idx task ↔ y.fin = 0 ∧ y.task = task := by
        rw [h task j]
        constructor
        · rintro ⟨y', h1, h2, h3⟩
          rw [hj] at h1
          cases h1
          exact ⟨h3, h2⟩
        · rintro ⟨h1, h2⟩
          exact ⟨y, hj, h2, h1⟩
      by_cases hm : j ∈ idx task
      · rw [if_pos hm, if_pos (this.1 hm)]
      · rw [if_neg hm, if_neg (fun h => hm (this.2 h))]
  refine ⟨e, ?_⟩
  rw [e]
  intro k j
  show j ∈ (if k = task then [] else idx k) ↔ _
  constructor
  · intro hj
    by_cases hk : k = task
    · rw [if_pos hk] at hj; cases hj
    · rw [if_neg hk] at hj
      obtain ⟨y, h1, h2, h3⟩ := (h k j).1 hj
      refine ⟨y, ?_, h2, h3⟩
      rw [List.getElem?_map, h1, Option.map_some, if_neg (fun hc => hk (by rw [← h2, hc.2]))]
  · rintro ⟨y, h1, h2, h3⟩
    rw [List.getElem?_map, Option.map_eq_some_iff] at h1
    obtain ⟨y0, h4, h5⟩ := h1
    by_cases hc : y0.fin = 0 ∧ y0.task = task
    · rw [if_pos hc] at h5
      subst h5
      exact absurd h3 hh
    · rw [if_neg hc] at h5
      subst h5
      rw [if_neg (fun e => hc ⟨h3, by rw [h2, e]⟩)]
      exact (h k j).2 ⟨y0, h4, h2, h3⟩

theorem follow_any (w : World) : Calls Try.prog 49 #[] w fun e w' => ∃ F, e = .returned (.pointer (some ⟨F, 0, none⟩)) ∧ Fol w' F w.heap.size [] false (fun _ => none) ∧ Below w.heap.size w w' := by
  have hmm := @run_makeMap Try.prog
  go_enter Try.func49, Try.ntmps49
  go_wp2
  go_ret
  generalize hW : World.alloc _ _ = w1
  have hb : Below w.heap.size w w1 := by rw [← hW]; exact (((Below.refl _ _).alloc (Nat.le_refl _) _).alloc (by simp) _).alloc (by simp <;> omega) _
  refine ⟨w.heap.size + 2, rfl, ⟨.slice none 0 0, w.heap.size, [], 0, w.heap.size + 1, [], 0, fun _ => [], ?_, fun k j => by simp⟩, hb⟩
  have b1 : Blk w1 (w.heap.size + 2) 131 #[.slice none 0 0, .map (some w.heap.size), .bool false, .map (some (w.heap.size + 1))] := by rw [← hW]; exact Blk.new' _ _ _ _ (by simp)
  have m1 : IMap w1 w.heap.size [] 0 := by rw [← hW]; exact (((IMap.made w).keep (Below.heap_alloc _ _ _ (by simp))).keep (Below.heap_alloc _ _ _ (by simp <;> omega)))
  have m2 : IMap w1 (w.heap.size + 1) [] 0 := by
    rw [← hW]
    have := IMap.made (w.alloc (.map #[] 0))
    rw [World.size_alloc] at this
    exact this.keep (Below.heap_alloc _ _ _ (by simp))
  exact
    { blk := b1, hF := by omega, own := Own.nil, hM1 := Nat.le_refl _, m1 := m1, k1 := KOk.nil, hM2 := by omega, m2 := m2, k2 := KOk.nil, ne := by omega
      rows := fun p hp => by cases hp
      some_ := fun p hp => by cases hp
      apart := fun p hp => by cases hp
      none_ := fun _ _ => rfl
      lasts := fun _ => rfl
      lt := fun k j hj => by cases hj
      few := fun k => Nat.le_refl _ }

theorem FolX.set_high {w : World} {F B : Nat} {jv : Value} {M1 : Nat} {l1 : List KV} {c1 M2 : Nat} {l2 : List KV} {c2 : Nat} {jobs : List Job} {idx : Int → List Nat} {high : Bool} {last : Int → Option Int} {N : Nat}
    (h : FolX w F B jv M1 l1 c1 M2 l2 c2 jobs idx high last N) (b : Bool) : FolX (w.setCell ⟨F, 2, none⟩ (.bool b)) F B jv M1 l1 c1 M2 l2 c2 jobs idx b last N := by
  have hg : w.grownBy (w.setCell ⟨F, 2, none⟩ (.bool b)) (some F) := ⟨rfl, rfl, rfl, by simp [World.setCell], fun k _ hk => Below.heap_setCell _ _ _ _ (fun e => hk (by rw [e]))⟩
  have ho : ∀ k cells e, w.heap[k]? = some (.cells cells e (0, 0)) → e ≠ 131 → k ≠ F := by
    rintro k cells e hk he rfl
    have hb := h.blk
    unfold Blk at hb
    rw [hb] at hk
    injection hk with hk
    injection hk with _ ht
    exact he ht.symm
  have hm : ∀ {M : Nat} {l : List KV} {c : Nat}, IMap w M l c → IMap (w.setCell ⟨F, 2, none⟩ (.bool b)) M l c := fun {M l c} hM => hM.keep (Below.heap_setCell _ _ _ _ (fun e => by
    have hb := h.blk
    unfold Blk at hb
    have e : M = F := e
    subst e
    unfold IMap mapObj at hM
    rw [hb] at hM
    cases hM))
  have hown : ∀ {α : Type} {d : Rep α} {e : TypeId} {v : Value} {xs : List α}, e ≠ 131 → d.E = [] → Own d e 0 B w v xs → Own d e 0 B (w.setCell ⟨F, 2, none⟩ (.bool b)) v xs := fun {α d e v xs} he hE h' => h'.keep fun k hk h2 => by
    rcases h2 with h2 | h2 | ⟨c, t, ht, _⟩
    · omega
    · obtain ⟨_, _, cells, hh⟩ := h'.block k h2
      exact Below.heap_setCell _ _ _ _ (ho k cells e hh he)
    · rw [hE] at ht; cases ht
  exact
    { blk := h.blk.set 2 _, hF := h.hF, own := hown (by decide) rfl h.own, hM1 := h.hM1, m1 := hm h.m1, k1 := h.k1, hM2 := h.hM2, m2 := hm h.m2, k2 := h.k2, ne := h.ne
      rows := fun p hp => hown (by decide) rfl (h.rows p hp)
      some_ := h.some_, apart := h.apart, none_ := h.none_, lasts := h.lasts, lt := h.lt, few := h.few }

/-- Behind steps that leave all old memory as it was. -/
theorem FolX.below {w w' : World} {F B : Nat} {jv : Value} {M1 : Nat} {l1 : List KV} {c1 M2 : Nat} {l2 : List KV} {c2 : Nat} {jobs : List Job} {idx : Int → List Nat} {high : Bool} {last : Int → Option Int} {N : Nat}
    (h : FolX w F B jv M1 l1 c1 M2 l2 c2 jobs idx high last N) (hb : Below w.heap.size w w') : FolX w' F B jv M1 l1 c1 M2 l2 c2 jobs idx high last N :=
  { h with
    blk := h.blk.below hb h.blk.lt
    own := h.own.below hb (Nat.le_refl _)
    m1 := h.m1.keep (hb.block _ h.m1.lt)
    m2 := h.m2.keep (hb.block _ h.m2.lt)
    rows := fun p hp => (h.rows p hp).below hb (Nat.le_refl _) }

theorem mem_kset {k : Int} {v : Value} {c : Nat} {p : KV} : ∀ {l : List KV}, (l.map (·.1)).Nodup → p ∈ kset l k v c → (p.1 = k ∧ p.2.1 = v) ∨ (p ∈ l ∧ p.1 ≠ k)
  | [], _, h => by
    unfold kset at h
    rw [List.mem_singleton] at h
    subst h
    exact .inl ⟨rfl, rfl⟩
  | q :: r, hn, h => by
    rw [List.map_cons, List.nodup_cons] at hn
    unfold kset at h
    by_cases hq : q.1 = k
    · rw [if_pos hq] at h
      rcases List.mem_cons.1 h with rfl | h
      · exact .inl ⟨rfl, rfl⟩
      · exact .inr ⟨List.mem_cons_of_mem _ h, fun e => hn.1 (by rw [hq, ← e]; exact List.mem_map.2 ⟨p, h, rfl⟩)⟩
    · rw [if_neg hq] at h
      rcases List.mem_cons.1 h with rfl | h
      · exact .inr ⟨List.mem_cons_self, hq⟩
      · rcases mem_kset hn.2 h with h | ⟨h1, h2⟩
        · exact .inl h
        · exact .inr ⟨List.mem_cons_of_mem _ h1, h2⟩

section
variable {w w3 : World} {F B : Nat} {jv : Value} {M1 : Nat} {l1 : List KV} {c1 M2 : Nat} {l2 : List KV} {c2 : Nat} {jobs : List Job} {idx : Int → List Nat} {high : Bool} {last : Int → Option Int} {N : Nat}
/-- The slice of a task's open places. -/
theorem FolX.openRow (h : FolX w F B jv M1 l1 c1 M2 l2 c2 jobs idx high last N) (k : Int) : Own repI 3 0 B w ((kget l1 k).getD (.slice none 0 0)) ((idx k).map Int.ofNat) := by
  cases hg : kget l1 k with
  | none =>
    rw [h.none_ k hg]
    exact Own.nil
  | some u =>
    obtain ⟨c, hc⟩ := kget_mem hg
    exact h.rows _ hc

/-- A further place is open. -/
theorem FolX.pushOpen (h : FolX w F B jv M1 l1 c1 M2 l2 c2 jobs idx high last N) (k : Int) {v' : Value} (ho : Own repI 3 0 B w3 v' ((idx k).map Int.ofNat ++ [(N : Int)]))
    (hg : w.grownBy w3 ((kget l1 k).getD (.slice none 0 0)).ownBlock) (hl : v'.ownBlock = ((kget l1 k).getD (.slice none 0 0)).ownBlock ∨ ∃ g, v'.ownBlock = some g ∧ w.heap.size ≤ g) :
    FolX (World.put w3 M1 (mapObj (kset l1 k v' c1) (kclk l1 k c1))) F B jv M1 (kset l1 k v' c1) (kclk l1 k c1) M2 l2 c2 jobs (fun i => if i = k then idx k ++ [N] else idx i) high last (N + 1) := by
  have hr := h.openRow k
  have hcell : ∀ {M : Nat} {l : List KV} {c : Nat}, IMap w M l c → some M ≠ ((kget l1 k).getD (.slice none 0 0)).ownBlock := fun {M l c} hM e => by
    obtain ⟨_, _, cells, hh⟩ := hr.block M e.symm
    exact hM.no_cells hh rfl
  have m1 : IMap w3 M1 l1 c1 := h.m1.keep (hg.block M1 h.m1.lt (hcell h.m1))
  have m2 : IMap w3 M2 l2 c2 := h.m2.keep (hg.block M2 h.m2.lt (hcell h.m2))
  have hkeys := fun {p : KV} => mem_kset (k := k) (v := v') (c := c1) (p := p) h.k1.1
  -- another task's row is another row
  have hother : ∀ p ∈ l1, p.1 ≠ k → ∀ g, ((kget l1 k).getD (.slice none 0 0)).ownBlock = some g → p.2.1.ownBlock ≠ some g := fun p hp hk g hgk => by
    cases hkg : kget l1 k with
    | none => rw [hkg] at hgk; simp [Value.ownBlock] at hgk
    | some u =>
      rw [hkg] at hgk
      obtain ⟨c, hc⟩ := kget_mem hkg
      exact h.apart _ hc p hp (fun e => hk e.symm) g hgk
  exact
    { blk := (h.blk.grown hg (hr.ne_blk h.blk (by decide))).put m1 _
      hF := h.hF
      own := (h.own.grown hg (fun g hg => ⟨Nat.zero_le _, (hr.block g hg).2.2⟩) (by decide) (fun g hg e => h.own.ne_own hr (by decide) g e hg)).put m1 _
      hM1 := h.hM1
      m1 := m1.put _ _
      k1 := h.k1.set k v'
      hM2 := h.hM2
      m2 := m2.keep (put_other _ _ _ _ (fun e => h.ne e.symm))
      k2 := h.k2
      ne := h.ne
      rows := fun p hp => by
        rcases hkeys hp with ⟨h1, h2⟩ | ⟨h1, h2⟩
        · rw [if_pos h1, h2, List.map_append]
          exact ho.put m1 _
        · rw [if_neg h2]
          exact ((h.rows p h1).grown hg (fun g hg => ⟨Nat.zero_le _, (hr.block g hg).2.2⟩) (by decide) (hother p h1 h2)).put m1 _
      some_ := fun p hp => by
        rcases hkeys hp with ⟨h1, h2⟩ | ⟨h1, h2⟩
        · rw [if_pos h1]; simp
        · rw [if_neg h2]; exact h.some_ p h1
      apart := fun p hp q hq hpq g hgp => by
        have hlt : ∀ r ∈ l1, ∀ g', r.2.1.ownBlock = some g' → g' < w.heap.size := fun r hr g' hg' => ((h.rows r hr).block g' hg').2.1
        rcases hkeys hp with ⟨h1, h2⟩ | ⟨h1, h2⟩ <;> rcases hkeys hq with ⟨h3, h4⟩ | ⟨h3, h4⟩
        · exact absurd (h1.trans h3.symm) hpq
        · rw [h2] at hgp
          rcases hl with hl | ⟨g', hl, hge⟩
          · rw [hl] at hgp; exact hother q h3 h4 g hgp
          · rw [hl] at hgp
            cases hgp
            intro e
            have := hlt q h3 _ e
            omega
        · rw [h4]
          rcases hl with hl | ⟨g', hl, hge⟩
          · rw [hl]; exact fun e => hother p h1 h2 g e hgp
          · rw [hl]
            intro e
            cases e
            have := hlt p h1 _ hgp
            omega
        · exact h.apart p h1 q h3 hpq g hgp
      none_ := fun i hi => by
        rw [kget_set] at hi
        by_cases e : i = k
        · rw [if_pos e] at hi; cases hi
        · rw [if_neg e] at hi ⊢; exact h.none_ i hi
      lasts := h.lasts
      lt := fun i j hj => by
        by_cases e : i = k
        · rw [if_pos e, List.mem_append, List.mem_singleton] at hj
          rcases hj with hj | rfl
          · have := h.lt k j hj; omega
          · omega
        · rw [if_neg e] at hj
          have := h.lt i j hj; omega
      few := fun i => by
        by_cases e : i = k
        · rw [if_pos e, List.length_append]; have := h.few k; simp; omega
        · rw [if_neg e]; have := h.few i; omega }

/-- The last tick of a task. -/
theorem FolX.setLast (h : FolX w F B jv M1 l1 c1 M2 l2 c2 jobs idx high last N) (k tick : Int) :
    FolX (World.put w M2 (mapObj (kset l2 k (.int .i64 tick) c2) (kclk l2 k c2))) F B jv M1 l1 c1 M2 (kset l2 k (.int .i64 tick) c2) (kclk l2 k c2) jobs idx high (fun i => if i = k then some tick else last i) N :=
  { h with
    blk := h.blk.put h.m2 _
    own := h.own.put h.m2 _
    m1 := h.m1.keep (put_other _ _ _ _ h.ne)
    m2 := h.m2.put _ _
    k2 := h.k2.set k _
    rows := fun p hp => (h.rows p hp).put h.m2 _
    lasts := fun i => by
      rw [kget_set]
      by_cases e : i = k
      · rw [if_pos e, if_pos e]; rfl
      · rw [if_neg e, if_neg e]; exact h.lasts i }

/-- A further job. -/
theorem FolX.pushJob (h : FolX w F B jv M1 l1 c1 M2 l2 c2 jobs idx high last N) {jv' : Value} {jobs' : List Job} (ho : Own repJ 34 0 B w3 jv' jobs') (hg : w.grownBy w3 jv.ownBlock) :
    FolX (w3.setCell ⟨F, 0, none⟩ jv') F B jv' M1 l1 c1 M2 l2 c2 jobs' idx high last N := by
  have hcell : ∀ {M : Nat} {l : List KV} {c : Nat}, IMap w M l c → some M ≠ jv.ownBlock := fun {M l c} hM e => by
    obtain ⟨_, _, cells, hh⟩ := h.own.block M e.symm
    exact hM.no_cells hh rfl
  have m1 : IMap w3 M1 l1 c1 := h.m1.keep (hg.block M1 h.m1.lt (hcell h.m1))
  have m2 : IMap w3 M2 l2 c2 := h.m2.keep (hg.block M2 h.m2.lt (hcell h.m2))
  have blk : Blk w3 F 131 #[jv, .map (some M1), .bool high, .map (some M2)] := h.blk.grown hg (h.own.ne_blk h.blk (by decide))
  have rows : ∀ p ∈ l1, Own repI 3 0 B w3 p.2.1 ((idx p.1).map Int.ofNat) := fun p hp => (h.rows p hp).grown hg (fun g hg => ⟨Nat.zero_le _, (h.own.block g hg).2.2⟩) (by decide) (fun g hg e => (h.rows p hp).ne_own h.own (by decide) g e hg)
  have hm : ∀ {M : Nat} {l : List KV} {c : Nat}, IMap w3 M l c → IMap (w3.setCell ⟨F, 0, none⟩ jv') M l c := fun {M l c} hM => hM.keep (Below.heap_setCell _ _ _ _ (fun e => by
    have e : M = F := e
    subst e
    exact hM.no_cells blk rfl))
  have hown : ∀ {α : Type} {d : Rep α} {e : TypeId} {v : Value} {xs : List α}, e ≠ 131 → d.E = [] → Own d e 0 B w3 v xs → Own d e 0 B (w3.setCell ⟨F, 0, none⟩ jv') v xs := fun {α d e v xs} he hE h' => h'.keep fun k hk h2 => by
    rcases h2 with h2 | h2 | ⟨c, t, ht, _⟩
    · omega
    · exact Below.heap_setCell _ _ _ _ (fun e => by
        have e : k = F := e
        subst e
        exact h'.ne_blk blk he h2.symm)
    · rw [hE] at ht; cases ht
  exact
    { h with
      blk := blk.set 0 _
      own := hown (by decide) rfl ho
      m1 := hm m1
      m2 := hm m2
      rows := fun p hp => hown (by decide) rfl (rows p hp) }
end
/-! ### What the follower's steps leave as it was -/
def Kept (w w' : World) : Prop := ∀ (k : Nat) (cells : Array Value) (t : TypeId), w.heap[k]? = some (.cells cells t (0, 0)) → t ≠ 131 → t ≠ 3 → t ≠ 34 → w'.heap[k]? = w.heap[k]?
theorem Kept.of_below {w w' : World} (h : Below w.heap.size w w') : Kept w w' := fun k _ _ hk _ _ _ => h.block k (Array.getElem?_eq_some_iff.1 hk).1
theorem Kept.trans {a b c : World} (h : Kept a b) (k : Kept b c) : Kept a c := fun g cells t hg h1 h2 h3 => by
  have e := h g cells t hg h1 h2 h3
  exact (k g cells t (e.trans hg) h1 h2 h3).trans e
theorem Kept.blk {w w' : World} {g : Nat} {t : TypeId} {cs : Array Value} (h : Kept w w') (hb : Blk w g t cs) (h1 : t ≠ 131) (h2 : t ≠ 3) (h3 : t ≠ 34) : Blk w' g t cs := by
  unfold Blk at hb ⊢
  exact (h g cs t hb h1 h2 h3).trans hb
theorem Kept.own {w w' : World} {α : Type} {d : Rep α} {e : TypeId} {B : Nat} {v : Value} {xs : List α} (h : Kept w w') (ho : Own d e 0 B w v xs) (hE : d.E = []) (h1 : e ≠ 131) (h2 : e ≠ 3) (h3 : e ≠ 34) : Own d e 0 B w' v xs :=
  ho.keep fun k _ hk => by
    rcases hk with hk | hk | ⟨c, t, ht, _⟩
    · omega
    · obtain ⟨_, _, cells, hh⟩ := ho.block k hk
      exact h k cells e hh h1 h2 h3
    · rw [hE] at ht; cases ht
theorem Kept.setF {w : World} {F : Nat} {cs : Array Value} (hb : Blk w F 131 cs) (i : Nat) (u : Value) : Kept w (w.setCell ⟨F, i, none⟩ u) := fun k cells t hk h1 _ _ => Below.heap_setCell _ _ _ _ (fun e => by
  have e : k = F := e
  subst e
  unfold Blk at hb
  rw [hb] at hk
  injection hk with hk
  injection hk with _ ht
  exact h1 ht.symm)
theorem Kept.putM {w : World} {M : Nat} {l : List KV} {c : Nat} (hm : IMap w M l c) (o : Obj) : Kept w (World.put w M o) := fun k cells t hk _ _ _ => put_other _ _ _ _ (hm.no_cells hk)
theorem Kept.grown {w w' : World} {α : Type} {d : Rep α} {e : TypeId} {B0 B : Nat} {v : Value} {xs : List α} (ho : Own d e B0 B w v xs) (hg : w.grownBy w' v.ownBlock) (he : e = 3 ∨ e = 34) : Kept w w' := fun k cells t hk _ h2 h3 => hg.block k (Array.getElem?_eq_some_iff.1 hk).1 (fun eq => by
  obtain ⟨_, _, cells', hh⟩ := ho.block k eq.symm
  rw [hk] at hh
  injection hh with hh
  injection hh with _ ht
  rcases he with he | he
  · exact h2 (ht.trans he)
  · exact h3 (ht.trans he))
theorem Kept.shut {w w' : World} {F B : Nat} {jv : Value} {M1 : Nat} {l1 : List KV} {c1 M2 : Nat} {l2 : List KV} {c2 : Nat} {jobs : List Job} {idx : Int → List Nat} {high : Bool} {last : Int → Option Int} {N : Nat}
    (h : FolX w F B jv M1 l1 c1 M2 l2 c2 jobs idx high last N) (hk : ∀ k, k < w.heap.size → k ≠ M1 → some k ≠ jv.ownBlock → w'.heap[k]? = w.heap[k]?) : Kept w w' := fun k cells t hh _ _ h3 => hk k (Array.getElem?_eq_some_iff.1 hh).1 (h.m1.no_cells hh) (fun eq => by
  obtain ⟨_, _, cells', hh'⟩ := h.own.block k eq.symm
  rw [hh] at hh'
  injection hh' with hh'
  injection hh' with _ ht
  exact h3 ht)
end Go.Proofs.Ytgljmflcbdhigaa
