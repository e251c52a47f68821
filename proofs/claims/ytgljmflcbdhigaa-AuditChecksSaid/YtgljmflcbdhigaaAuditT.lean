/- What the report finds of a log. -/
import Derived.Test.YtgljmflcbdhigaaAuditS
import Derived.Deep.DeepCutAuto
set_option linter.unusedVariables false
set_option linter.unusedSimpArgs false
namespace Go.Proofs.Ytgljmflcbdhigaa
open Go.RowKit

/-! ### The accepted jobs' places in the log's jobs -/
theorem stJobs_lenOf (l : List Entry) : (stJobs l).length = (l.filter fun y => decide (y.kind = 0)).length := by
  suffices h : ∀ (l : List Entry) (j : List Job), (l.foldl (fun j x => stepJobs x j) j).length = j.length + (l.filter fun y => decide (y.kind = 0)).length by simpa [stJobs] using h l []
  intro l
  induction l with
  | nil => intro j; simp
  | cons x l ih =>
    intro j
    simp only [List.foldl_cons]
    rw [ih]
    unfold stepJobs
    by_cases hx : x.kind = 0
    · simp [hx]; omega
    · simp [hx]
theorem jobsFrom_at (l : List Entry) : ∀ (r : List Entry) (k i : Nat) (x : Entry), r[i]? = some x → x.kind = 0 → (jobsFrom l k r)[((r.take i).filter fun y => decide (y.kind = 0)).length]? = some (jobD l (k + i) x)
  | [], k, i, x, h, _ => by simp at h
  | y :: r, k, 0, x, h, h0 => by
    cases h
    unfold jobsFrom
    simp [h0]
  | y :: r, k, i + 1, x, h, h0 => by
    rw [List.getElem?_cons_succ] at h
    have ih := jobsFrom_at l r (k + 1) i x h h0
    rw [show k + 1 + i = k + (i + 1) by omega] at ih
    unfold jobsFrom
    rw [List.take_succ_cons]
    by_cases hy : y.kind = 0
    · rw [if_pos hy, List.filter_cons_of_pos (by simp [hy]), List.length_cons, List.getElem?_cons_succ]
      exact ih
    · rw [if_neg hy, List.filter_cons_of_neg (by simp [hy])]
      exact ih
theorem jobsD_at {l : List Entry} {i : Nat} {x : Entry} (h : l[i]? = some x) (h0 : x.kind = 0) : (jobsD l)[(stJobs (l.take i)).length]? = some (jobD l i x) := by
  rw [stJobs_lenOf]
  have := jobsFrom_at l l 0 i x h h0
  rwa [Nat.zero_add] at this
theorem stLast_light {l : List Entry} (h : lightD l) : ∀ k q, stLast l k = some q → 0 ≤ q ∧ q ≤ 2305843009213693952 := by
  suffices hh : ∀ (l : List Entry), lightD l → ∀ (f : Int → Option Int), (∀ k q, f k = some q → 0 ≤ q ∧ q ≤ 2305843009213693952) → ∀ k q, (l.foldl (fun j x => stepLast x j) f) k = some q → 0 ≤ q ∧ q ≤ 2305843009213693952 from hh l h _ (fun k q e => by cases e)
  intro l
  induction l with
  | nil => intro _ f hf; exact hf
  | cons x l ih =>
    intro hl f hf
    rw [List.foldl_cons]
    refine ih (fun y hy => hl y (List.mem_cons_of_mem _ hy)) _ (fun k q e => ?_)
    rw [stepLast_at] at e
    by_cases hx : x.kind = 0 ∧ x.a = k
    · rw [if_pos hx] at e
      cases e
      exact hl x List.mem_cons_self
    · rw [if_neg hx] at e
      exact hf k q e
theorem acceptS_eq (ts : List TaskD) (l : List Entry) (now : Int) (i : Nat) (x : Entry) : acceptS ts (stJobs (l.take i)) (stHigh (l.take i)) (stLast (l.take i)) (jobD l i x) now i x = acceptD ts l now i x := rfl
theorem lightD_take {l : List Entry} (h : lightD l) (i : Nat) : lightD (l.take i) := fun x hx => h x (List.mem_of_mem_take hx)

/-- The follower is untouched where a row of faults grows. -/
theorem FolX.other {w w' : World} {F B : Nat} {jv : Value} {M1 : Nat} {l1 : List KV} {c1 M2 : Nat} {l2 : List KV} {c2 : Nat} {jobs : List Job} {idx : Int → List Nat} {high : Bool} {last : Int → Option Int} {N : Nat} {B1 : Nat} {v : Value} {xs : List Fault}
    (h : FolX w F B jv M1 l1 c1 M2 l2 c2 jobs idx high last N) (ho : Own repF 58 0 B1 w v xs) (hg : w.grownBy w' v.ownBlock) : FolX w' F B jv M1 l1 c1 M2 l2 c2 jobs idx high last N := by
  have hcell : ∀ {M : Nat} {l : List KV} {c : Nat}, IMap w M l c → some M ≠ v.ownBlock := fun {M l c} hM e => by
    obtain ⟨_, _, cells, hh⟩ := ho.block M e.symm
    exact hM.no_cells hh rfl
  exact
    { h with
      blk := h.blk.grown hg (ho.ne_blk h.blk (by decide))
      own := h.own.grown hg (fun g hg => ⟨Nat.zero_le _, (ho.block g hg).2.2⟩) (by decide) (fun g hg e => h.own.ne_own ho (by decide) g e hg)
      m1 := h.m1.keep (hg.block M1 h.m1.lt (hcell h.m1))
      m2 := h.m2.keep (hg.block M2 h.m2.lt (hcell h.m2))
      rows := fun p hp => (h.rows p hp).grown hg (fun g hg => ⟨Nat.zero_le _, (ho.block g hg).2.2⟩) (by decide) (fun g hg e => (h.rows p hp).ne_own ho (by decide) g e hg) }

/-- What stands while the report is made. -/
structure CI (B0 P N L V F BF : Nat) (pc : Array Value) (now : Int) (v1 : Value) (l : List Entry) (jobs : List Job) (high : Bool) (last : Int → Option Int) (W : World) : Prop where
  hP : Blk W P 52 pc
  hN : Blk W N 3 #[.int .i64 now]
  hL : Blk W L 26 #[v1]
  hV : Blk W V 125 #[.pointer (some ⟨F, 0, none⟩)]
  hJ : Own repJ 34 0 B0 W v1 (jobsD l)
  hF : Fol W F BF jobs high last
  lP : P < BF
  lN : N < BF
  lL : L < BF
  lJ : ∀ g, v1.ownBlock = some g → g < BF
  lB : BF ≤ W.heap.size
section
variable {B0 P N L V F BF : Nat} {pc : Array Value} {now : Int} {v1 : Value} {l : List Entry} {jobs : List Job} {high : Bool} {last : Int → Option Int} {W W' : World}
theorem CI.below (h : CI B0 P N L V F BF pc now v1 l jobs high last W) (hb : Below W.heap.size W W') : CI B0 P N L V F BF pc now v1 l jobs high last W' :=
  { h with
    hP := h.hP.below hb h.hP.lt
    hN := h.hN.below hb h.hN.lt
    hL := h.hL.below hb h.hL.lt
    hV := h.hV.below hb h.hV.lt
    hJ := h.hJ.below hb (Nat.le_refl _)
    hF := h.hF.below hb
    lB := Nat.le_trans h.lB hb.size }
theorem CI.grown {B1 : Nat} {v : Value} {xs : List Fault} (h : CI B0 P N L V F BF pc now v1 l jobs high last W) (ho : Own repF 58 0 B1 W v xs) (hg : W.grownBy W' v.ownBlock) : CI B0 P N L V F BF pc now v1 l jobs high last W' :=
  { h with
    hP := h.hP.grown hg (ho.ne_blk h.hP (by decide))
    hN := h.hN.grown hg (ho.ne_blk h.hN (by decide))
    hL := h.hL.grown hg (ho.ne_blk h.hL (by decide))
    hV := h.hV.grown hg (ho.ne_blk h.hV (by decide))
    hJ := h.hJ.grown hg (fun g hg => ⟨Nat.zero_le _, (ho.block g hg).2.2⟩) (by decide) (fun g hg e => h.hJ.ne_own ho (by decide) g e hg)
    hF := by
      obtain ⟨jv, M1, l1, c1, M2, l2, c2, idx, hx, hgd⟩ := h.hF
      exact ⟨jv, M1, l1, c1, M2, l2, c2, idx, hx.other ho hg, hgd⟩
    lB := Nat.le_trans h.lB hg.size }
theorem CI.see {jobs' : List Job} {high' : Bool} {last' : Int → Option Int} (h : CI B0 P N L V F BF pc now v1 l jobs high last W) (hF : Fol W' F BF jobs' high' last') (hb : Below BF W W') (hk : Kept W W') : CI B0 P N L V F BF pc now v1 l jobs' high' last' W' :=
  { h with
    hP := h.hP.keep (hb.block _ h.lP)
    hN := h.hN.keep (hb.block _ h.lN)
    hL := h.hL.keep (hb.block _ h.lL)
    hV := hk.blk h.hV (by decide) (by decide) (by decide)
    hJ := h.hJ.keep fun k _ h2 => by
      rcases h2 with h2 | h2 | ⟨c, t, ht, _⟩
      · omega
      · exact hb.block k (h.lJ k h2)
      · cases ht
    hF := hF
    lB := Nat.le_trans h.lB hb.size }
end

set_option maxRecDepth 100000 in
set_option maxHeartbeats 4000000 in
theorem check_any (B : Nat) (A : Option Addr) (c : Nat) (l : List Entry) (T : Option Addr) (tc : Nat) (ts : List TaskD) (o1 o2 o3 o4 o5 : Value) (now : Int) (w : World) (hl : Row repE 124 B w A l) (ht : Row repT 139 B w T ts) (hn : l.length ≤ 80) (hli : lightD l) (hts : ts.length ≤ 20) (hnow : 0 ≤ now ∧ now ≤ 2305843009213693952)
    (p1 : o1.oneCell' = true) (p2 : o2.oneCell' = true) (p3 : o3.oneCell' = true) (p4 : o4.oneCell' = true) (p5 : o5.oneCell' = true) :
    Calls Try.prog 19 #[.agg #[.slice T ts.length tc, o1, o2, o3, o4, o5], .slice A l.length c, .int .i64 now] w fun e w' => ∃ v, e = .returned v ∧ Own repF 58 0 w.heap.size w' v (checkD ts l now) ∧ Below w.heap.size w w' := by
  obtain ⟨n, hn'⟩ : ∃ n, l.length = n := ⟨_, rfl⟩
  rw [hn']
  have Hn := Lib.hid hn'
  rw [hn'] at hn
  clear hn'
  have Hli := Lib.hid hli
  clear hli
  have hlA : ∀ W, Below w.heap.size w W → Row repE 124 B W A l := fun W hW => hl.keep fun j hj _ => hW.block j hj
  have htA : ∀ W, Below w.heap.size w W → Row repT 139 B W T ts := fun W hW => ht.keep fun j hj _ => hW.block j hj
  have cJobs := fun W hW => jobs_any B A c l W (hlA W hW) (by rw [Hn.out]; omega)
  rw [Hn.out] at cJobs
  go_enter Try.func19, Try.ntmps19
  go_wp2_with fail
  refine (cJobs _ (((Below.refl _ _).alloc (Nat.le_refl _) _).alloc (by simp) _)).mono ?_
  rintro e w1 ⟨v1, rfl, hownJ, hb1⟩
  have hz1 : w.heap.size + 1 + 1 ≤ w1.heap.size := by have := hb1.size; simpa using this
  have hP1 : Blk w1 w.heap.size 52 #[.slice T ts.length tc, o1, o2, o3, o4, o5] := ((Blk.new w _ _).alloc (.cells #[.int .i64 now] 3)).below hb1 (by simp <;> omega)
  have hN1 : Blk w1 (w.heap.size + 1) 3 #[.int .i64 now] := (Blk.new' (w.alloc (.cells #[.slice T ts.length tc, o1, o2, o3, o4, o5] 52)) (w.heap.size + 1) 3 #[.int .i64 now] (by simp)).below hb1 (by simp)
  have hw1 : Below w.heap.size w w1 := (((Below.refl _ _).alloc (Nat.le_refl _) _).alloc (by simp) _).trans (hb1.mono (by simp <;> omega))
  rw [World.size_alloc, World.size_alloc] at hownJ
  have hmf : ∀ (fn : Fn) (first cap : Array Value) (w : World), (Instr.makeFunc fn first cap).run Try.prog w = .ok (.func fn first cap) w := fun _ _ _ _ => rfl
  clear hb1 cJobs
  obtain ⟨jA, jn, jc, hj1, hjn⟩ : ∃ A n c, v1 = Value.slice A n c ∧ n = (jobsD l).length := by obtain ⟨A', c', hv', _⟩ := hownJ.row; exact ⟨_, _, _, hv', rfl⟩
  have Hjn := Lib.hid hjn
  clear hjn
  subst hj1
  go_wp2_with fail
  refine (follow_any _).mono ?_
  rintro e w2 ⟨F, rfl, hF, hb2⟩
  have hL2 : Blk w2 w1.heap.size 26 #[.slice jA jn jc] := (Blk.new w1 _ _).below hb2 (by simp)
  have hb2' : Below w1.heap.size w1 w2 := ((Below.refl _ _).alloc (Nat.le_refl _) _).trans (hb2.mono (by simp))
  have hsz2 := hb2.size
  rw [World.size_alloc] at hsz2 hF
  have hci : ∀ o, o = Obj.cells #[.pointer (some ⟨F, 0, none⟩)] 125 → CI (w.heap.size + 1 + 1) w.heap.size (w.heap.size + 1) w1.heap.size w2.heap.size F (w1.heap.size + 1) #[.slice T ts.length tc, o1, o2, o3, o4, o5] now (.slice jA jn jc) l [] false (fun _ => none) (w2.alloc o) := by
    rintro o rfl
    have hz : Below w2.heap.size w2 (w2.alloc (.cells #[.pointer (some ⟨F, 0, none⟩)] 125)) := (Below.refl _ _).alloc (Nat.le_refl _) _
    exact
      { hP := (hP1.below hb2' hP1.lt).below hz (hP1.below hb2' hP1.lt).lt
        hN := (hN1.below hb2' hN1.lt).below hz (hN1.below hb2' hN1.lt).lt
        hL := hL2.below hz hL2.lt
        hV := Blk.new _ _ _
        hJ := (hownJ.below hb2' (Nat.le_refl _)).below hz (Nat.le_refl _)
        hF := hF.below hz
        lP := by omega
        lN := by omega
        lL := by omega
        lJ := fun g hg => Nat.lt_succ_of_lt (hownJ.block g hg).2.1
        lB := by simp; omega }
  go_wp2
  generalize hW0 : World.alloc w2 _ = w3
  have hci3 := hci _ rfl
  rw [hW0] at hci3
  have hw3 : Below w.heap.size w w3 := by rw [← hW0]; exact (hw1.trans (hb2'.mono (by omega))).alloc (by omega) _
  clear hW0 hci hF hb2 hb2' hL2 hP1 hN1 hownJ
  generalize w2.heap.size = gV at hci3 hsz2 ⊢
  generalize w1.heap.size = gL at hci3 hsz2 hz1 ⊢
  go_loopw [7, 19] (fun v j wr => ∃ k : Nat, k ≤ n ∧ j = .int .i64 k ∧ Own repF 58 0 w.heap.size wr v (checkFrom ts l now 0 (l.take k)) ∧ CI (w.heap.size + 1 + 1) w.heap.size (w.heap.size + 1) gL gV F (gL + 1) #[.slice T ts.length tc, o1, o2, o3, o4, o5] now (.slice jA jn jc) l (stJobs (l.take k)) (stHigh (l.take k)) (stLast (l.take k)) wr ∧ Below w.heap.size w wr) (fun _ j _ => n - (intOf j).toNat)
  case atStart => exact ⟨0, Nat.zero_le _, rfl, Own.nil, hci3, hw3⟩
  case round =>
    clear hci3 hw3 hw1
    obtain ⟨k, hk, rfl, hown, hci, hb⟩ := hrel
    by_cases hlt : k < n
    · have hk2 : (k : Int) < (n : Int) := by omega
      obtain ⟨ad, x, rfl, hbk, hx, h0, h1, h2, h3⟩ := at_E (hlA _ hb) (k := k) (by rw [Hn.out]; omega)
      have HE := Lib.hid hx
      have hs : checkFrom ts l now 0 (l.take (k + 1)) = checkFrom ts l now 0 (l.take k) ++ (whenD (orderD l k x) 4 k ++ (if x.kind = 0 then acceptD ts l now k x else [])) := by
        rw [take_snoc' hx, checkFrom_snoc, List.length_take, Nat.min_eq_left (by rw [Hn.out]; omega), Nat.zero_add]; rfl
      have hlen := checkFrom_len ts l now (l.take k) 0
      rw [List.length_take] at hlen
      have hlen2 : (checkFrom ts l now 0 (l.take k)).length ≤ 400 := by omega
      generalize checkFrom ts l now 0 (l.take k) = P0 at hown hs hlen2
      obtain ⟨b, hbd⟩ : ∃ b, orderD l k x = b := ⟨_, rfl⟩
      rw [hbd, ← List.append_assoc] at hs
      have Hs := Lib.hid hs
      have Hbd := Lib.hid hbd
      have hsz := hb.size
      clear hs hbd hlen hx
      go_upto_region 8 with fail
      generalize hWb : World.alloc wr _ = wb
      have hbz : Below wr.heap.size wr wb := by rw [← hWb]; exact (Below.refl _ _).alloc (Nat.le_refl _) _
      have hbx : Blk wb wr.heap.size 124 #[.int .i64 x.tick, .int .i64 x.kind, .int .i64 x.a, .int .i64 x.b] := by rw [← hWb]; exact Blk.new _ _ _
      have hown1 := hown.below hbz (Nat.le_refl _)
      have hci1 := hci.below hbz
      have hb1 : Below w.heap.size w wb := hb.trans (hbz.mono hsz)
      have hei : w.heap.size ≤ wr.heap.size := hsz
      generalize wr.heap.size = ge at hbx hei ⊢
      clear hWb hbz hown hci hb h0 h1 h2 h3 hbk hsz
      go_cut [36] (fun u wx => u = .bool b ∧ Drawn wb wx)
      case first =>
        have d0 := hbx.cell 0 rfl
        by_cases hk0 : k = 0
        · have e : b = false := by rw [← Hbd.out]; unfold orderD; simp [hk0]
          have hz : ¬ (0 : Int) < (k : Int) := by omega
          have hz' : ¬ 0 < k := by omega
          have He := Lib.hid e
          clear hk0 e
          go_quiet (fail)
          go_wp2_with fail
          go_meet
          exact ⟨by rw [He.out], (Drawn.refl _).drewN _⟩
        · obtain ⟨q, hq⟩ : ∃ q, k = q + 1 := ⟨k - 1, by omega⟩
          obtain ⟨ad', y, ead, hbk', hy, g0, g1, g2, g3⟩ := at_E (hlA _ hb1) (k := q) (by rw [Hn.out]; omega)
          cases ead
          have e : b = decide (x.tick < y.tick) := by rw [← Hbd.out]; unfold orderD; rw [show k - 1 = q by omega, hy]; simp; omega
          have hz : (0 : Int) < (k : Int) := by omega
          have hz' : 0 < k := by omega
          have hwq : IntKind.i64.wrap ((k : Int) - 1) = (q : Int) := by rw [IntWalk.i64_in _ (by omega)]; omega
          have hq2 : (q : Int) < (n : Int) := by omega
          have He := Lib.hid e
          clear hk0 e hq hy
          go_quiet (fail)
          go_wp2_with fail
          go_meet
          exact ⟨by rw [He.out], (Drawn.refl _).drewN _⟩
      case rest =>
        obtain ⟨rfl, hd⟩ := hcut
        have hown := hown1.below (hd.below _) (Nat.le_refl _)
        have hci := hci1.below (hd.below _)
        have hb : Below w.heap.size w wc := hb1.trans (hd.below _)
        have hbx := hbx.drawn hd
        clear hown1 hci1 hb1 hd
        go_upto_if 36 with fail
        go_cut [7] (fun v wx => Own repF 58 0 w.heap.size wx v (P0 ++ whenD b 4 k) ∧ CI (w.heap.size + 1 + 1) w.heap.size (w.heap.size + 1) gL gV F (gL + 1) #[.slice T ts.length tc, o1, o2, o3, o4, o5] now (.slice jA jn jc) l (stJobs (l.take k)) (stHigh (l.take k)) (stLast (l.take k)) wx ∧ Below w.heap.size w wx ∧ Blk wx ge 124 #[.int .i64 x.tick, .int .i64 x.kind, .int .i64 x.a, .int .i64 x.b])
        case first =>
          have hsz := hb.size
          cases b with
          | false =>
            go_wp2_with fail
            go_meet
            exact ⟨by simpa [whenD] using hown, hci, hb, hbx⟩
          | true =>
            go_wp2_with (at_builtin; refine wpList_append_one rfl _ _ _ rfl repF 58 0 w.heap.size Try.underlying47 info_F rfl (by decide) (by decide) _ _ rfl hown ⟨4, k⟩ [.int .i64 4, .int .i64 k] rfl rfl (Nat.zero_le _) ?c1 ?c2 hsz ?_)
            case c1 => omega
            case c2 => omega
            intro v' w2 hown' hg' hat
            have hci2 := hci.grown hown hg'
            have hbx2 := hbx.grown hg' (hown.ne_blk hbx (by decide))
            have hb2 := hb.grown hg' hsz (fun g hg => (hown.block g hg).1)
            go_wp2_with fail
            go_meet
            exact ⟨by simpa [whenD] using hown', hci2, hb2, hbx2⟩
        case rest =>
          obtain ⟨hown1, hci1, hb1, hbx1⟩ := hcut
          clear hown hci hb hbx
          have hW1 := whenD_len b 4 k
          have k1 := hbx1.cell 1 rfl
          obtain ⟨kb, hkb⟩ : ∃ kb, (x.kind == 0) = kb := ⟨_, rfl⟩
          have Hkb := Lib.hid hkb
          go_upto_if 44 with fail
          go_cut [7] (fun v wx => Own repF 58 0 w.heap.size wx v (P0 ++ whenD b 4 k ++ (if x.kind = 0 then acceptD ts l now k x else [])) ∧ CI (w.heap.size + 1 + 1) w.heap.size (w.heap.size + 1) gL gV F (gL + 1) #[.slice T ts.length tc, o1, o2, o3, o4, o5] now (.slice jA jn jc) l (stJobs (l.take k)) (stHigh (l.take k)) (stLast (l.take k)) wx ∧ Below w.heap.size w wx ∧ Blk wx ge 124 #[.int .i64 x.tick, .int .i64 x.kind, .int .i64 x.a, .int .i64 x.b])
          case first =>
            have hsz := hb1.size
            cases kb with
            | false =>
              have h0 : ¬ x.kind = 0 := by have := Hkb.out; simpa using this
              have H0 := Lib.hid h0
              clear h0
              go_wp2_with fail
              go_meet
              exact ⟨by rw [if_neg H0.out, List.append_nil]; exact hown1, hci1, hb1, hbx1⟩
            | true =>
              have h0 : x.kind = 0 := by have := Hkb.out; simpa using this
              have hmem := List.mem_of_getElem? HE.out
              obtain ⟨jA', jc', hje, _, _, _, hjrow⟩ := hci1.hJ.row
              cases hje
              have hal := acceptD_len ts l now k x
              have hacc := accept_any B (gL + 1) w.heap.size gV gL (w.heap.size + 1) F T tc ts o1 o2 o3 o4 o5 jA jc (jobsD l) (jobD l k x) (stJobs (l.take k)) (stHigh (l.take k)) (stLast (l.take k)) now k x wc hci1.hP hci1.hV hci1.hL hci1.hN (htA _ hb1) (hjrow.up (Nat.zero_le _)) hci1.hF (jobsD_at HE.out h0) (jobD_light Hli.out k hmem) (Hli.out x hmem) (stLast_light (lightD_take Hli.out k)) hnow (by have := jobsFrom_len l l 0; rw [Hn.out] at this; unfold jobsD; omega) hts
              rw [acceptS_eq] at hacc
              obtain ⟨ys, hys⟩ : ∃ ys, acceptD ts l now k x = ys := ⟨_, rfl⟩
              have e0 : (if x.kind = 0 then acceptD ts l now k x else []) = ys := by rw [if_pos h0, hys]
              rw [hys] at hacc hal
              clear hys
              have E0 := Lib.hid e0
              have Hacc := Lib.hid hacc
              have b0 := hbx1.cell 0 rfl
              have b2 := hbx1.cell 2 rfl
              have b3 := hbx1.cell 3 rfl
              clear hacc hjrow h0 e0 hmem
              go_wp2_with fail
              refine Hacc.out.mono ?_
              rintro e w4 ⟨v4, rfl, hown4, hb4⟩
              have hown2 := hown1.below hb4 (Nat.le_refl _)
              have hci2 := hci1.below hb4
              have hb2 : Below w.heap.size w w4 := hb1.trans (hb4.mono hsz)
              have hbx2 := hbx1.below hb4 hbx1.lt
              have hsz2 := hb2.size
              obtain ⟨rA, rc, rfl, r1, r2, r3, hrow⟩ := hown4.row
              go_wp2_with (at_builtin; refine wpList_append_row rfl _ _ _ rfl repF 58 0 w.heap.size Try.underlying47 info_F rfl (by decide) (by decide) _ _ rfl hown2 rA rc ys rfl r3 r1 hrow (Nat.zero_le _) ?c1 ?c2 hsz2 ?_)
              case c1 => simp only [List.length_append]; omega
              case c2 => simp only [List.length_append]; omega
              intro v' w5 hown' hg' hat
              have hci3 := hci2.grown hown2 hg'
              have hbx3 := hbx2.grown hg' (hown2.ne_blk hbx2 (by decide))
              have hb3 := hb2.grown hg' hsz2 (fun g hg => (hown2.block g hg).1)
              go_wp2_with fail
              go_meet
              exact ⟨by rw [E0.out, List.append_assoc]; exact hown', hci3, hb3, hbx3⟩
          case rest =>
            obtain ⟨hown, hci, hb, hbx⟩ := hcut
            clear hown1 hci1 hb1 hbx1 k1
            have v0 := hci.hV.cell 0 rfl
            have b0 := hbx.cell 0 rfl
            have b1 := hbx.cell 1 rfl
            have b2 := hbx.cell 2 rfl
            have b3 := hbx.cell 3 rfl
            have hjl := stJobs_len (l.take k)
            rw [List.length_take] at hjl
            go_wp2_with fail
            refine (see_any F (gL + 1) _ _ _ x _ hci.hF hci.lB (by omega)).mono ?_
            rintro e w6 ⟨rfl, hF6, hb6, hk6⟩
            have hown6 := hk6.own hown rfl (by decide) (by decide) (by decide)
            have hci6 := hci.see hF6 hb6 hk6
            have hb7 : Below w.heap.size w w6 := hb.trans (hb6.mono (by omega))
            have e1 : stJobs (l.take (k + 1)) = stepJobs x (stJobs (l.take k)) := by rw [take_snoc' HE.out]; exact stJobs_snoc _ _
            have e2 : stHigh (l.take (k + 1)) = stepHigh x (stHigh (l.take k)) := by rw [take_snoc' HE.out]; exact stHigh_snoc _ _
            have e3 : stLast (l.take (k + 1)) = stepLast x (stLast (l.take k)) := by rw [take_snoc' HE.out]; exact stLast_snoc _ _
            rw [← e1, ← e2, ← e3] at hci6
            clear e1 e2 e3 b0 b1 b2 b3 v0 hown hci hb hbx hF6 hb6 hk6
            go_wp2
            go_roundw
            case rel => exact ⟨k + 1, by omega, by go_num, by rw [Hs.out]; exact hown6, hci6, hb7⟩
            case measure => simp [intOf] <;> omega
    · have hk2 : ¬ (k : Int) < (n : Int) := by omega
      have e : l.take k = l := List.take_of_length_le (by rw [Hn.out]; omega)
      rw [e] at hown
      clear hci e
      go_wp2
      go_ret
      exact ⟨_, rfl, hown, hb⟩
end Go.Proofs.Ytgljmflcbdhigaa
