/- conf.Clone: a system apart. -/
import Derived.Test.YtgljmflcbdhigaaClone
set_option linter.unusedVariables false
set_option linter.unusedSimpArgs false
namespace Go.Proofs.Ytgljmflcbdhigaa
open Go.RowKit

/-- A partition, and the blocks in which its rows lie, from their heads on. -/
structure PartG where
  p : PartD
  tb : Option Nat
  sb : Option Nat
  db : Option Nat
def hd (g : Option Nat) : Option Addr := g.map fun b => ⟨b, 0, none⟩
def PartGR (eT eS eI : TypeId) (B : Nat) (w : World) (x : PartG) (cs : List Value) : Prop :=
  ∃ tc sc dc, cs = [.slice (hd x.tb) x.p.ts.length tc, .slice (hd x.sb) x.p.ss.length sc, .slice (hd x.db) x.p.ds.length dc, .int .u8 x.p.a0, .int .u8 x.p.a1, .int .u8 x.p.a2] ∧ Slc repT eT B w x.p.ts (hd x.tb) tc ∧ Slc repS eS B w x.p.ss (hd x.sb) sc ∧ Slc repI eI B w x.p.ds (hd x.db) dc
def repG (eT eS eI : TypeId) : Rep PartG where
  sz := 6
  E := [eT, eS, eI]
  R := PartGR eT eS eI
  len := by rintro B w x cs ⟨_, _, _, rfl, _⟩; rfl
  one := by
    rintro B w x cs ⟨_, _, _, rfl, _⟩ u hu
    simp at hu
    rcases hu with rfl | rfl | rfl | rfl | rfl | rfl <;> rfl
  keep := by
    rintro B w w' x cs hk ⟨tc, sc, dc, rfl, h1, h2, h3⟩
    refine ⟨tc, sc, dc, rfl, h1.keep fun k hk1 hk2 => hk k hk1 (hk2.imp id ?_), h2.keep fun k hk1 hk2 => hk k hk1 (hk2.imp id ?_), h3.keep fun k hk1 hk2 => hk k hk1 (hk2.imp id ?_)⟩
    all_goals
      rintro ⟨c, t, ht, hh⟩
      have ht := List.mem_singleton.1 ht
      exact ⟨c, t, by simp [ht], hh⟩
  up := by
    rintro B B' w x cs hB ⟨tc, sc, dc, rfl, h1, h2, h3⟩
    exact ⟨tc, sc, dc, rfl, h1.up hB, h2.up hB, h3.up hB⟩
def CfgT.repG (T : CfgT) : Rep PartG := Proofs.Ytgljmflcbdhigaa.repG T.t T.s T.i

/-- The same row under another kind of data. -/
theorem Own.turn {α β : Type} {d : Rep α} {d' : Rep β} (f : α → β) (hsz : d'.sz = d.sz) (hR : ∀ {B : Nat} {w : World} {x : α} {cs : List Value}, d.R B w x cs → d'.R B w (f x) cs) {e : TypeId} {B0 B : Nat} {w : World} {v : Value} {xs : List α} (h : Own d e B0 B w v xs) : Own d' e B0 B w v (xs.map f) := by
  obtain ⟨inner, ho, hx⟩ := h
  refine ⟨inner, by rw [hsz, List.length_map]; exact ho, fun i y hi => ?_⟩
  rw [List.getElem?_map, Option.map_eq_some_iff] at hi
  obtain ⟨x, h1, rfl⟩ := hi
  obtain ⟨cs, h2, h3⟩ := hx i x h1
  exact ⟨cs, hR h2, by rw [hsz]; exact h3⟩
theorem Own.parts {T : CfgT} {e : TypeId} {B0 B : Nat} {w : World} {v : Value} {gs : List PartG} (h : Own T.repG e B0 B w v gs) : Own T.rep e B0 B w v (gs.map PartG.p) :=
  h.turn PartG.p rfl fun {B w x cs} hr => by
    obtain ⟨tc, sc, dc, hcs, h1, h2, h3⟩ := hr
    exact ⟨_, tc, _, sc, _, dc, hcs, h1, h2, h3⟩

theorem Own.gslc {α : Type} {d : Rep α} {e : TypeId} {B0 B : Nat} {w : World} {v : Value} {xs : List α} (h : Own d e B0 B w v xs) : ∃ g c, v = .slice (hd g) xs.length c ∧ Slc d e B0 w xs (hd g) c ∧ (∀ b, g = some b → B ≤ b ∧ b < w.heap.size) := by
  obtain ⟨A, c, hv, hs⟩ := h.slc
  have hb := h.block
  obtain ⟨inner, ho, _⟩ := h
  rcases ho.2 with ⟨e, h0⟩ | ⟨g, cap, cur, e, _⟩
  · rw [hv] at e
    injection e with e1 e2 e3
    subst e1
    exact ⟨none, c, hv, hs, fun b hb => by cases hb⟩
  · rw [hv] at e
    injection e with e1 e2 e3
    subst e1
    refine ⟨some g, c, hv, hs, fun b hb' => ?_⟩
    cases hb'
    have := hb g (by rw [hv]; simp [Value.ownBlock])
    exact ⟨this.1, this.2.1⟩

/-- What lies elsewhere by type. -/
theorem Own.others {α : Type} {d : Rep α} {e t : TypeId} {B : Nat} {w w' : World} {v : Value} {xs : List α} (h : Own d e 0 B w v xs) (hk : ∀ k : Nat, (∀ cells : Array Value, w.heap[k]? ≠ some (Obj.cells cells t (0, 0))) → w'.heap[k]? = w.heap[k]?) (h1 : e ≠ t) (h2 : t ∉ d.E) : Own d e 0 B w' v xs :=
  h.keep fun k _ h3 => hk k fun cells hc => by
    rcases h3 with h3 | h3 | ⟨c, t', ht, hh⟩
    · omega
    · obtain ⟨_, _, c', hh⟩ := h.block k h3
      rw [hc] at hh
      injection hh with hh
      injection hh with _ ht
      exact h1 ht.symm
    · rw [hc] at hh
      injection hh with hh
      injection hh with _ ht'
      exact h2 (ht' ▸ ht)
theorem Blk.not {w : World} {g : Nat} {t : TypeId} {cs : Array Value} (h : Blk w g t cs) {k : Nat} (hk : ∀ cells : Array Value, w.heap[k]? ≠ some (Obj.cells cells t (0, 0))) : k ≠ g := by
  rintro rfl
  exact hk _ h

theorem info_P : (Try.prog.info? 52).map (fun i => (i.zero, i.size, i.bytes)) = some (some (.agg #[.slice none 0 0, .slice none 0 0, .slice none 0 0, .int .u8 0, .int .u8 0, .int .u8 0]), 6, 80) := by kernel_rfl
/-- No two rows of partitions lie in one block, and all lie between two bounds. -/
def PartG.bl (x : PartG) : List Nat := x.tb.toList ++ (x.sb.toList ++ x.db.toList)
def Apart (a b : Nat) (gs : List PartG) : Prop := (gs.flatMap PartG.bl).Nodup ∧ ∀ n ∈ gs.flatMap PartG.bl, a ≤ n ∧ n < b

theorem Apart.snoc {a b b1 b2 b3 b' : Nat} {gs : List PartG} (h : Apart a b gs) (x : PartG) (ha : a ≤ b) (h1 : ∀ n, x.tb = some n → b ≤ n ∧ n < b1) (h2 : ∀ n, x.sb = some n → b1 ≤ n ∧ n < b2) (h3 : ∀ n, x.db = some n → b2 ≤ n ∧ n < b3)
    (k1 : b ≤ b1) (k2 : b1 ≤ b2) (k3 : b2 ≤ b3) (k4 : b3 ≤ b') : Apart a b' (gs ++ [x]) := by
  obtain ⟨p, tb, sb, db⟩ := x
  simp only at h1 h2 h3
  have hm : ∀ n ∈ PartG.bl ⟨p, tb, sb, db⟩, b ≤ n ∧ n < b3 := by
    intro n hn
    simp only [PartG.bl, List.mem_append, Option.mem_toList] at hn
    rcases hn with hn | hn | hn
    · have := h1 n hn; omega
    · have := h2 n hn; omega
    · have := h3 n hn; omega
  have hnd : (PartG.bl ⟨p, tb, sb, db⟩).Nodup := by
    simp only [PartG.bl]
    cases tb <;> cases sb <;> cases db <;> simp at h1 h2 h3 ⊢ <;> omega
  refine ⟨?_, fun n hn => ?_⟩
  · rw [List.flatMap_append, List.nodup_append]
    refine ⟨h.1, by simpa using hnd, fun u hu v hv e => ?_⟩
    have hv' : v ∈ PartG.bl ⟨p, tb, sb, db⟩ := by simpa using hv
    have := hm v hv'
    have := h.2 u hu
    omega
  · rw [List.flatMap_append, List.mem_append] at hn
    rcases hn with hn | hn
    · have := h.2 n hn; omega
    · have := hm n (by simpa using hn); omega

def ClonePost (c : CfgD) (w : World) (e : Ending) (w' : World) : Prop :=
  ∃ vw vp vc gs, e = .returned (.agg #[.int .i64 c.frame, .int .i64 c.margin, vw, vp, vc]) ∧
      Own repW 154 0 w.heap.size w' vw c.ws ∧ Own tO.repG 52 0 w.heap.size w' vp gs ∧ gs.map PartG.p = c.ps ∧ Apart w.heap.size w'.heap.size gs ∧ Own repC 157 0 w.heap.size w' vc c.cs ∧ Below w.heap.size w w'
set_option maxHeartbeats 1000000 in
set_option maxRecDepth 100000 in
theorem cclone_any (B : Nat) (c : CfgD) (WA : Option Addr) (wc : Nat) (PA : Option Addr) (pc : Nat) (CA : Option Addr) (cc : Nat) (w : World) (h : CfgA tO B w c WA wc PA pc CA cc) (hl : c.light = true) (hB : B ≤ w.heap.size) :
    Calls Try.prog 38 #[.agg #[.int .i64 c.frame, .int .i64 c.margin, .slice WA c.ws.length wc, .slice PA c.ps.length pc, .slice CA c.cs.length cc]] w (ClonePost c w) := by
  simp only [CfgD.light, Bool.and_eq_true, decide_eq_true_eq, List.all_eq_true] at hl
  obtain ⟨⟨⟨l1, l2⟩, l3⟩, l4⟩ := hl
  obtain ⟨f, m, ws, ps, cs⟩ := c
  simp only at l1 l2 l3 l4 ⊢
  have kW := fun W (hW : Below w.heap.size w W) => clone_W B WA wc ws W (h.ws.below hW (Nat.le_refl _)) (by omega) (Nat.le_trans hB hW.size)
  have kC := fun W (hW : Below w.heap.size w W) => clone_C B CA cc cs W (h.cs.below hW (Nat.le_refl _)) (by omega) (Nat.le_trans hB hW.size)
  obtain ⟨v1, hv1⟩ : ∃ v, Value.slice WA ws.length wc = v := ⟨_, rfl⟩
  obtain ⟨v3, hv3⟩ : ∃ v, Value.slice CA cs.length cc = v := ⟨_, rfl⟩
  have o1 : v1.oneCell' = true := by rw [← hv1]; rfl
  have o3 : v3.oneCell' = true := by rw [← hv3]; rfl
  have hps := h.ps
  obtain ⟨n, hn'⟩ : ∃ n, ps.length = n := ⟨_, rfl⟩
  rw [hn'] at l2
  rw [hn', hv1, hv3]
  rw [hv1] at kW
  rw [hv3] at kC
  have Hn := Lib.hid hn'
  have KW := Lib.hid kW
  have KC := Lib.hid kC
  have L4 := Lib.hid l4
  clear hv1 hv3 hn' kW kC h l4
  go_enter Try.func38, Try.ntmps38
  go_wp2
  generalize hW : World.alloc _ _ = W1
  have hb1 : Below w.heap.size w W1 := by rw [← hW]; exact ((Below.refl _ _).alloc (Nat.le_refl _) _).alloc (by simp) _
  have hbx : Blk W1 w.heap.size 71 #[.int .i64 f, .int .i64 m, v1, .slice PA n pc, v3] := by rw [← hW]; exact (Blk.new _ _ _).alloc _
  have hbr : Blk W1 (w.heap.size + 1) 71 #[.int .i64 0, .int .i64 0, .slice none 0 0, .slice none 0 0, .slice none 0 0] := by rw [← hW]; exact Blk.new' _ _ _ _ (by simp)
  clear hW
  go_cut [] (fun wx => ∃ vw vc, Blk wx w.heap.size 71 #[.int .i64 f, .int .i64 m, vw, .slice PA n pc, vc] ∧ Blk wx (w.heap.size + 1) 71 #[.int .i64 0, .int .i64 0, .slice none 0 0, .slice none 0 0, .slice none 0 0] ∧ Own repW 154 0 w.heap.size wx vw ws ∧ Own repC 157 0 w.heap.size wx vc cs ∧ Below w.heap.size w wx)
  case first =>
    have hd1 : Below w.heap.size w W1.drew := hb1.drew
    have hx4 := hbx.cell 4 rfl
    have hx2 := hbx.cell 2 rfl
    go_region_with (first | (go_at_call 86; refine (KW.out _ hd1).mono ?_; rintro e w2 ⟨vw, rfl, ow, b2⟩; obtain ⟨A1, q1, c1, rfl⟩ : ∃ A n c, vw = Value.slice A n c := (by obtain ⟨A', c', hv', _⟩ := ow.row; exact ⟨_, _, _, hv'⟩); have hbx2 := hbx.drew.below b2 hbx.lt; have hbr2 := hbr.drew.below b2 hbr.lt; have hd2 := hd1.trans (b2.mono hd1.size); have hy4 := hbx2.cell 4 rfl) | (go_at_call 87; refine (KC.out _ hd2).mono ?_; rintro e w3 ⟨vc, rfl, oc, b3⟩; obtain ⟨A3, n3, c3, rfl⟩ : ∃ A n c, vc = Value.slice A n c := (by obtain ⟨A', c', hv', _⟩ := oc.row; exact ⟨_, _, _, hv'⟩); have hbx3 := hbx2.below b3 hbx2.lt; have hbr3 := hbr2.below b3 hbr2.lt; have ow3 := ow.below b3 (Nat.le_refl _); have hd3 := hd2.trans (b3.mono hd2.size); have z2 := hbx3.cell 2 rfl; have z4 := hbx3.cell 4 rfl; have f2 := hbx3.free 2; have f4 := hbx3.free 4))
    all_goals
      have n1' := ow3.ne_blk hbx3 (by decide)
      have n3' := oc.ne_blk hbx3 (by decide)
      go_wp2_with fail
      go_meet
      exact ⟨_, _, (hbx3.set 2 _).set 4 _, (hbr3.far (by show w.heap.size + 1 ≠ w.heap.size; omega) _).far (by show w.heap.size + 1 ≠ w.heap.size; omega) _, (((ow3.low hd1.size).far n1' _ _).far n1' _ _), (((oc.low hd2.size).far n3' _ _).far n3' _ _), (hd3.setCell (p := ⟨w.heap.size, 2, none⟩) (Nat.le_refl _) _).setCell (p := ⟨w.heap.size, 4, none⟩) (Nat.le_refl _) _⟩
  case rest =>
    obtain ⟨vw, vc, hbx', hbr', ow, oc, hb⟩ := hcut
    clear hbx hbr
    have x3 := hbx'.cell 3 rfl
    go_wp2
    go_loopw [3, 17] (fun v j wr => ∃ (k : Nat) (gs : List PartG), k ≤ n ∧ j = .int .i64 k ∧ Own tO.repG 52 0 w.heap.size wr v gs ∧ gs.map PartG.p = ps.take k ∧ Apart w.heap.size wr.heap.size gs ∧
      Blk wr w.heap.size 71 #[.int .i64 f, .int .i64 m, vw, .slice PA n pc, vc] ∧ Blk wr (w.heap.size + 1) 71 #[.int .i64 0, .int .i64 0, .slice none 0 0, .slice none 0 0, .slice none 0 0] ∧ Own repW 154 0 w.heap.size wr vw ws ∧ Own repC 157 0 w.heap.size wr vc cs ∧ Below w.heap.size w wr) (fun _ j _ => n - (intOf j).toNat)
    case atStart => exact ⟨0, [], Nat.zero_le _, rfl, Own.nil, rfl, ⟨by simp, by simp⟩, hbx', hbr', ow, oc, hb⟩
    case round =>
      clear hbx' hbr' ow oc hb x3
      obtain ⟨k, gs, hk, rfl, hown, hgs, hap, hbx, hbr, ow, oc, hb⟩ := hrel
      by_cases hlt : k < n
      · have hk2 : (k : Int) < (n : Int) := by omega
        obtain ⟨ad, p, TA, tc, SA, sc, DA, dc, rfl, hbk, hx, c0, c1, c2, c3, c4, c5, s1, s2, s3⟩ := at_P (hps.row.keep fun j hj _ => hb.block j hj) (k := k) (by rw [Hn.out]; omega)
        have hpf := L4.out p (List.mem_of_getElem? hx)
        simp only [PartD.few, Bool.and_eq_true, decide_eq_true_eq] at hpf
        have hgl : gs.length ≤ 20 := by have := congrArg List.length hgs; rw [List.length_map, List.length_take] at this; omega
        have htk := take_snoc' hx
        have Htk := Lib.hid htk
        clear htk hx
        have kT := fun W (hW : Below wr.heap.size wr W) => clone_T B TA tc p.ts W (s1.below hW (Nat.le_refl _)) (by omega) (by have := hb.size; have := hW.size; omega)
        have kS := fun W (hW : Below wr.heap.size wr W) => clone_S B SA sc p.ss W (s2.below hW (Nat.le_refl _)) (by omega) (by have := hb.size; have := hW.size; omega)
        have kI := fun W (hW : Below wr.heap.size wr W) => clone_I B DA dc p.ds W (s3.below hW (Nat.le_refl _)) (by omega) (by have := hb.size; have := hW.size; omega)
        have KT := Lib.hid kT
        have KS := Lib.hid kS
        have KI := Lib.hid kI
        clear kT kS kI s1 s2 s3
        go_wp2
        generalize hW : World.alloc _ _ = W2
        have hb2 : Below wr.heap.size wr W2 := by rw [← hW]; exact (Below.refl _ _).alloc (Nat.le_refl _) _
        have hbp : Blk W2 wr.heap.size 52 #[.slice TA p.ts.length tc, .slice SA p.ss.length sc, .slice DA p.ds.length dc, .int .u8 p.a0, .int .u8 p.a1, .int .u8 p.a2] := by rw [← hW]; exact Blk.new _ _ _
        have ho2 : Own tO.repG 52 0 w.heap.size W2 u3 gs := by rw [← hW]; exact hown.alloc _
        clear hW c0 c1 c2 c3 c4 c5
        have hS : ∀ W : World, Below W2.heap.size W2 W → W.cell? ⟨wr.heap.size, 0, none⟩ = some (.slice TA p.ts.length tc) ∧ W.cell? ⟨wr.heap.size, 1, none⟩ = some (.slice SA p.ss.length sc) ∧ W.cell? ⟨wr.heap.size, 2, none⟩ = some (.slice DA p.ds.length dc) ∧ W.cell? ⟨wr.heap.size, 3, none⟩ = some (.int .u8 p.a0) ∧ W.cell? ⟨wr.heap.size, 4, none⟩ = some (.int .u8 p.a1) ∧ W.cell? ⟨wr.heap.size, 5, none⟩ = some (.int .u8 p.a2) := fun W hW => by
          have hx := hbp.below hW hbp.lt
          exact ⟨hx.cell 0 rfl, hx.cell 1 rfl, hx.cell 2 rfl, hx.cell 3 rfl, hx.cell 4 rfl, hx.cell 5 rfl⟩
        have HS := Lib.hid hS
        clear hS
        have hne2 : some wr.heap.size ≠ u3.ownBlock := fun e => by have := (hown.block _ e.symm).2.1; omega
        have z1 : Below W2.heap.size W2 W2.drew := (Below.refl _ _).drew
        go_region_held3 (fun W : World => W.cell? ⟨wr.heap.size, 0, none⟩ = some (.slice TA p.ts.length tc) ∧ W.cell? ⟨wr.heap.size, 1, none⟩ = some (.slice SA p.ss.length sc) ∧ W.cell? ⟨wr.heap.size, 2, none⟩ = some (.slice DA p.ds.length dc) ∧ W.cell? ⟨wr.heap.size, 3, none⟩ = some (.int .u8 p.a0) ∧ W.cell? ⟨wr.heap.size, 4, none⟩ = some (.int .u8 p.a1) ∧ W.cell? ⟨wr.heap.size, 5, none⟩ = some (.int .u8 p.a2)) (first | with_reducible exact s7 | (refine HS.out _ ?_; first | with_reducible exact z1 | with_reducible exact z2 | with_reducible exact z3 | with_reducible exact z4 | with_reducible exact z4' _)) (first | (go_at_call 88; refine (KT.out _ (hb2.trans (z1.mono hb2.size))).mono ?_; rintro e w2 ⟨vt, rfl, ot, b2⟩; obtain ⟨g1, c1, rfl, sl1, gb1⟩ := ot.gslc; have z2 := z1.trans (b2.mono z1.size)) | (go_at_call 89; refine (KS.out _ (hb2.trans (z2.mono hb2.size))).mono ?_; rintro e w3 ⟨vs, rfl, os, b3⟩; obtain ⟨g2, c2, rfl, sl2, gb2⟩ := os.gslc; have z3 := z2.trans (b3.mono z2.size); have sl1a := sl1.below b3 (Nat.le_refl _)) | (go_at_call 90; refine (KI.out _ (hb2.trans (z3.mono hb2.size))).mono ?_; rintro e w4 ⟨vd, rfl, od, b4⟩; obtain ⟨g3, c3, rfl, sl3, gb3⟩ := od.gslc; have z4 := z3.trans (b4.mono z3.size); have z4' := fun o => z4.alloc z4.size o; have sl1b := sl1a.below b4 (Nat.le_refl _); have sl2b := sl2.below b4 (Nat.le_refl _); have ho4 := ho2.below z4 (Nat.le_refl _); have hR : tO.repG.R 0 w4 ⟨p, g1, g2, g3⟩ [.slice (hd g1) p.ts.length c1, .slice (hd g2) p.ss.length c2, .slice (hd g3) p.ds.length c3, .int .u8 p.a0, .int .u8 p.a1, .int .u8 p.a2] := ⟨c1, c2, c3, rfl, sl1b, sl2b, sl3⟩; have HR := Lib.hid hR; clear hR) | (refine step_append_row rfl (.tmp 21) (.tmp 34) 68 rfl tO.repG 52 0 w.heap.size (by kernel_rfl) info_P (by decide) (by decide) (by decide) u3 gs ?_ (ho4.alloc _) (some ⟨w4.heap.size, 0, none⟩) 1 [⟨p, g1, g2, g3⟩] ?_ (fun h => by cases h) (Nat.le_refl _) (Row.one HR.out (Nat.zero_le _)) (Nat.zero_le _) ?_ ?_ ?_ ?_; (· rfl); (· rfl); (· simp only [List.length_singleton]; omega); (· simp only [List.length_singleton]; omega); (· have q1 := hb.size; have q2 := hb2.size; have q3 := z4.size; simp; omega); intro v' w7 hown' hg hat; have hg2 : w4.grownBy w7 u3.ownBlock := (World.grownBy_alloc w4 _ _).trans hg; have hbp7 := (hbp.below z4 hbp.lt).grown hg2 hne2; have s7 := (⟨hbp7.cell 0 rfl, hbp7.cell 1 rfl, hbp7.cell 2 rfl, hbp7.cell 3 rfl, hbp7.cell 4 rfl, hbp7.cell 5 rfl⟩ : w7.cell? ⟨wr.heap.size, 0, none⟩ = some (.slice TA p.ts.length tc) ∧ w7.cell? ⟨wr.heap.size, 1, none⟩ = some (.slice SA p.ss.length sc) ∧ w7.cell? ⟨wr.heap.size, 2, none⟩ = some (.slice DA p.ds.length dc) ∧ w7.cell? ⟨wr.heap.size, 3, none⟩ = some (.int .u8 p.a0) ∧ w7.cell? ⟨wr.heap.size, 4, none⟩ = some (.int .u8 p.a1) ∧ w7.cell? ⟨wr.heap.size, 5, none⟩ = some (.int .u8 p.a2)); obtain ⟨A', n', c', rfl⟩ : ∃ A' n' c', v' = Value.slice A' n' c' := (by obtain ⟨A', c', hv', _⟩ := hown'.row; exact ⟨_, _, _, hv'⟩)))
        have hz4 : Below wr.heap.size wr w4 := hb2.trans (z4.mono hb2.size)
        have hbx7 := (hbx.below hz4 hbx.lt).grown hg2 (ho4.ne_blk (hbx.below hz4 hbx.lt) (by decide))
        have hbr7 := (hbr.below hz4 hbr.lt).grown hg2 (ho4.ne_blk (hbr.below hz4 hbr.lt) (by decide))
        have ow4 := ow.below hz4 (Nat.le_refl _)
        have oc4 := oc.below hz4 (Nat.le_refl _)
        have ow7 := ow4.grown hg2 (fun g hg => ⟨Nat.zero_le _, (ho4.block g hg).2.2⟩) (by decide) (fun g hg e => ow4.ne_own ho4 (by decide) g e hg)
        have oc7 := oc4.grown hg2 (fun g hg => ⟨Nat.zero_le _, (ho4.block g hg).2.2⟩) (by decide) (fun g hg e => oc4.ne_own ho4 (by decide) g e hg)
        have hb7 : Below w.heap.size w w7 := (hb.trans (hz4.mono hb.size)).grown hg2 (hb.trans (hz4.mono hb.size)).size (fun g hg => (ho4.block g hg).1)
        have hap7 : Apart w.heap.size w7.heap.size (gs ++ [⟨p, g1, g2, g3⟩]) := hap.snoc ⟨p, g1, g2, g3⟩ hb.size (fun n hn => by have q0 := gb1 n hn; have q1 := hb2.size; have q2 := z1.size; exact ⟨by omega, q0.2⟩) (fun n hn => gb2 n hn) (fun n hn => gb3 n hn) (by have := hb2.size; have := z2.size; omega) b3.size b4.size hg2.size
        have hgs7 : (gs ++ [(⟨p, g1, g2, g3⟩ : PartG)]).map PartG.p = ps.take (k + 1) := by rw [List.map_append, hgs, Htk.out]; rfl
        have Hgs7 := Lib.hid hgs7
        clear hgs7 hgs
        go_wp2
        go_roundw
        case rel => exact ⟨k + 1, _, by omega, by go_num, hown', Hgs7.out, hap7, hbx7, hbr7, ow7, oc7, hb7⟩
        case measure => simp [intOf] <;> omega
      · have hk2 : ¬ (k : Int) < (n : Int) := by omega
        have e : ps.take k = ps := List.take_of_length_le (by rw [Hn.out]; omega)
        rw [e] at hgs
        have Hgs := Lib.hid hgs
        clear e hgs
        obtain ⟨A1, q1, c1, rfl⟩ : ∃ A n c, vw = Value.slice A n c := (by obtain ⟨A', c', hv', _⟩ := ow.row; exact ⟨_, _, _, hv'⟩)
        obtain ⟨A3, q3, c3, rfl⟩ : ∃ A n c, vc = Value.slice A n c := (by obtain ⟨A', c', hv', _⟩ := oc.row; exact ⟨_, _, _, hv'⟩)
        obtain ⟨A2, q2, c2, rfl⟩ : ∃ A n c, u3 = Value.slice A n c := (by obtain ⟨A', c', hv', _⟩ := hown.row; exact ⟨_, _, _, hv'⟩)
        have x0 := hbx.cell 0 rfl
        have x1 := hbx.cell 1 rfl
        have x2 := hbx.cell 2 rfl
        have x3 := hbx.cell 3 rfl
        have x4 := hbx.cell 4 rfl
        have f3 := hbx.free 3
        have hq := hbx.set 3 (.slice A2 q2 c2)
        have y0 := hq.cell 0 rfl
        have y1 := hq.cell 1 rfl
        have y2 := hq.cell 2 rfl
        have y3 := hq.cell 3 rfl
        have y4 := hq.cell 4 rfl
        have hr := hbr.far (p := ⟨w.heap.size, 3, none⟩) (by show w.heap.size + 1 ≠ w.heap.size; omega) (.slice A2 q2 c2)
        have r0 := hr.cell 0 rfl
        have r1 := hr.cell 1 rfl
        have r2 := hr.cell 2 rfl
        have r3 := hr.cell 3 rfl
        have r4 := hr.cell 4 rfl
        have g0 := hr.free 0
        have g1 := hr.free 1
        have g2 := hr.free 2
        have g3 := hr.free 3
        have g4 := hr.free 4
        have hRf := ((((hr.set 0 (.int .i64 f)).set 1 (.int .i64 m)).set 2 (.slice A1 q1 c1)).set 3 (.slice A2 q2 c2)).set 4 (.slice A3 q3 c3)
        have p0 := hRf.cell 0 rfl
        have p1 := hRf.cell 1 rfl
        have p2 := hRf.cell 2 rfl
        have p3 := hRf.cell 3 rfl
        have p4 := hRf.cell 4 rfl
        have hkeep : ∀ k : Nat, (∀ cells : Array Value, wr.heap[k]? ≠ some (Obj.cells cells 71 (0, 0))) → ((((((wr.setCell ⟨w.heap.size, 3, none⟩ (.slice A2 q2 c2)).setCell ⟨w.heap.size + 1, 0, none⟩ (.int .i64 f)).setCell ⟨w.heap.size + 1, 1, none⟩ (.int .i64 m)).setCell ⟨w.heap.size + 1, 2, none⟩ (.slice A1 q1 c1)).setCell ⟨w.heap.size + 1, 3, none⟩ (.slice A2 q2 c2)).setCell ⟨w.heap.size + 1, 4, none⟩ (.slice A3 q3 c3)).heap[k]? = wr.heap[k]? := fun k hk => by
          have n0 := hbx.not hk
          have n1 := hbr.not hk
          rw [Below.heap_setCell _ _ _ _ n1, Below.heap_setCell _ _ _ _ n1, Below.heap_setCell _ _ _ _ n1, Below.heap_setCell _ _ _ _ n1, Below.heap_setCell _ _ _ _ n1, Below.heap_setCell _ _ _ _ n0]
        have Hkeep := Lib.hid hkeep
        clear hkeep
        go_wp2
        refine bodyPost_ret (v := .agg #[.int .i64 f, .int .i64 m, .slice A1 q1 c1, .slice A2 q2 c2, .slice A3 q3 c3]) ?_ rfl ?_
        · simp [results, Try.results38, go_sem, p0, p1, p2, p3, p4]
        · have hk := Hkeep.out
          refine ⟨_, _, _, gs, rfl, ow.others hk (by decide) (by decide), hown.others hk (by decide) (by decide), Hgs.out, ?_, oc.others hk (by decide) (by decide), ?_⟩
          · simpa [World.setCell] using hap
          · exact (((((hb.setCell (p := ⟨w.heap.size, 3, none⟩) (Nat.le_refl _) _).setCell (p := ⟨w.heap.size + 1, 0, none⟩) (Nat.le_succ _) _).setCell (p := ⟨w.heap.size + 1, 1, none⟩) (Nat.le_succ _) _).setCell (p := ⟨w.heap.size + 1, 2, none⟩) (Nat.le_succ _) _).setCell (p := ⟨w.heap.size + 1, 3, none⟩) (Nat.le_succ _) _).setCell (p := ⟨w.heap.size + 1, 4, none⟩) (Nat.le_succ _) _
end Go.Proofs.Ytgljmflcbdhigaa
