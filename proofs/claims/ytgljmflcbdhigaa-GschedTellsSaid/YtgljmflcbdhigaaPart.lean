/- A partition of the document turned into one of the program's. -/
import Derived.Test.YtgljmflcbdhigaaBase
import Derived.Deep.RegionLaw
import Derived.Deep.DeepCutAuto
set_option linter.unusedVariables false
set_option linter.unusedSimpArgs false
namespace Go.Proofs.Ytgljmflcbdhigaa
open Go.RowKit

theorem Own.empty {α : Type} {d : Rep α} {e : TypeId} {B0 B : Nat} {w : World} (hB : B ≤ w.heap.size) : Own d e B0 B (w.alloc (.cells #[] e)) (.slice (some ⟨w.heap.size, 0, none⟩) 0 0) ([] : List α) :=
  ⟨[], ⟨by simp, .inr ⟨w.heap.size, 0, #[], rfl, hB, heap_alloc_new w _, Nat.le_refl _, Nat.zero_le _, by simp, by simp⟩⟩, fun i x h => by simp at h⟩
theorem info_T : (Try.prog.info? 139).map (fun i => (i.zero, i.size, i.bytes)) = some (some (.agg #[.bool false, .int .i64 0, .int .i64 0, .int .i64 0, .int .i64 0, .int .i64 0]), 6, 48) := by kernel_rfl
theorem info_S : (Try.prog.info? 37).map (fun i => (i.zero, i.size, i.bytes)) = some (some (.agg #[.bool false, .int .i64 0, .int .i64 0]), 3, 24) := by kernel_rfl

theorem Own.far {α : Type} {d : Rep α} {e : TypeId} {B : Nat} {w : World} {v : Value} {xs : List α} {O : Nat} (h : Own d e 0 B w v xs) (hne : some O ≠ v.ownBlock) (i : Nat) (u : Value) (hE : d.E = [] := by rfl) : Own d e 0 B (w.setCell ⟨O, i, none⟩ u) v xs :=
  h.keep fun k _ hk => by
    rcases hk with hk | hk | ⟨c, t, ht, _⟩
    · omega
    · exact Below.heap_setCell _ _ _ _ (fun e => hne (by rw [hk]; exact congrArg some e.symm))
    · rw [hE] at ht; cases ht

theorem at_S {e B : Nat} {w : World} {A : Option Addr} {l : List Srv} (h : Row repS e B w A l) {k : Nat} (hk : k < l.length) : ∃ ad x, A = some ad ∧ (ad.add (k * 3)).block < w.heap.size ∧ l[k]? = some x ∧ w.cell? (ad.add (k * 3)) = some (.bool x.refill) ∧
    w.cell? ⟨(ad.add (k * 3)).block, (ad.add (k * 3)).off + 1, none⟩ = some (.int .i64 x.c) ∧ w.cell? ⟨(ad.add (k * 3)).block, (ad.add (k * 3)).off + 2, none⟩ = some (.int .i64 x.t) := by
  obtain ⟨ad, cs, hA, hlt, _, hr, hc⟩ := h.at (List.getElem?_eq_getElem hk)
  have hr : cs = Srv.enc _ := hr
  subst hr
  refine ⟨ad, _, hA, by rw [addr_add_block]; exact hlt, List.getElem?_eq_getElem hk, hc 0 _ rfl, ?_, ?_⟩ <;> rw [addr_field _ _ _ (by decide)]
  · exact hc 1 _ rfl
  · exact hc 2 _ rfl

structure PartD where
  ts : List TaskD
  ss : List Srv
  ds : List Int
  a0 : Int
  a1 : Int
  a2 : Int

set_option maxRecDepth 100000 in
set_option maxHeartbeats 4000000 in
theorem part_any (B : Nat) (TA SA DA : Option Addr) (tc sc dc : Nat) (p : PartD) (w : World) (ht : Row repT 143 B w TA p.ts) (hs : Row repS 24 B w SA p.ss) (hd : Row repI 3 B w DA p.ds) (hdc : p.ds.length ≤ dc) (hdn : DA = none → dc = 0)
    (hBw : B ≤ w.heap.size) (n1 : p.ts.length ≤ 1000) (n2 : p.ss.length ≤ 1000) (n3 : p.ds.length ≤ 1000) :
    Calls Try.prog 20 #[.agg #[.slice TA p.ts.length tc, .slice SA p.ss.length sc, .slice DA p.ds.length dc, .int .u8 p.a0, .int .u8 p.a1, .int .u8 p.a2]] w fun e w' =>
      ∃ vt vs vd, e = .returned (.agg #[vt, vs, vd, .int .u8 p.a0, .int .u8 p.a1, .int .u8 p.a2]) ∧ Own repT 139 0 w.heap.size w' vt p.ts ∧ Own repS 37 0 w.heap.size w' vs p.ss ∧ Own repI 3 0 w.heap.size w' vd p.ds ∧ Below w.heap.size w w' := by
  obtain ⟨ts, ss, ds, a0, a1, a2⟩ := p
  simp only at ht hs hd hdc n1 n2 n3 ⊢
  obtain ⟨nt, hnt⟩ : ∃ n, ts.length = n := ⟨_, rfl⟩
  obtain ⟨ns, hns⟩ : ∃ n, ss.length = n := ⟨_, rfl⟩
  obtain ⟨nd, hnd⟩ : ∃ n, ds.length = n := ⟨_, rfl⟩
  rw [hnt] at n1 ⊢
  rw [hns] at n2 ⊢
  rw [hnd] at n3 hdc ⊢
  have Ht := Lib.hid hnt
  have Hs := Lib.hid hns
  have Hd := Lib.hid hnd
  clear hnt hns hnd
  go_enter Try.func20, Try.ntmps20
  go_wp2
  generalize hW1 : World.alloc _ _ = W1
  have hbW : Below w.heap.size w W1 := by rw [← hW1]; exact ((Below.refl _ _).alloc (Nat.le_refl _) _).alloc (by simp) _
  have hBx : Blk W1 w.heap.size 45 #[.slice TA nt tc, .slice SA ns sc, .slice DA nd dc, .int .u8 a0, .int .u8 a1, .int .u8 a2] := by rw [← hW1]; exact (Blk.new _ _ _).alloc _
  have hR : Blk W1 (w.heap.size + 1) 52 #[.slice none 0 0, .slice none 0 0, .slice none 0 0, .int .u8 0, .int .u8 0, .int .u8 0] := by rw [← hW1]; exact Blk.new' _ _ _ _ (by simp)
  clear hW1
  have hsz := hbW.size
  go_cut [3] (fun u wx => ∃ O vd, u = .pointer (some ⟨O, 0, none⟩) ∧ W1.heap.size ≤ O ∧ Blk wx O 52 #[.slice none 0 0, .slice none 0 0, vd, .int .u8 a0, .int .u8 a1, .int .u8 a2] ∧ Own repI 3 0 W1.heap.size wx vd ds ∧ Below W1.heap.size W1 wx)
  case first =>
    have b2 := hBx.cell 2 rfl
    have b3 := hBx.cell 3 rfl
    have b4 := hBx.cell 4 rfl
    have b5 := hBx.cell 5 rfl
    have hS : ∀ W : World, Below W1.heap.size W1 W → W.cell? ⟨w.heap.size, 2, none⟩ = some (.slice DA nd dc) ∧ W.cell? ⟨w.heap.size, 3, none⟩ = some (.int .u8 a0) ∧ W.cell? ⟨w.heap.size, 4, none⟩ = some (.int .u8 a1) ∧ W.cell? ⟨w.heap.size, 5, none⟩ = some (.int .u8 a2) := fun W hW => ⟨cb hW b2, cb hW b3, cb hW b4, cb hW b5⟩
    have hdW : ∀ W, Below W1.heap.size W1 W → Row repI 3 B W DA ds := fun W hW => hd.keep fun q hq _ => (hbW.trans (hW.mono hsz)).block q hq
    have bz : ∀ o, Below W1.heap.size W1 (W1.alloc o) := fun o => (Below.refl _ _).alloc (Nat.le_refl _) o
    have bzz : ∀ o o', Below W1.heap.size W1 ((W1.alloc o).alloc o') := fun o o' => (bz o).alloc (bz o).size o'
    have own1 : Own repI 3 B W1.heap.size (W1.alloc (.cells #[] 3)).drew (.slice (some ⟨W1.heap.size, 0, none⟩) 0 0) [] := (Own.empty (Nat.le_refl _)).drew
    have own2 : ∀ o, Own repI 3 B W1.heap.size ((W1.alloc (.cells #[] 3)).alloc o).drew (.slice (some ⟨W1.heap.size, 0, none⟩) 0 0) [] := fun o => ((Own.empty (Nat.le_refl _)).alloc o).drew
    have own3 : ∀ o, Own repI 3 B W1.heap.size ((W1.alloc o).alloc (.cells #[] 3)).drew (.slice (some ⟨W1.heap.size + 1, 0, none⟩) 0 0) [] := fun o => by
      have := (Own.empty (d := repI) (e := 3) (B0 := B) (B := W1.heap.size) (w := W1.alloc o) (by simp)).drew
      rwa [World.size_alloc] at this
    have zO2 : Blk ((W1.alloc (.cells #[] 3)).alloc (.cells #[.slice none 0 0, .slice none 0 0, .slice none 0 0, .int .u8 0, .int .u8 0, .int .u8 0] 52)).drew (W1.heap.size + 1) 52 #[.slice none 0 0, .slice none 0 0, .slice none 0 0, .int .u8 0, .int .u8 0, .int .u8 0] := (Blk.new' _ _ _ _ (by simp)).drew
    have zO3 : Blk ((W1.alloc (.cells #[.slice none 0 0, .slice none 0 0, .slice none 0 0, .int .u8 0, .int .u8 0, .int .u8 0] 52)).alloc (.cells #[] 3)).drew W1.heap.size 52 #[.slice none 0 0, .slice none 0 0, .slice none 0 0, .int .u8 0, .int .u8 0, .int .u8 0] := ((Blk.new _ _ _).alloc _).drew
    have hset : ∀ (W : World) (O : Nat), W1.heap.size ≤ O → Below W1.heap.size W1 W → ∀ u0 u1 u2 u3 u4 u5 : Value, Below W1.heap.size W1 ((((((W.setCell ⟨O, 0, none⟩ u0).setCell ⟨O, 1, none⟩ u1).setCell ⟨O, 2, none⟩ u2).setCell ⟨O, 3, none⟩ u3).setCell ⟨O, 4, none⟩ u4).setCell ⟨O, 5, none⟩ u5) := fun W O hO h u0 u1 u2 u3 u4 u5 => (((((h.setCell hO _).setCell hO _).setCell hO _).setCell hO _).setCell hO _).setCell hO _
    have gz : ∀ (W : World) (g : Nat), Below W1.heap.size W1 W → W1.heap.size ≤ g → ∀ (vd : Value) (w3 : World), Own repI 3 B W1.heap.size w3 vd ([] ++ ds) → W.grownBy w3 (Value.slice (some ⟨g, 0, none⟩) 0 0).ownBlock → Below W1.heap.size W1 w3 := fun W g hW hg vd w3 _ hgr => hW.grown hgr hW.size (fun k hk => by cases hk; exact hg)
    go_region_held3 (fun W : World => W.cell? ⟨w.heap.size, 2, none⟩ = some (.slice DA nd dc) ∧ W.cell? ⟨w.heap.size, 3, none⟩ = some (.int .u8 a0) ∧ W.cell? ⟨w.heap.size, 4, none⟩ = some (.int .u8 a1) ∧ W.cell? ⟨w.heap.size, 5, none⟩ = some (.int .u8 a2)) ((refine hS _ ?_; first | with_reducible exact (Below.refl _ _).drew | with_reducible exact bz _ | with_reducible exact (bz _).drew | with_reducible exact (bzz _ _).drew | with_reducible exact bzz _ _ | with_reducible exact hq3 | with_reducible exact hq3.alloc hq3.size _ | (iterate 6 (refine Below.setCell ?_ hO1 _)); with_reducible exact hq3)) (first | (refine step_append_row rfl (.tmp 6) (.tmp 8) 42 rfl repI 3 B W1.heap.size (by kernel_rfl) info_I (by decide) (by decide) (by decide) _ [] ?_ own1 DA dc ds ?_ hdn (by rw [Hd.out]; exact hdc) (hdW _ (bz _).drew) (Nat.le_trans hBw hsz) (by rw [Hd.out]; simp; omega) (by rw [Hd.out]; simp; omega) ?_ ?_; (· rfl); (· rw [Hd.out]; rfl); (· simp <;> omega); intro vd w3 hown3 hg3 hat3; obtain ⟨A', n', c', rfl⟩ : ∃ A' n' c', vd = Value.slice A' n' c' := (by obtain ⟨A', c', hv', _⟩ := hown3.row; exact ⟨_, _, _, hv'⟩); have hq3 := gz _ _ (bz _).drew (Nat.le_refl _) _ w3 hown3 hg3) | (refine step_append_row rfl (.tmp 6) (.tmp 8) 42 rfl repI 3 B W1.heap.size (by kernel_rfl) info_I (by decide) (by decide) (by decide) _ [] ?_ (own2 _) DA dc ds ?_ hdn (by rw [Hd.out]; exact hdc) (hdW _ (bzz _ _).drew) (Nat.le_trans hBw hsz) (by rw [Hd.out]; simp; omega) (by rw [Hd.out]; simp; omega) ?_ ?_; (· rfl); (· rw [Hd.out]; rfl); (· simp <;> omega); intro vd w3 hown3 hg3 hat3; obtain ⟨A', n', c', rfl⟩ : ∃ A' n' c', vd = Value.slice A' n' c' := (by obtain ⟨A', c', hv', _⟩ := hown3.row; exact ⟨_, _, _, hv'⟩); have hq3 := gz _ _ (bzz _ _).drew (Nat.le_refl _) _ w3 hown3 hg3; have hO1 : W1.heap.size ≤ W1.heap.size + 1 := Nat.le_succ _; have hO := zO2.grown hg3 (by simp [Value.ownBlock]); have e0 := hO.cell 0 rfl; have e1 := hO.cell 1 rfl; have e2 := hO.cell 2 rfl; have e3 := hO.cell 3 rfl; have e4 := hO.cell 4 rfl; have e5 := hO.cell 5 rfl; have f0 := hO.free 0; have f1 := hO.free 1; have f2 := hO.free 2; have f3 := hO.free 3; have f4 := hO.free 4; have f5 := hO.free 5) | (refine step_append_row rfl (.tmp 6) (.tmp 8) 42 rfl repI 3 B W1.heap.size (by kernel_rfl) info_I (by decide) (by decide) (by decide) _ [] ?_ (own3 _) DA dc ds ?_ hdn (by rw [Hd.out]; exact hdc) (hdW _ (bzz _ _).drew) (Nat.le_trans hBw hsz) (by rw [Hd.out]; simp; omega) (by rw [Hd.out]; simp; omega) ?_ ?_; (· rfl); (· rw [Hd.out]; rfl); (· simp <;> omega); intro vd w3 hown3 hg3 hat3; obtain ⟨A', n', c', rfl⟩ : ∃ A' n' c', vd = Value.slice A' n' c' := (by obtain ⟨A', c', hv', _⟩ := hown3.row; exact ⟨_, _, _, hv'⟩); have hq3 := gz _ _ (bzz _ _).drew (Nat.le_succ _) _ w3 hown3 hg3; have hO1 : W1.heap.size ≤ W1.heap.size := Nat.le_refl _; have hO := zO3.grown hg3 (by simp [Value.ownBlock]); have e0 := hO.cell 0 rfl; have e1 := hO.cell 1 rfl; have e2 := hO.cell 2 rfl; have e3 := hO.cell 3 rfl; have e4 := hO.cell 4 rfl; have e5 := hO.cell 5 rfl; have f0 := hO.free 0; have f1 := hO.free 1; have f2 := hO.free 2; have f3 := hO.free 3; have f4 := hO.free 4; have f5 := hO.free 5))
    · have hown0 : Own repI 3 0 W1.heap.size w3 (.slice A' n' c') ds := hown3
      go_wp2_with fail
      go_meet
      exact ⟨_, _, rfl, hq3.size, Blk.new _ _ _, hown0.alloc _, hq3.alloc hq3.size _⟩
    · have hown0 : Own repI 3 0 W1.heap.size w3 (.slice A' n' c') ds := hown3
      have hne := hown0.ne_blk hO (by decide)
      go_wp2_with fail
      go_meet
      exact ⟨_, _, rfl, hO1, (((((hO.set 0 _).set 1 _).set 2 _).set 3 _).set 4 _).set 5 _, (((((hown0.far hne _ _).far hne _ _).far hne _ _).far hne _ _).far hne _ _).far hne _ _, hset _ _ hO1 hq3 _ _ _ _ _ _⟩
    · have hown0 : Own repI 3 0 W1.heap.size w3 (.slice A' n' c') ds := hown3
      have hne := hown0.ne_blk hO (by decide)
      go_wp2_with fail
      go_meet
      exact ⟨_, _, rfl, hO1, (((((hO.set 0 _).set 1 _).set 2 _).set 3 _).set 4 _).set 5 _, (((((hown0.far hne _ _).far hne _ _).far hne _ _).far hne _ _).far hne _ _).far hne _ _, hset _ _ hO1 hq3 _ _ _ _ _ _⟩
  case rest =>
    obtain ⟨O, vd, rfl, hO1, hO, hvd, hb⟩ := hcut
    have hBx' := hBx.below hb hBx.lt
    have hR' := hR.below hb hR.lt
    have hbw : Below w.heap.size w wc := hbW.trans (hb.mono hsz)
    have hvd' := hvd.low hsz
    have hOw : w.heap.size + 1 < O := by have := hR.lt; omega
    clear hBx hR hbW hvd hb hO1
    go_wp2
    go_loopw [4] (fun j wr => ∃ (k : Nat) (vt : Value), k ≤ nt ∧ j = .int .i64 k ∧ Own repT 139 0 w.heap.size wr vt (ts.take k) ∧ Own repI 3 0 w.heap.size wr vd ds ∧ Blk wr O 52 #[vt, .slice none 0 0, vd, .int .u8 a0, .int .u8 a1, .int .u8 a2] ∧
      Blk wr w.heap.size 45 #[.slice TA nt tc, .slice SA ns sc, .slice DA nd dc, .int .u8 a0, .int .u8 a1, .int .u8 a2] ∧ Blk wr (w.heap.size + 1) 52 #[.slice none 0 0, .slice none 0 0, .slice none 0 0, .int .u8 0, .int .u8 0, .int .u8 0] ∧ Below w.heap.size w wr) (fun j _ => nt - (intOf j).toNat)
    case atStart => exact ⟨0, _, Nat.zero_le _, rfl, Own.nil, hvd', hO, hBx', hR', hbw⟩
    case round =>
      obtain ⟨k, vt, hk, rfl, hown, hvd, hO, hBx, hR, hb⟩ := hrel
      have c0 := hBx.cell 0 rfl
      by_cases hlt : k < nt
      · have hk2 : (k : Int) < (nt : Int) := by omega
        obtain ⟨ad, x, rfl, hbk, hx, h0, h1, h2, h3, h4, h5⟩ := at_T (ht.keep fun q hq _ => hb.block q hq) (k := k) (by rw [Ht.out]; omega)
        have o0 := hO.cell 0 rfl
        have hsn : ts.take (k + 1) = ts.take k ++ [x] := take_snoc' hx
        have hlen : (ts.take k).length ≤ 1000 := by rw [List.length_take, Ht.out]; omega
        have Hsn := Lib.hid hsn
        clear hsn hx
        have qb1 := World.block_lt_of_cell? wr _ h0
        have qb2 := hO.lt
        have qb3 := hBx.lt
        have hsz := hb.size
        have hK : ∀ (v' : Value) (w3 : World), Own repT 139 0 w.heap.size w3 v' (ts.take k ++ [x]) → (wr.drew.alloc (.cells x.enc.toArray 139)).grownBy w3 vt.ownBlock →
            (w3.cell? ⟨O, 0, none⟩ = some vt ∧ w3.frozen? ⟨O, 0, none⟩ = false) ∧ (Own repT 139 0 w.heap.size (w3.setCell ⟨O, 0, none⟩ v') v' (ts.take k ++ [x]) ∧ Own repI 3 0 w.heap.size (w3.setCell ⟨O, 0, none⟩ v') vd ds ∧ Blk (w3.setCell ⟨O, 0, none⟩ v') O 52 #[v', .slice none 0 0, vd, .int .u8 a0, .int .u8 a1, .int .u8 a2] ∧ Blk (w3.setCell ⟨O, 0, none⟩ v') w.heap.size 45 #[.slice (some ad) nt tc, .slice SA ns sc, .slice DA nd dc, .int .u8 a0, .int .u8 a1, .int .u8 a2] ∧ Blk (w3.setCell ⟨O, 0, none⟩ v') (w.heap.size + 1) 52 #[.slice none 0 0, .slice none 0 0, .slice none 0 0, .int .u8 0, .int .u8 0, .int .u8 0] ∧ Below w.heap.size w (w3.setCell ⟨O, 0, none⟩ v')) := by
          intro v' w3 hown' hg
          have hgo : wr.grownBy w3 vt.ownBlock := by
            obtain ⟨g1, g2, g3, g4, g5⟩ := (World.grownBy_alloc wr.drew _ _).trans hg
            exact ⟨g1, g2, g3, g4, g5⟩
          have bO := hO.grown hgo (hown.ne_blk hO (by decide))
          have bB := hBx.grown hgo (hown.ne_blk hBx (by decide))
          have bR := hR.grown hgo (hown.ne_blk hR (by decide))
          have hb3 := hb.grown hgo hsz (fun g hg => (hown.block g hg).1)
          have hvd3 := hvd.grown hgo (fun g hg => ⟨Nat.zero_le _, (hown.block g hg).2.2⟩) (by decide) (fun g hg e => hvd.ne_own hown (by decide) g e hg)
          exact ⟨⟨bO.cell 0 rfl, bO.free 0⟩, hown'.far (hown'.ne_blk bO (by decide)) _ _, hvd3.far (hvd3.ne_blk bO (by decide)) _ _, bO.set 0 _, bB.far (by show w.heap.size ≠ O; omega) _, bR.far (by show w.heap.size + 1 ≠ O; omega) _, hb3.setCell (by show w.heap.size ≤ O; omega) _⟩
        have HK := Lib.hid hK
        have HO := Lib.hid hown
        clear hK hown hvd hO hBx hR hb hsz
        go_wp2
        go_region_law (refine step_append_row rfl (.tmp 21) (.tmp 27) 49 rfl repT 139 0 w.heap.size (by kernel_rfl) info_T (by decide) (by decide) (by decide) vt (ts.take k) ?_ (HO.out.drew.alloc _) (some ⟨wr.heap.size, 0, none⟩) 1 [x] ?_ (fun h => by cases h) (Nat.le_refl _) (Row.one (w := wr.drew) rfl (Nat.zero_le _)) (Nat.zero_le _) ?_ ?_ ?_ ?_; (· rfl); (· rfl); (· simp only [List.length_singleton]; omega); (· simp only [List.length_singleton]; omega); (· simp; omega); intro v' w3 hown' hg hat; obtain ⟨A', n', c', rfl⟩ : ∃ A' n' c', v' = Value.slice A' n' c' := (by obtain ⟨A', c', hv', _⟩ := hown'.row; exact ⟨_, _, _, hv'⟩); have hS3 := HK.out _ w3 hown' hg; have c3 := hS3.1.1; have f3 := hS3.1.2)
        all_goals (go_wp2; go_roundw)
        all_goals first
          | exact ⟨k + 1, _, by omega, by go_num, by rw [Hsn.out]; exact hS3.2⟩
          | (simp [intOf] <;> omega)
      · have e : ts.take k = ts := List.take_of_length_le (by rw [Ht.out]; omega)
        rw [e] at hown
        have hk2 : ¬ (k : Int) < (nt : Int) := by omega
        go_wp2
        go_loopw [5] (fun j wr => ∃ (k : Nat) (vs : Value), k ≤ ns ∧ j = .int .i64 k ∧ Own repS 37 0 w.heap.size wr vs (ss.take k) ∧ Own repT 139 0 w.heap.size wr vt ts ∧ Own repI 3 0 w.heap.size wr vd ds ∧ Blk wr O 52 #[vt, vs, vd, .int .u8 a0, .int .u8 a1, .int .u8 a2] ∧ Blk wr w.heap.size 45 #[.slice TA nt tc, .slice SA ns sc, .slice DA nd dc, .int .u8 a0, .int .u8 a1, .int .u8 a2] ∧ Blk wr (w.heap.size + 1) 52 #[.slice none 0 0, .slice none 0 0, .slice none 0 0, .int .u8 0, .int .u8 0, .int .u8 0] ∧ Below w.heap.size w wr) (fun j _ => ns - (intOf j).toNat)
        case atStart => exact ⟨0, _, Nat.zero_le _, rfl, Own.nil, hown, hvd, hO, hBx, hR, hb⟩
        case round =>
          clear hown hvd hO hBx hR hb c0 e
          obtain ⟨k, vs, hk, rfl, hown, hvt, hvd, hO, hBx, hR, hb⟩ := hrel
          have c1 := hBx.cell 1 rfl
          by_cases hlt : k < ns
          · have hk2 : (k : Int) < (ns : Int) := by omega
            obtain ⟨ad, x, rfl, hbk, hx, h0, h1, h2⟩ := at_S (hs.keep fun q hq _ => hb.block q hq) (k := k) (by rw [Hs.out]; omega)
            have o1 := hO.cell 1 rfl
            have hsn : ss.take (k + 1) = ss.take k ++ [x] := take_snoc' hx
            have hlen : (ss.take k).length ≤ 1000 := by rw [List.length_take, Hs.out]; omega
            have Hsn := Lib.hid hsn
            clear hsn hx
            have qb1 := World.block_lt_of_cell? wr _ h0
            have qb2 := hO.lt
            have qb3 := hBx.lt
            have hsz := hb.size
            have hK : ∀ (v' : Value) (w3 : World), Own repS 37 0 w.heap.size w3 v' (ss.take k ++ [x]) → (wr.drew.alloc (.cells x.enc.toArray 37)).grownBy w3 vs.ownBlock →
                (w3.cell? ⟨O, 1, none⟩ = some vs ∧ w3.frozen? ⟨O, 1, none⟩ = false) ∧ (Own repS 37 0 w.heap.size (w3.setCell ⟨O, 1, none⟩ v') v' (ss.take k ++ [x]) ∧ Own repT 139 0 w.heap.size (w3.setCell ⟨O, 1, none⟩ v') vt ts ∧ Own repI 3 0 w.heap.size (w3.setCell ⟨O, 1, none⟩ v') vd ds ∧ Blk (w3.setCell ⟨O, 1, none⟩ v') O 52 #[vt, v', vd, .int .u8 a0, .int .u8 a1, .int .u8 a2] ∧ Blk (w3.setCell ⟨O, 1, none⟩ v') w.heap.size 45 #[.slice TA nt tc, .slice (some ad) ns sc, .slice DA nd dc, .int .u8 a0, .int .u8 a1, .int .u8 a2] ∧ Blk (w3.setCell ⟨O, 1, none⟩ v') (w.heap.size + 1) 52 #[.slice none 0 0, .slice none 0 0, .slice none 0 0, .int .u8 0, .int .u8 0, .int .u8 0] ∧ Below w.heap.size w (w3.setCell ⟨O, 1, none⟩ v')) := by
              intro v' w3 hown' hg
              have hgo : wr.grownBy w3 vs.ownBlock := by
                obtain ⟨g1, g2, g3, g4, g5⟩ := (World.grownBy_alloc wr.drew _ _).trans hg
                exact ⟨g1, g2, g3, g4, g5⟩
              have bO := hO.grown hgo (hown.ne_blk hO (by decide))
              have bB := hBx.grown hgo (hown.ne_blk hBx (by decide))
              have bR := hR.grown hgo (hown.ne_blk hR (by decide))
              have hb3 := hb.grown hgo hsz (fun g hg => (hown.block g hg).1)
              have hvd3 := hvd.grown hgo (fun g hg => ⟨Nat.zero_le _, (hown.block g hg).2.2⟩) (by decide) (fun g hg e => hvd.ne_own hown (by decide) g e hg)
              have hvt3 := hvt.grown hgo (fun g hg => ⟨Nat.zero_le _, (hown.block g hg).2.2⟩) (by decide) (fun g hg e => hvt.ne_own hown (by decide) g e hg)
              exact ⟨⟨bO.cell 1 rfl, bO.free 1⟩, hown'.far (hown'.ne_blk bO (by decide)) _ _, hvt3.far (hvt3.ne_blk bO (by decide)) _ _, hvd3.far (hvd3.ne_blk bO (by decide)) _ _, bO.set 1 _, bB.far (by show w.heap.size ≠ O; omega) _, bR.far (by show w.heap.size + 1 ≠ O; omega) _, hb3.setCell (by show w.heap.size ≤ O; omega) _⟩
            have HK := Lib.hid hK
            have HO := Lib.hid hown
            clear hK hown hvt hvd hO hBx hR hb hsz
            go_wp2
            go_region_law (refine step_append_row rfl (.tmp 38) (.tmp 44) 50 rfl repS 37 0 w.heap.size (by kernel_rfl) info_S (by decide) (by decide) (by decide) vs (ss.take k) ?_ (HO.out.drew.alloc _) (some ⟨wr.heap.size, 0, none⟩) 1 [x] ?_ (fun h => by cases h) (Nat.le_refl _) (Row.one (w := wr.drew) rfl (Nat.zero_le _)) (Nat.zero_le _) ?_ ?_ ?_ ?_; (· rfl); (· rfl); (· simp only [List.length_singleton]; omega); (· simp only [List.length_singleton]; omega); (· simp; omega); intro v' w3 hown' hg hat; obtain ⟨A', n', c', rfl⟩ : ∃ A' n' c', v' = Value.slice A' n' c' := (by obtain ⟨A', c', hv', _⟩ := hown'.row; exact ⟨_, _, _, hv'⟩); have hS3 := HK.out _ w3 hown' hg; have c3 := hS3.1.1; have f3 := hS3.1.2)
            all_goals (go_wp2; go_roundw)
            all_goals first
              | exact ⟨k + 1, _, by omega, by go_num, by rw [Hsn.out]; exact hS3.2⟩
              | (simp [intOf] <;> omega)
          · have e : ss.take k = ss := List.take_of_length_le (by rw [Hs.out]; omega)
            rw [e] at hown
            have hk2 : ¬ (k : Int) < (ns : Int) := by omega
            obtain ⟨A1, n1', k1, e1⟩ : ∃ A n c, vs = Value.slice A n c := by obtain ⟨A', c', hv', _⟩ := hown.row; exact ⟨_, _, _, hv'⟩
            obtain ⟨A2, n2', k2, e2⟩ : ∃ A n c, vt = Value.slice A n c := by obtain ⟨A', c', hv', _⟩ := hvt.row; exact ⟨_, _, _, hv'⟩
            obtain ⟨A3, n3', k3, e3⟩ : ∃ A n c, vd = Value.slice A n c := by obtain ⟨A', c', hv', _⟩ := hvd.row; exact ⟨_, _, _, hv'⟩
            subst e1 e2 e3
            have o0 := hO.cell 0 rfl
            have o1 := hO.cell 1 rfl
            have o2 := hO.cell 2 rfl
            have o3 := hO.cell 3 rfl
            have o4 := hO.cell 4 rfl
            have o5 := hO.cell 5 rfl
            have r0 := hR.cell 0 rfl
            have r1 := hR.cell 1 rfl
            have r2 := hR.cell 2 rfl
            have r3 := hR.cell 3 rfl
            have r4 := hR.cell 4 rfl
            have r5 := hR.cell 5 rfl
            have f0 := hR.free 0
            have f1 := hR.free 1
            have f2 := hR.free 2
            have f3 := hR.free 3
            have f4 := hR.free 4
            have f5 := hR.free 5
            have n1 := hown.ne_blk hR (by decide)
            have n2 := hvt.ne_blk hR (by decide)
            have n3 := hvd.ne_blk hR (by decide)
            have hRf := (((((hR.set 0 (.slice A2 n2' k2)).set 1 (.slice A1 n1' k1)).set 2 (.slice A3 n3' k3)).set 3 (.int .u8 a0)).set 4 (.int .u8 a1)).set 5 (.int .u8 a2)
            have q0 := hRf.cell 0 rfl
            have q1 := hRf.cell 1 rfl
            have q2 := hRf.cell 2 rfl
            have q3 := hRf.cell 3 rfl
            have q4 := hRf.cell 4 rfl
            have q5 := hRf.cell 5 rfl
            go_wp2
            refine bodyPost_ret (v := .agg #[.slice A2 n2' k2, .slice A1 n1' k1, .slice A3 n3' k3, .int .u8 a0, .int .u8 a1, .int .u8 a2]) ?_ rfl ?_
            · simp [results, Try.results20, go_sem, q0, q1, q2, q3, q4, q5]
            · exact ⟨_, _, _, rfl, (((((hvt.far n2 _ _).far n2 _ _).far n2 _ _).far n2 _ _).far n2 _ _).far n2 _ _, (((((hown.far n1 _ _).far n1 _ _).far n1 _ _).far n1 _ _).far n1 _ _).far n1 _ _, (((((hvd.far n3 _ _).far n3 _ _).far n3 _ _).far n3 _ _).far n3 _ _).far n3 _ _,
                (((((hb.setCell (Nat.le_succ _) _).setCell (Nat.le_succ _) _).setCell (Nat.le_succ _) _).setCell (Nat.le_succ _) _).setCell (Nat.le_succ _) _).setCell (Nat.le_succ _) _⟩
end Go.Proofs.Ytgljmflcbdhigaa
