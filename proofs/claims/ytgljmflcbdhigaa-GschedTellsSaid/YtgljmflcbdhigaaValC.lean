/- valid.Check. -/
import Derived.Test.YtgljmflcbdhigaaValB
set_option linter.unusedVariables false
set_option linter.unusedSimpArgs false
namespace Go.Proofs.Ytgljmflcbdhigaa
open Go.RowKit

structure Look where
  f : FuncId
  g : Nat
  e : Int
  k : Int
def Look.fn (x : Look) : Value := .func (.func x.f) #[] #[.pointer (some ⟨x.g, 0, none⟩)]
def firstD : List Look → Int × Int
  | [] => (0, 0)
  | x :: r => if x.e ≠ 0 then (x.e, x.k) else firstD r

set_option maxHeartbeats 1000000 in
set_option maxRecDepth 100000 in
theorem vfirst_any (g c : Nat) (l : List Look) (w : World) (hn : l.length ≤ 10) (hc : ∀ (i : Nat) (x : Look), l[i]? = some x → w.cell? ⟨g, i, none⟩ = some x.fn) (hent : ∀ (i : Nat) (x : Look), l[i]? = some x → ∀ args W, (callFunc x.f args).run Try.prog W = .ok (.enter x.f args) W)
    (hf : ∀ (i : Nat) (x : Look), l[i]? = some x → (∀ y ∈ l.take i, y.e = 0) → ∀ W, Below w.heap.size w W → Calls Try.prog x.f #[.pointer (some ⟨x.g, 0, none⟩)] W fun e w' => e = .returned (.tuple #[.int .i64 x.e, .int .i64 x.k]) ∧ Below W.heap.size W w') :
    Calls Try.prog 81 #[.slice (some ⟨g, 0, none⟩) l.length c] w fun e w' => e = .returned (.tuple #[.int .i64 (firstD l).1, .int .i64 (firstD l).2]) ∧ Below w.heap.size w w' := by
  obtain ⟨n, hn'⟩ : ∃ n, l.length = n := ⟨_, rfl⟩
  rw [hn'] at hn ⊢
  have Hn := Lib.hid hn'
  clear hn'
  obtain ⟨r1, r2, hr⟩ : ∃ r1 r2, firstD l = (r1, r2) := ⟨_, _, rfl⟩
  rw [hr]
  have Hr := Lib.hid hr
  have Hf := Lib.hid hf
  have Hc := Lib.hid hc
  have Hent := Lib.hid hent
  clear hr hf hc hent
  go_enter Try.func81, Try.ntmps81
  go_wp2
  go_loopw [10] (fun j wr => ∃ k : Nat, k ≤ n ∧ j = .int .i64 k ∧ firstD (l.drop k) = (r1, r2) ∧ (∀ y ∈ l.take k, y.e = 0) ∧ Below w.heap.size w wr) (fun j _ => n - (intOf j).toNat)
  case atStart => exact ⟨0, Nat.zero_le _, rfl, Hr.out, by simp, Below.refl _ _⟩
  case round =>
    obtain ⟨k, hk, rfl, he, hz, hb⟩ := hrel
    by_cases hlt : k < n
    · have hk2 : (k : Int) < (n : Int) := by omega
      obtain ⟨x, hx⟩ : ∃ x, l[k]? = some x := ⟨_, List.getElem?_eq_getElem (by rw [Hn.out]; exact hlt)⟩
      have hcx := cb hb (Hc.out k x hx)
      have hcall := Hf.out k x hx hz wr hb
      have hgo := Hent.out k x hx #[.pointer (some ⟨x.g, 0, none⟩)] wr
      rw [drop_cons' hx, firstD] at he
      have htk := take_snoc' hx
      obtain ⟨f, g', e1, k1⟩ := x
      simp only [Look.fn] at hcx hcall he htk hgo
      have He := Lib.hid he
      have HC := Lib.hid hcall
      have Ht := Lib.hid htk
      have Hz := Lib.hid hz
      clear he hcall htk hz hx
      go_wp2_with fail
      refine HC.out.mono ?_
      rintro e w1 ⟨rfl, hb1⟩
      have hb2 : Below w.heap.size w w1 := hb.trans (hb1.mono hb.size)
      clear hcx hb1 hgo
      by_cases h0 : e1 = 0
      · subst h0
        go_wp2
        go_roundw
        case rel => exact ⟨k + 1, by omega, by go_num, by have := He.out; simpa using this, by rw [Ht.out]; intro y hy; rcases List.mem_append.1 hy with hy | hy; exact Hz.out y hy; rw [List.mem_singleton.1 hy], hb2⟩
        case measure => simp [intOf] <;> omega
      · have h0' : (e1 != 0) = true := by simpa using h0
        have e : (e1, k1) = (r1, r2) := by have := He.out; simpa [h0] using this
        injection e with e1' e2
        have E1 := Lib.hid e1'
        have E2 := Lib.hid e2
        clear e1' e2
        have H0 := Lib.hid h0
        clear h0
        go_wp2
        go_ret2
        exact ⟨ret_ei E1.out E2.out, hb2⟩
    · have hk2 : ¬ (k : Int) < (n : Int) := by omega
      have e : (r1, r2) = ((0 : Int), (0 : Int)) := by rw [← he, List.drop_of_length_le (by rw [Hn.out]; omega)]; rfl
      injection e with e1 e2
      subst e1 e2
      clear he
      go_wp2
      go_ret2
      exact ⟨rfl, hb⟩

theorem enter_ok (f : FuncId) (h : (match Try.prog.funcs[f]? with | none => false | some fn => !(fn.name == "runtime.NumGoroutine") && !fn.body.isNone) = true) (args : Array Value) (W : World) : (callFunc f args).run Try.prog W = .ok (.enter f args) W := by
  unfold callFunc
  cases hf : Try.prog.funcs[f]? with
  | none => rw [hf] at h; cases h
  | some fn =>
    rw [hf] at h
    simp only [Bool.and_eq_true, Bool.not_eq_true'] at h
    have h1 : fn.name ≠ "runtime.NumGoroutine" := by simpa using h.1
    have h2 : fn.body ≠ none := fun e => by rw [e] at h; simp at h
    simp [program, Sem.run, hf, h1, h2]

theorem look_size (f m : Int) (vw vp vc : Value) (w : World) (h1 : vw.oneCell' = true) (h2 : vp.oneCell' = true) (h3 : vc.oneCell' = true) :
    Calls Try.prog 82 #[.agg #[.int .i64 f, .int .i64 m, vw, vp, vc]] w fun e w' => e = .returned (.func (.func 117) #[] #[.pointer (some ⟨w.heap.size, 0, none⟩)]) ∧ Blk w' w.heap.size 71 #[.int .i64 f, .int .i64 m, vw, vp, vc] ∧ Below w.heap.size w w' := by
  go_enter Try.func82, Try.ntmps82
  go_wp2
  go_ret
  exact ⟨rfl, Blk.new _ _ _, (Below.refl _ _).alloc (Nat.le_refl _) _⟩
theorem look_windows (f m : Int) (vw vp vc : Value) (w : World) (h1 : vw.oneCell' = true) (h2 : vp.oneCell' = true) (h3 : vc.oneCell' = true) :
    Calls Try.prog 83 #[.agg #[.int .i64 f, .int .i64 m, vw, vp, vc]] w fun e w' => e = .returned (.func (.func 119) #[] #[.pointer (some ⟨w.heap.size, 0, none⟩)]) ∧ Blk w' w.heap.size 71 #[.int .i64 f, .int .i64 m, vw, vp, vc] ∧ Below w.heap.size w w' := by
  go_enter Try.func83, Try.ntmps83
  go_wp2
  go_ret
  exact ⟨rfl, Blk.new _ _ _, (Below.refl _ _).alloc (Nat.le_refl _) _⟩
theorem look_parts (f m : Int) (vw vp vc : Value) (w : World) (h1 : vw.oneCell' = true) (h2 : vp.oneCell' = true) (h3 : vc.oneCell' = true) :
    Calls Try.prog 84 #[.agg #[.int .i64 f, .int .i64 m, vw, vp, vc]] w fun e w' => e = .returned (.func (.func 122) #[] #[.pointer (some ⟨w.heap.size, 0, none⟩)]) ∧ Blk w' w.heap.size 71 #[.int .i64 f, .int .i64 m, vw, vp, vc] ∧ Below w.heap.size w w' := by
  go_enter Try.func84, Try.ntmps84
  go_wp2
  go_ret
  exact ⟨rfl, Blk.new _ _ _, (Below.refl _ _).alloc (Nat.le_refl _) _⟩
theorem look_channels (f m : Int) (vw vp vc : Value) (w : World) (h1 : vw.oneCell' = true) (h2 : vp.oneCell' = true) (h3 : vc.oneCell' = true) :
    Calls Try.prog 85 #[.agg #[.int .i64 f, .int .i64 m, vw, vp, vc]] w fun e w' => e = .returned (.func (.func 125) #[] #[.pointer (some ⟨w.heap.size, 0, none⟩)]) ∧ Blk w' w.heap.size 71 #[.int .i64 f, .int .i64 m, vw, vp, vc] ∧ Below w.heap.size w w' := by
  go_enter Try.func85, Try.ntmps85
  go_wp2
  go_ret
  exact ⟨rfl, Blk.new _ _ _, (Below.refl _ _).alloc (Nat.le_refl _) _⟩

def CfgD.looks (c : CfgD) (G1 G2 G3 G4 : Nat) : List Look :=
  [⟨117, G1, sizeE c.frame c.margin c.ps.length, 0⟩, ⟨119, G2, (winE c.frame c.ps.length c.ws).1, (winE c.frame c.ps.length c.ws).2⟩, ⟨122, G3, (partsFrom c.ps.length 0 c.ps).1, (partsFrom c.ps.length 0 c.ps).2⟩, ⟨125, G4, (chanE c.ps.length c.cs).1, (chanE c.ps.length c.cs).2⟩]
def CfgD.check (c : CfgD) : Int × Int :=
  if sizeE c.frame c.margin c.ps.length ≠ 0 then (sizeE c.frame c.margin c.ps.length, 0)
  else if (winE c.frame c.ps.length c.ws).1 ≠ 0 then winE c.frame c.ps.length c.ws
  else if (partsFrom c.ps.length 0 c.ps).1 ≠ 0 then partsFrom c.ps.length 0 c.ps
  else if (chanE c.ps.length c.cs).1 ≠ 0 then chanE c.ps.length c.cs else (0, 0)
theorem looks_check (c : CfgD) (G1 G2 G3 G4 : Nat) : firstD (c.looks G1 G2 G3 G4) = c.check := by
  simp only [CfgD.looks, firstD, CfgD.check]

theorem vfirst_check (B : Nat) (c : CfgD) (WA : Option Addr) (wc : Nat) (PA : Option Addr) (pc : Nat) (CA : Option Addr) (cc : Nat) (w : World) (h : CfgA tO B w c WA wc PA pc CA cc) (hl : c.light = true) (hB : B ≤ w.heap.size) (G1 G2 G3 G4 g : Nat)
    (h1 : Blk w G1 71 #[.int .i64 c.frame, .int .i64 c.margin, .slice WA c.ws.length wc, .slice PA c.ps.length pc, .slice CA c.cs.length cc]) (h2 : Blk w G2 71 #[.int .i64 c.frame, .int .i64 c.margin, .slice WA c.ws.length wc, .slice PA c.ps.length pc, .slice CA c.cs.length cc])
    (h3 : Blk w G3 71 #[.int .i64 c.frame, .int .i64 c.margin, .slice WA c.ws.length wc, .slice PA c.ps.length pc, .slice CA c.cs.length cc]) (h4 : Blk w G4 71 #[.int .i64 c.frame, .int .i64 c.margin, .slice WA c.ws.length wc, .slice PA c.ps.length pc, .slice CA c.cs.length cc])
    (hc : ∀ i x, (c.looks G1 G2 G3 G4)[i]? = some x → w.cell? ⟨g, i, none⟩ = some x.fn) :
    Calls Try.prog 81 #[.slice (some ⟨g, 0, none⟩) 4 4] w fun e w' => e = .returned (.tuple #[.int .i64 c.check.1, .int .i64 c.check.2]) ∧ Below w.heap.size w w' := by
  rw [← looks_check c G1 G2 G3 G4]
  simp only [CfgD.light, Bool.and_eq_true, decide_eq_true_eq, List.all_eq_true] at hl
  obtain ⟨⟨⟨l1, l2⟩, l3⟩, l4⟩ := hl
  refine vfirst_any g 4 (c.looks G1 G2 G3 G4) w (by simp [CfgD.looks]) hc ?_ ?_
  · intro i x hx
    rcases i with _ | _ | _ | _ | i
    · cases hx; exact enter_ok _ (by kernel_rfl)
    · cases hx; exact enter_ok _ (by kernel_rfl)
    · cases hx; exact enter_ok _ (by kernel_rfl)
    · cases hx; exact enter_ok _ (by kernel_rfl)
    · simp [CfgD.looks] at hx
  · intro i x hx hz W hW
    have hk := fun (k : Nat) (hk : k < w.heap.size) => hW.block k hk
    rcases i with _ | _ | _ | _ | i
    · cases hx
      exact (size1_any G1 c.frame c.margin _ _ PA c.ps.length pc W (h1.below hW h1.lt)).mono fun e w' ⟨a, b⟩ => ⟨a, b.below _⟩
    · cases hx
      have h0 := hz ⟨117, G1, sizeE c.frame c.margin c.ps.length, 0⟩ (by simp [CfgD.looks])
      have hf : c.frame ≤ 256 := by
        simp only [sizeE] at h0
        by_cases hi : inD c.frame 1 256 = true
        · simp [inD] at hi; omega
        · simp [hi] at h0
      exact windows1_any B WA wc c.ws G2 c.frame c.margin _ PA c.ps.length pc W (h.ws.row.keep fun k hk' _ => hk k hk') (by omega) (Nat.le_trans hB hW.size) (h2.below hW h2.lt) rfl hf
    · cases hx
      exact parts1_any B PA pc c.ps G3 c.frame c.margin _ _ W (h.ps.row.keep fun k hk' _ => hk k hk') (by omega) l4 (Nat.le_trans hB hW.size) (h3.below hW h3.lt) rfl rfl
    · cases hx
      exact channels1_any B CA cc c.cs G4 c.frame c.margin _ PA c.ps.length pc W (h.cs.row.keep fun k hk' _ => hk k hk') (by omega) (h4.below hW h4.lt) rfl
    · simp [CfgD.looks] at hx

theorem looks_cells (c : CfgD) (W : World) (G1 G2 G3 G4 : Nat) (T : TypeId) (i : Nat) (x : Look) (hx : (c.looks G1 G2 G3 G4)[i]? = some x) :
    (W.alloc (.cells #[.func (.func 117) #[] #[.pointer (some ⟨G1, 0, none⟩)], .func (.func 119) #[] #[.pointer (some ⟨G2, 0, none⟩)], .func (.func 122) #[] #[.pointer (some ⟨G3, 0, none⟩)], .func (.func 125) #[] #[.pointer (some ⟨G4, 0, none⟩)]] T)).cell? ⟨W.heap.size, i, none⟩ = some x.fn := by
  rcases i with _ | _ | _ | _ | i
  · cases hx; exact cell_alloc_lit _ _ _ 0 _ rfl
  · cases hx; exact cell_alloc_lit _ _ _ 1 _ rfl
  · cases hx; exact cell_alloc_lit _ _ _ 2 _ rfl
  · cases hx; exact cell_alloc_lit _ _ _ 3 _ rfl
  · simp [CfgD.looks] at hx

set_option maxHeartbeats 1000000 in
theorem check_any (B : Nat) (c : CfgD) (WA : Option Addr) (wc : Nat) (PA : Option Addr) (pc : Nat) (CA : Option Addr) (cc : Nat) (w : World) (h : CfgA tO B w c WA wc PA pc CA cc) (hl : c.light = true) (hB : B ≤ w.heap.size) :
    Calls Try.prog 37 #[.agg #[.int .i64 c.frame, .int .i64 c.margin, .slice WA c.ws.length wc, .slice PA c.ps.length pc, .slice CA c.cs.length cc]] w fun e w' => e = .returned (.tuple #[.int .i64 c.check.1, .int .i64 c.check.2]) ∧ Below w.heap.size w w' := by
  have hfin := fun W (hW : Below w.heap.size w W) => vfirst_check B c WA wc PA pc CA cc W (h.below hW (Nat.le_refl _)) hl (Nat.le_trans hB hW.size)
  have hlk := fun W G1 G2 G3 G4 T i x hx => looks_cells c W G1 G2 G3 G4 T i x hx
  obtain ⟨r1, hr1⟩ : ∃ r, c.check.1 = r := ⟨_, rfl⟩
  obtain ⟨r2, hr2⟩ : ∃ r, c.check.2 = r := ⟨_, rfl⟩
  rw [hr1, hr2] at hfin ⊢
  clear hr1 hr2
  obtain ⟨f, hf⟩ : ∃ r, c.frame = r := ⟨_, rfl⟩
  obtain ⟨m, hm⟩ : ∃ r, c.margin = r := ⟨_, rfl⟩
  obtain ⟨v1, hv1⟩ : ∃ v, Value.slice WA c.ws.length wc = v := ⟨_, rfl⟩
  obtain ⟨v2, hv2⟩ : ∃ v, Value.slice PA c.ps.length pc = v := ⟨_, rfl⟩
  obtain ⟨v3, hv3⟩ : ∃ v, Value.slice CA c.cs.length cc = v := ⟨_, rfl⟩
  have o1 : v1.oneCell' = true := by rw [← hv1]; rfl
  have o2 : v2.oneCell' = true := by rw [← hv2]; rfl
  have o3 : v3.oneCell' = true := by rw [← hv3]; rfl
  rw [hf, hm, hv1, hv2, hv3] at hfin ⊢
  have Hfin := Lib.hid hfin
  have Hlk := Lib.hid hlk
  clear hfin hlk hv1 hv2 hv3 hf hm h hl
  have k1 := fun W => look_size f m v1 v2 v3 W o1 o2 o3
  have k2 := fun W => look_windows f m v1 v2 v3 W o1 o2 o3
  have k3 := fun W => look_parts f m v1 v2 v3 W o1 o2 o3
  have k4 := fun W => look_channels f m v1 v2 v3 W o1 o2 o3
  have K1 := Lib.hid k1
  have K2 := Lib.hid k2
  have K3 := Lib.hid k3
  have K4 := Lib.hid k4
  clear k1 k2 k3 k4
  go_enter Try.func37, Try.ntmps37
  go_wp2
  generalize hW : World.alloc _ _ = W1
  have hb1 : Below w.heap.size w W1 := by rw [← hW]; exact (Below.refl _ _).alloc (Nat.le_refl _) _
  have hbx : Blk W1 w.heap.size 71 #[.int .i64 f, .int .i64 m, v1, v2, v3] := by rw [← hW]; exact Blk.new _ _ _
  clear hW
  have hS : ∀ W : World, Below W1.heap.size W1 W → W.cell? ⟨w.heap.size, 0, none⟩ = some (.int .i64 f) ∧ W.cell? ⟨w.heap.size, 1, none⟩ = some (.int .i64 m) ∧ W.cell? ⟨w.heap.size, 2, none⟩ = some v1 ∧ W.cell? ⟨w.heap.size, 3, none⟩ = some v2 ∧ W.cell? ⟨w.heap.size, 4, none⟩ = some v3 := fun W hW => by
    have hx := hbx.below hW hbx.lt
    exact ⟨hx.cell 0 rfl, hx.cell 1 rfl, hx.cell 2 rfl, hx.cell 3 rfl, hx.cell 4 rfl⟩
  have HS := Lib.hid hS
  clear hS
  have z1 : Below W1.heap.size W1 W1.drew := (Below.refl _ _).drew
  go_region_held3 (fun W : World => W.cell? ⟨w.heap.size, 0, none⟩ = some (.int .i64 f) ∧ W.cell? ⟨w.heap.size, 1, none⟩ = some (.int .i64 m) ∧ W.cell? ⟨w.heap.size, 2, none⟩ = some v1 ∧ W.cell? ⟨w.heap.size, 3, none⟩ = some v2 ∧ W.cell? ⟨w.heap.size, 4, none⟩ = some v3) ((refine HS.out _ ?_; first | with_reducible exact z1 | with_reducible exact z2 | with_reducible exact z3 | with_reducible exact z4 | with_reducible exact z5 | with_reducible exact z5' _ | with_reducible exact z6)) (first | (go_at_call 82; refine (K1.out _).mono ?_; rintro e w2 ⟨rfl, q2, b2⟩; have z2 := z1.trans (b2.mono z1.size)) | (go_at_call 83; refine (K2.out _).mono ?_; rintro e w3 ⟨rfl, q3, b3⟩; have z3 := z2.trans (b3.mono z2.size); have q2a := q2.below b3 q2.lt) | (go_at_call 84; refine (K3.out _).mono ?_; rintro e w4 ⟨rfl, q4, b4⟩; have z4 := z3.trans (b4.mono z3.size); have q2b := q2a.below b4 q2a.lt; have q3b := q3.below b4 q3.lt) | (go_at_call 85; refine (K4.out _).mono ?_; rintro e w5 ⟨rfl, q5, b5⟩; have z5 := z4.trans (b5.mono z4.size); have z5' := fun o => z5.alloc z5.size o; have q2c := q2b.below b5 q2b.lt; have q3c := q3b.below b5 q3b.lt; have q4c := q4.below b5 q4.lt) | (go_at_call 81; refine (Hfin.out _ (hb1.trans ((z5' _).mono hb1.size)) _ _ _ _ _ (q2c.alloc _) (q3c.alloc _) (q4c.alloc _) (q5.alloc _) (Hlk.out _ _ _ _ _ _)).mono ?_; rintro e w6 ⟨rfl, b6⟩; have z6 := (z5' _).trans (b6.mono (z5' _).size)))
  go_wp2
  go_ret2
  exact ⟨rfl, hb1.trans (z6.mono hb1.size)⟩
end Go.Proofs.Ytgljmflcbdhigaa
