/- The document's frame: Mod, Right, New, Owner, Is, Next. -/
import Derived.Test.YtgljmflcbdhigaaFrameG
import Derived.Test.YtgljmflcbdhigaaClone
set_option linter.unusedVariables false
set_option linter.unusedSimpArgs false
namespace Go.Proofs.Ytgljmflcbdhigaa
open Go.RowKit

theorem emod_tmod (a b : Int) (hb : 1 ≤ b) : a % b = if a.tmod b < 0 then a.tmod b + b else a.tmod b := by
  have hz' : ¬ b = 0 := by omega
  have hr := Int.tmod_lt_of_pos a (show 0 < b by omega)
  have hr2 := Int.lt_tmod_of_pos a (show 0 < b by omega)
  have hd : b ∣ (a - a.tmod b) := ⟨a.tdiv b, by rw [Int.tmod_def]; omega⟩
  obtain ⟨q, hq⟩ := hd
  have e1 : a = a.tmod b + b * q := by omega
  split
  · rename_i h
    rw [e1, Int.add_mul_emod_self_left, ← e1]
    rw [← Int.add_emod_right, Int.emod_eq_of_lt (by omega) (by omega)]
  · rename_i h
    rw [e1, Int.add_mul_emod_self_left, ← e1]
    exact Int.emod_eq_of_lt (by omega) (by omega)

theorem refMod_any (a : Int) (b : Int) (w : World) (hb : 1 ≤ b) (hb2 : b ≤ 4611686018427387904) : Calls Try.prog 143 #[.int .i64 a, .int .i64 b] w fun e w' => e = .returned (.int .i64 (a % b)) ∧ w = w' := by
  have hz := rem_ne b hb
  have h1 : ¬ b < 1 := by omega
  have hz' : ¬ b = 0 := by omega
  have hr : a.tmod b < b := Int.tmod_lt_of_pos a (by omega)
  have hr2 : -b < a.tmod b := Int.lt_tmod_of_pos a (by omega)
  have he := emod_tmod a b hb
  obtain ⟨r, hrr⟩ : ∃ r, a.tmod b = r := ⟨_, rfl⟩
  rw [hrr] at hr hr2 he
  rw [he]
  have Hr := Lib.hid hrr
  clear he
  by_cases h : r < 0
  · rw [if_pos h]
    go_enter Try.func143, Try.ntmps143
    go_wp2
    go_ret
    exact ⟨rfl, rfl⟩
  · rw [if_neg h]
    go_enter Try.func143, Try.ntmps143
    go_wp2
    go_ret
    exact ⟨rfl, rfl⟩

set_option maxRecDepth 100000 in
set_option maxHeartbeats 2000000 in
theorem refRight04_any (B : Nat) (A : Option Addr) (c : Nat) (l : List WinD) (f m : Int) (w : World) (hl : Row repW 155 B w A l) (hf : 1 ≤ f ∧ f ≤ 256) (hm : 0 ≤ m ∧ m ≤ 8) (hn : l.length ≤ 32) (hfit : fitsFrom f 0 l = true) (hB : B ≤ w.heap.size) :
    Calls Try.prog 138 #[.int .i64 f, .int .i64 m, .slice A l.length c] w fun e w' => e = .returned (.bool true) ∧ Below w.heap.size w w' := by
  obtain ⟨n, hn'⟩ : ∃ n, l.length = n := ⟨_, rfl⟩
  rw [hn'] at hn ⊢
  have Hn := Lib.hid hn'
  have hfit0 : fitsFrom f 0 (l.drop 0) = true := hfit
  have Hfit := Lib.hid hfit0
  clear hn' hfit hfit0
  have g1 : ¬ f < 1 := by omega
  have g2 : ¬ 256 < f := by omega
  have g3 : ¬ m < 0 := by omega
  have g4 : ¬ 8 < m := by omega
  have g5 : ¬ (32 : Int) < (n : Int) := by omega
  go_enter Try.func138, Try.ntmps138
  go_wp2
  go_loopw [7, 8] (fun a j wr => ∃ (k : Nat) (en : Int), k ≤ n ∧ j = .int .i64 k ∧ a = .int .i64 en ∧ 0 ≤ en ∧ en ≤ 256 ∧ fitsFrom f en (l.drop k) = true ∧ Below w.heap.size w wr) (fun _ j _ => n - (intOf j).toNat)
  case atStart => exact ⟨0, 0, Nat.zero_le _, rfl, rfl, Int.le_refl _, by omega, Hfit.out, Below.refl _ _⟩
  case round =>
    clear Hfit
    obtain ⟨k, en, hk, rfl, rfl, hen, hen2, he, hb⟩ := hrel
    by_cases hlt : k < n
    · have hk2 : (k : Int) < (n : Int) := by omega
      obtain ⟨ad, x, rfl, hbk, hx, c0, c1, c2⟩ := at_W (hl.keep fun j hj _ => hb.block j (by omega)) (k := k) (by rw [Hn.out]; omega)
      rw [drop_cons' hx, fitsFrom] at he
      obtain ⟨at_, len, part⟩ := x
      have hbad : fitBad f en ⟨at_, len, part⟩ = false := by
        cases hh : fitBad f en ⟨at_, len, part⟩ with
        | false => rfl
        | true => rw [hh] at he; simp at he
      rw [hbad] at he
      simp only at c0 c1 c2
      have he2 : fitsFrom f (at_ + len) (l.drop (k + 1)) = true := by simpa using he
      clear hx he
      simp only [fitBad, Bool.or_eq_false_iff, decide_eq_false_iff_not] at hbad
      have q1 : ¬ at_ < en := by omega
      have q2 : ¬ f ≤ at_ := by omega
      have q3 : ¬ len < 1 := by omega
      have q4 : ¬ f - at_ < len := by omega
      have q5 : ¬ part < 0 := by omega
      have q6 : ¬ 6 ≤ part := by omega
      have w1 : IntKind.i64.wrap (f - at_) = f - at_ := IntWalk.i64_in _ (by omega)
      have w2 : IntKind.i64.wrap (at_ + len) = at_ + len := IntWalk.i64_in _ (by omega)
      clear hbad
      have hbA : ∀ o, Below w.heap.size w (wr.alloc o) := fun o => hb.alloc hb.size _
      have He := Lib.hid he2
      clear he2
      go_wp2
      go_roundw
      case rel => exact ⟨k + 1, at_ + len, by omega, by go_num, rfl, by omega, by omega, He.out, hbA _⟩
      case measure => simp [intOf] <;> omega
    · have hk2 : ¬ (k : Int) < (n : Int) := by omega
      clear he
      go_wp2
      go_ret
      exact ⟨rfl, hb⟩

/-- The document's table. -/
def RTab (B : Nat) (w : World) (T : Nat) (t : TabD) : Prop := ∃ WA wc, Blk w T 199 #[.int .i64 t.f, .int .i64 t.m, .slice WA t.ws.length wc] ∧ Slc repW 155 B w t.ws WA wc
theorem RTab.below {B D : Nat} {w w' : World} {T : Nat} {t : TabD} (h : RTab B w T t) (hb : Below D w w') (hD : w.heap.size ≤ D) : RTab B w' T t := by
  obtain ⟨WA, wc, h1, h2⟩ := h
  exact ⟨WA, wc, h1.below hb (Nat.lt_of_lt_of_le h1.lt hD), h2.below hb hD⟩
def RNewPost (t : TabD) (w : World) (e : Ending) (w' : World) : Prop := ∃ T, e = .returned (.pointer (some ⟨T, 0, none⟩)) ∧ RTab 0 w' T t ∧ Below w.heap.size w w'
theorem info_RW : (Try.prog.info? 155).map (fun i => (i.zero, i.size, i.bytes)) = some (some (.agg #[.int .i64 0, .int .i64 0, .int .i64 0]), 3, 24) := by kernel_rfl

set_option maxHeartbeats 2000000 in
theorem refNew04_any (B : Nat) (A : Option Addr) (c : Nat) (t : TabD) (w : World) (hl : Slc repW 155 B w t.ws A c) (ok : t.ok) (hB : B ≤ w.heap.size) :
    Calls Try.prog 96 #[.int .i64 t.f, .int .i64 t.m, .slice A t.ws.length c] w (RNewPost t w) := by
  obtain ⟨ws, m, f⟩ := t
  obtain ⟨f1, f2, m1, m2, n1, hfit⟩ := ok
  simp only at f1 f2 m1 m2 n1 hfit hl
  have hr := refRight04_any B A c ws f m w hl.row (by omega) (by omega) n1 hfit hB
  have Hl := Lib.hid hl
  simp only
  obtain ⟨n, hn⟩ : ∃ n, ws.length = n := ⟨_, rfl⟩
  rw [hn] at hr n1 ⊢
  have Hn := Lib.hid hn
  have HR := Lib.hid hr
  clear hr hl hn hfit
  go_enter Try.func96, Try.ntmps96
  go_wp2_with fail
  refine HR.out.mono ?_
  rintro e w1 ⟨rfl, hb⟩
  have own0 := (Own.empty (d := repW) (e := 155) (B0 := B) (B := w1.heap.size) (w := w1) (Nat.le_refl _))
  have hb0 : Below w1.heap.size w1 (w1.alloc (.cells #[] 155)) := (Below.refl _ _).alloc (Nat.le_refl _) _
  have hb1 : Below w.heap.size w (w1.alloc (.cells #[] 155)) := hb.trans (hb0.mono hb.size)
  have Hown := Lib.hid own0
  have hBw := Nat.le_trans hB hb.size
  clear own0
  go_wp2_with (at_builtin; (refine wpList_append_row rfl (.tmp 14) (.tmp 15) 60 rfl repW 155 B w1.heap.size (by kernel_rfl) info_RW (by decide) (by decide) (by decide) _ [] ?_ Hown.out A c ws ?_ Hl.out.nil (by have := Hl.out.le; exact this) (Hl.out.row.keep fun j hj _ => hb1.block j hj) hBw ?_ ?_ ?_ ?_; (· rfl); (· simp only [← Hn.out]; rfl); (· rw [Hn.out]; simp; omega); (· rw [Hn.out]; simp; omega); (· simp)); intro v' w3 hown' hg hat; have hown2 : Own repW 155 0 w1.heap.size w3 v' ws := hown'; clear hown'; obtain ⟨OA, oc, hv, _, _, _⟩ := hown2.slice; rw [Hn.out] at hv; subst hv)
  have hb3 : Below w.heap.size w w3 := hb1.grown hg hb1.size (fun k hk => by simp [Value.ownBlock] at hk; have := hb.size; omega)
  obtain ⟨OA', oc', hv, hs⟩ := hown2.slc
  rw [Hn.out] at hv
  cases hv
  refine bodyPost_ret (v := .pointer (some ⟨w3.heap.size, 0, none⟩)) ?_ rfl ?_
  · simp [results, Try.results96, go_sem]
  · refine ⟨_, rfl, ⟨OA, oc, ?_, (hs.below ((Below.refl _ _).alloc (Nat.le_refl _) _) (Nat.le_refl _))⟩, hb3.alloc hb3.size _⟩
    have := Blk.new w3 199 #[.int .i64 f, .int .i64 m, .slice OA n oc]
    simpa [Hn.out] using this

/-! ### Owner -/
def hitD (q : Int) (x : WinD) : Bool := decide (x.at_ ≤ q) && decide (q < x.at_ + x.len)
def ownF (m q : Int) (l : List WinD) : Int × Int :=
  match l.find? (hitD q) with
  | none => (-1, 0)
  | some x => if q < x.opens m then (x.part, 1) else (x.part, 2)
theorem owner_ownF (t : TabD) (tick : Int) : t.owner tick = ownF t.m (tick % t.f) t.ws := rfl

set_option maxRecDepth 100000 in
set_option maxHeartbeats 4000000 in
theorem refOwner_any (B T : Nat) (t : TabD) (tick : Int) (w : World) (hT : RTab B w T t) (ok : t.ok) (hB : B ≤ w.heap.size) :
    Calls Try.prog 99 #[.pointer (some ⟨T, 0, none⟩), .int .i64 tick] w fun e w' => e = .returned (.tuple #[.int .i64 (t.owner tick).1, .int .i64 (t.owner tick).2]) ∧ Below w.heap.size w w' := by
  obtain ⟨A, c, hT, hl⟩ := hT
  obtain ⟨ws, m, f⟩ := t
  obtain ⟨f1, f2, m1, m2, n1, hfit⟩ := ok
  have hall := fits_all f ws 0 (Int.le_refl _) hfit
  simp only at f1 f2 m1 m2 n1 hall hl hT
  have hm := fun W => refMod_any tick f W (by omega) (by omega)
  rw [owner_ownF]
  simp only
  have q0 : 0 ≤ tick % (f : Int) := Int.emod_nonneg _ (by omega)
  have q1 : tick % (f : Int) < f := Int.emod_lt_of_pos _ (by omega)
  obtain ⟨q, hq⟩ : ∃ q, tick % (f : Int) = q := ⟨_, rfl⟩
  rw [hq] at hm q0 q1 ⊢
  obtain ⟨r1, r2, hr⟩ : ∃ r1 r2, ownF m q ws = (r1, r2) := ⟨_, _, rfl⟩
  rw [hr]
  have hr0 : ownF m q (ws.drop 0) = (r1, r2) := hr
  obtain ⟨n, hn⟩ : ∃ n, ws.length = n := ⟨_, rfl⟩
  rw [hn] at n1 hT
  have Hn := Lib.hid hn
  have HL := Lib.hid hl
  have HM := Lib.hid hm
  have Hr := Lib.hid hr0
  have Hall := Lib.hid hall
  clear hn hl hm hr hr0 hall hfit hq
  have t0 := hT.cell 0 rfl
  have lT := hT.lt
  go_enter Try.func99, Try.ntmps99
  go_wp2_with fail
  refine (HM.out _).mono ?_
  rintro e w1 ⟨rfl, rfl⟩
  clear t0
  go_wp2
  go_loopw [7] (fun j wr => ∃ k : Nat, k ≤ n ∧ j = .int .i64 k ∧ ownF m q (ws.drop k) = (r1, r2) ∧ Below w.heap.size w wr) (fun j _ => n - (intOf j).toNat)
  case atStart => exact ⟨0, Nat.zero_le _, rfl, Hr.out, Below.refl _ _⟩
  case round =>
    clear Hr
    obtain ⟨k, hk, rfl, he, hb⟩ := hrel
    have hTr := hT.below hb hT.lt
    have lTr := hTr.lt
    have t1 := hTr.cell 1 rfl
    have t2 := hTr.cell 2 rfl
    by_cases hlt : k < n
    · have hk2 : (k : Int) < (n : Int) := by omega
      have hk0 : (0 : Int) ≤ (k : Int) := by omega
      obtain ⟨ad, x, rfl, hbk, hx, c0, c1, c2⟩ := at_W (HL.out.row.keep fun j hj _ => hb.block j (by omega)) (k := k) (by rw [Hn.out]; omega)
      have hxa := Hall.out x (List.mem_of_getElem? hx)
      rw [drop_cons' hx] at he
      have hstep : ownF m q (x :: ws.drop (k + 1)) = if hitD q x = true then (if q < x.opens m then (x.part, 1) else (x.part, 2)) else ownF m q (ws.drop (k + 1)) := by
        unfold ownF
        rw [List.find?_cons]
        cases hitD q x <;> rfl
      rw [hstep] at he
      obtain ⟨at_, len, part⟩ := x
      simp only [WinD.opens] at he hxa c0 c1 c2
      have hbA : ∀ o, Below w.heap.size w (wr.alloc o) := fun o => hb.alloc hb.size _
      have hTA := hTr.alloc (.cells #[.int .i64 at_, .int .i64 len, .int .i64 part] 155)
      have hz := Blk.new wr 155 #[.int .i64 at_, .int .i64 len, .int .i64 part]
      have u1 := hTA.cell 1 rfl
      have x0 := hz.cell 0 rfl
      have w1 : IntKind.i64.wrap (q - at_) = q - at_ := IntWalk.i64_in _ (by omega)
      clear hx hstep
      by_cases g1 : at_ ≤ q
      · by_cases g2 : q - at_ < len
        · have hh : hitD q ⟨at_, len, part⟩ = true := by simp [hitD]; omega
          rw [hh, if_pos rfl] at he
          by_cases g3 : q - at_ < m
          · have e : (part, (1 : Int)) = (r1, r2) := (if_pos (show q < min (at_ + m) (at_ + len) by omega)).symm.trans he
            clear he
            injection e with e1 e2
            subst e1 e2
            clear hh
            go_wp2
            go_quiet (fail)
            go_wp2
            go_ret2
            exact ⟨rfl, below_drewN (hbA _)⟩
          · have e : (part, (2 : Int)) = (r1, r2) := (if_neg (show ¬ q < min (at_ + m) (at_ + len) by omega)).symm.trans he
            clear he
            injection e with e1 e2
            subst e1 e2
            clear hh
            go_wp2
            go_quiet (fail)
            go_wp2
            go_ret2
            exact ⟨rfl, below_drewN (hbA _)⟩
        · have hh : hitD q ⟨at_, len, part⟩ = false := by simp [hitD]; omega
          rw [hh, if_neg (by decide)] at he
          have He := Lib.hid he
          clear he hh
          go_wp2
          go_roundw
          case rel => exact ⟨k + 1, by omega, by go_num, He.out, hbA _⟩
          case measure => simp [intOf] <;> omega
      · have hh : hitD q ⟨at_, len, part⟩ = false := by simp [hitD]; omega
        rw [hh, if_neg (by decide)] at he
        have He := Lib.hid he
        clear he hh
        have g1' : q < at_ := by omega
        go_wp2
        go_roundw
        case rel => exact ⟨k + 1, by omega, by go_num, He.out, hbA _⟩
        case measure => simp [intOf] <;> omega
    · have hk2 : ¬ (k : Int) < (n : Int) := by omega
      have e : ((-1 : Int), (0 : Int)) = (r1, r2) := by
        rw [← he, List.drop_of_length_le (by rw [Hn.out]; omega)]; rfl
      injection e with e1 e2
      subst e1 e2
      clear he
      go_wp2
      go_ret2
      exact ⟨rfl, hb⟩
end Go.Proofs.Ytgljmflcbdhigaa
