/- What the document asks of an entry of a log: soon, twice, low, late. -/
import Derived.Test.YtgljmflcbdhigaaAuditK
set_option linter.unusedVariables false
namespace Go.Proofs.Ytgljmflcbdhigaa
open Go.RowKit

abbrev big61 : Int := 2305843009213693952
def lightD (l : List Entry) : Prop := ∀ x ∈ l, 0 ≤ x.tick ∧ x.tick ≤ 2305843009213693952

def FewPost (l : List Entry) (e : Ending) : Prop := ∃ b, e = .returned (.bool b) ∧ (b = true → l.length ≤ 80 ∧ lightD l)

set_option maxHeartbeats 1000000 in
theorem few28_any (B : Nat) (A : Option Addr) (c : Nat) (l : List Entry) (w : World) (hl : Row repE 132 B w A l) :
    Calls Try.prog 18 #[.slice A l.length c] w fun e w' => FewPost l e ∧ Drawn w w' := by
  obtain ⟨n, hn'⟩ : ∃ n, l.length = n := ⟨_, rfl⟩
  rw [hn']
  have Hn := Lib.hid hn'
  clear hn'
  go_enter Try.func18, Try.ntmps18
  go_wp2
  go_loopw [3] (fun i wr => ∃ k : Nat, k ≤ n ∧ k ≤ 100 ∧ i = .int .i64 k ∧ (∀ j y, j < k → l[j]? = some y → 0 ≤ y.tick ∧ y.tick ≤ 2305843009213693952) ∧ Drawn w wr) (fun i _ => n - (intOf i).toNat)
  case atStart => exact ⟨0, Nat.zero_le _, Nat.zero_le _, rfl, fun j y hj => by omega, Drawn.refl _⟩
  case round =>
    obtain ⟨k, hk, hk100, rfl, hb, hd⟩ := hrel
    have Hb := Lib.hid hb
    clear hb
    by_cases hlt : k < n
    · have hk2 : (k : Int) < (n : Int) := by omega
      by_cases hl100 : k < 100
      · have hk3 : (k : Int) < 100 := by omega
        obtain ⟨ad, x, rfl, hbk, hx, h0, h1, h2, h3⟩ := at_E (hl.drawn hd) (k := k) (by rw [Hn.out]; exact hlt)
        have Hx := Lib.hid hx
        clear hx h1 h2 h3
        by_cases hneg : x.tick < 0
        · go_wp2
          go_ret
          exact ⟨⟨_, rfl, fun h => by cases h⟩, hd⟩
        · by_cases hbig : x.tick > 2305843009213693952
          · go_wp2
            go_ret
            exact ⟨⟨_, rfl, fun h => by cases h⟩, hd⟩
          · go_wp2
            go_roundw
            case rel => exact ⟨k + 1, by omega, by omega, by go_num, fun j y hj hy => by
              by_cases e : j < k
              · exact Hb.out j y e hy
              · have e : j = k := by omega
                subst e
                rw [Hx.out] at hy
                cases hy
                omega, hd⟩
            case measure => simp [intOf] <;> omega
      · have hk3 : ¬ (k : Int) < 100 := by omega
        have hn80 : ¬ (n : Int) ≤ 80 := by omega
        go_wp2
        go_ret
        exact ⟨⟨_, rfl, fun h => by cases h⟩, hd⟩
    · have hk2 : ¬ (k : Int) < (n : Int) := by omega
      have hkn : k = n := by omega
      by_cases hn80 : (n : Int) ≤ 80
      · go_wp2
        go_ret
        refine ⟨⟨_, rfl, fun _ => ⟨by rw [Hn.out]; omega, fun x hx => ?_⟩⟩, hd⟩
        obtain ⟨j, hj⟩ := List.getElem?_of_mem hx
        have hjl := (List.getElem?_eq_some_iff.1 hj).1
        rw [Hn.out] at hjl
        exact Hb.out j x (by omega) hj
      · go_wp2
        go_ret
        exact ⟨⟨_, rfl, fun h => by cases h⟩, hd⟩

/-! ### The document's questions -/
def openD (jobs : List Job) (task : Int) : Bool := jobs.any fun y => decide (y.task = task) && decide (y.fin = 0)
def lateD (j : Job) (d now : Int) : Bool := decide (d ≤ now - j.src) && (decide (j.fin = 0) || decide (d ≤ j.dst - j.src))
def soonD (last : Option Int) (tick t : Int) : Bool := match last with | none => false | some k => decide (tick - k < t)

theorem ends_acc {x : Entry} (h : x.kind = 0) (t : Int) : x.ends t = 0 := endsK_zero (by simp [Entry.brk, h]) t (by rw [h]; rfl)
theorem openD_step (x : Entry) (jobs : List Job) (t : Int) : openD (stepJobs x jobs) t = if x.ends t ≠ 0 then false else if x.kind = 0 ∧ x.a = t then true else openD jobs t := by
  unfold openD stepJobs
  rw [List.any_append, List.any_map]
  have hold : (jobs.any ((fun y : Job => decide (y.task = t) && decide (y.fin = 0)) ∘ x.close)) = if x.ends t ≠ 0 then false else jobs.any fun y => decide (y.task = t) && decide (y.fin = 0) := by
    by_cases he : x.ends t = 0
    · rw [if_neg (by simp [he])]
      congr 1
      funext y
      show (decide ((x.close y).task = t) && decide ((x.close y).fin = 0)) = _
      unfold Entry.close
      by_cases hy : y.task = t
      · subst hy; simp [he]
      · by_cases hc : y.fin = 0 ∧ x.ends y.task ≠ 0
        · rw [if_pos hc]; simp [hy]
        · rw [if_neg hc]
    · rw [if_pos (by simp [he]), List.any_eq_false]
      intro y _
      show ¬ (decide ((x.close y).task = t) && decide ((x.close y).fin = 0)) = true
      unfold Entry.close
      by_cases hy : y.task = t
      · subst hy
        by_cases hf : y.fin = 0
        · simp [he, hf]
        · simp [hf]
      · by_cases hc : y.fin = 0 ∧ x.ends y.task ≠ 0
        · rw [if_pos hc]; simp [hy]
        · rw [if_neg hc]; simp [hy]
  rw [hold]
  by_cases h0 : x.kind = 0
  · rw [if_pos h0]
    have he := ends_acc h0 t
    by_cases ha : x.a = t
    · simp [he, h0, ha, Entry.newJob]
    · simp [he, h0, ha, Entry.newJob]
  · rw [if_neg h0]
    simp [h0]
theorem stepLast_at (x : Entry) (last : Int → Option Int) (t : Int) : stepLast x last t = if x.kind = 0 ∧ x.a = t then some x.tick else last t := by
  unfold stepLast
  by_cases h0 : x.kind = 0
  · rw [if_pos h0]
    by_cases ha : x.a = t
    · simp [h0, ha]
    · have : ¬ t = x.a := fun e => ha e.symm
      simp [h0, ha, this]
  · rw [if_neg h0]; simp [h0]

set_option maxHeartbeats 2000000 in
theorem soon_any (B : Nat) (A : Option Addr) (c : Nat) (l : List Entry) (i : Nat) (x : Entry) (t : Int) (w : World) (hl : Row repE 132 B w A l) (hn : l.length ≤ 100) (hx : l[i]? = some x) (hli : lightD l) :
    Calls Try.prog 59 #[.slice A l.length c, .int .i64 i, .int .i64 t] w fun e w' => e = .returned (.bool (soonD (stLast (l.take i) x.a) x.tick t)) ∧ Drawn w w' := by
  obtain ⟨n, hn'⟩ : ∃ n, l.length = n := ⟨_, rfl⟩
  rw [hn']
  have Hn := Lib.hid hn'
  rw [hn'] at hn
  clear hn'
  have hi : i < n := by have := (List.getElem?_eq_some_iff.1 hx).1; rw [Hn.out] at this; exact this
  have hi2 : (i : Int) < (n : Int) := by omega
  have hi3 : (0 : Int) ≤ (i : Int) := by omega
  have hxb := hli x (List.mem_of_getElem? hx)
  have Hx := Lib.hid hx
  have Hli := Lib.hid hli
  clear hx hli
  generalize hres : stLast (l.take i) x.a = r
  have Hres := Lib.hid hres
  clear hres
  go_enter Try.func59, Try.ntmps59
  go_wp2
  go_loopw [7] (fun j wr => ∃ k : Nat, k ≤ i ∧ j = .int .i64 ((k : Int) - 1) ∧ stLast (l.take k) x.a = r ∧ Drawn w wr) (fun j _ => (intOf j + 1).toNat)
  case atStart => exact ⟨i, Nat.le_refl _, rfl, Hres.out, Drawn.refl _⟩
  case round =>
    obtain ⟨k, hki, rfl, hr, hd⟩ := hrel
    have Hr := Lib.hid hr
    clear hr
    by_cases hk0 : k = 0
    · subst hk0
      have er : r = none := by rw [← Hr.out]; rfl
      subst er
      go_wp2
      go_ret
      exact ⟨rfl, hd⟩
    · obtain ⟨m, rfl⟩ : ∃ m, k = m + 1 := ⟨k - 1, by omega⟩
      have em : ((m + 1 : Nat) : Int) - 1 = (m : Int) := by omega
      rw [em]
      have hm2 : (m : Int) < (n : Int) := by omega
      have hm3 : (0 : Int) ≤ (m : Int) := by omega
      obtain ⟨ad, y, rfl, hbk, hy, h0, h1, h2, h3⟩ := at_E (hl.drawn hd) (k := m) (by rw [Hn.out]; omega)
      obtain ⟨ad', x', ead, hbk', hx', g0, g1, g2, g3⟩ := at_E (hl.drawn hd) (k := i) (by rw [Hn.out]; omega)
      cases ead
      obtain rfl : x' = x := by rw [Hx.out] at hx'; cases hx'; rfl
      have hyb := Hli.out y (List.mem_of_getElem? hy)
      have hs : stLast (l.take (m + 1)) x'.a = stepLast y (stLast (l.take m)) x'.a := by rw [take_snoc' hy, stLast_snoc]
      rw [Hr.out, stepLast_at] at hs
      have Hs := Lib.hid hs
      clear hs hx' hy em
      by_cases hk : y.kind = 0
      · have hkt : (y.kind == 0) = true := by simp [hk]
        by_cases ha : y.a = x'.a
        · have hat : (y.a == x'.a) = true := by simp [ha]
          have er := Hs.out
          rw [if_pos ⟨hk, ha⟩] at er
          subst er
          have hwr : IntKind.i64.wrap (x'.tick - y.tick) = x'.tick - y.tick := IntWalk.i64_in _ (by omega)
          clear hk ha hyb hxb
          go_wp2
          go_quiet (fail)
          go_wp2
          go_quiet (fail)
          go_wp2
          go_ret
          exact ⟨ret_b rfl, (hd.drewN _).drewN _⟩
        · have hat : (y.a == x'.a) = false := by simp [ha]
          have er := Hs.out
          rw [if_neg (fun h => ha h.2)] at er
          have Er := Lib.hid er
          clear hk ha er
          go_wp2
          go_quiet (fail)
          go_wp2
          go_roundw
          case rel => exact ⟨m, by omega, rfl, Er.out.symm, hd.drewN _⟩
          case measure => simp [intOf] <;> omega
      · have hkt : (y.kind == 0) = false := by simp [hk]
        have er := Hs.out
        rw [if_neg (fun h => hk h.1)] at er
        have Er := Lib.hid er
        clear hk er
        go_wp2
        go_quiet (fail)
        go_wp2
        go_roundw
        case rel => exact ⟨m, by omega, rfl, Er.out.symm, hd.drewN _⟩
        case measure => simp [intOf] <;> omega
set_option maxHeartbeats 4000000 in
theorem twice_any (B : Nat) (A : Option Addr) (c : Nat) (l : List Entry) (i : Nat) (x : Entry) (w : World) (hl : Row repE 132 B w A l) (hn : l.length ≤ 100) (hx : l[i]? = some x) :
    Calls Try.prog 60 #[.slice A l.length c, .int .i64 i] w fun e w' => e = .returned (.bool (openD (stJobs (l.take i)) x.a)) ∧ Below w.heap.size w w' := by
  obtain ⟨n, hn'⟩ : ∃ n, l.length = n := ⟨_, rfl⟩
  rw [hn']
  have Hn := Lib.hid hn'
  rw [hn'] at hn
  clear hn'
  have hi : i < n := by have := (List.getElem?_eq_some_iff.1 hx).1; rw [Hn.out] at this; exact this
  have hi2 : (i : Int) < (n : Int) := by omega
  have hi3 : (0 : Int) ≤ (i : Int) := by omega
  have Hx := Lib.hid hx
  clear hx
  generalize hres : openD (stJobs (l.take i)) x.a = r
  have Hres := Lib.hid hres
  clear hres
  go_enter Try.func60, Try.ntmps60
  go_wp2
  go_loopw [5, 6] (fun o j wr => ∃ k : Nat, k ≤ i ∧ j = .int .i64 k ∧ o = .bool (openD (stJobs (l.take k)) x.a) ∧ Below w.heap.size w wr) (fun _ j _ => i - (intOf j).toNat)
  case atStart => exact ⟨0, Nat.zero_le _, rfl, rfl, Below.refl _ _⟩
  case round =>
    obtain ⟨k, hki, rfl, rfl, hb⟩ := hrel
    by_cases hlt : k < i
    · have hk2 : (k : Int) < (i : Int) := by omega
      have hk3 : (k : Int) < (n : Int) := by omega
      have hlr : Row repE 132 B wr A l := hl.keep fun j hj _ => hb.block j hj
      obtain ⟨ad, y, rfl, hbk, hy, h0, h1, h2, h3⟩ := at_E hlr (k := k) (by rw [Hn.out]; omega)
      obtain ⟨ad', x', ead, hbk', hx', g0, g1, g2, g3⟩ := at_E hlr (k := i) (by rw [Hn.out]; omega)
      cases ead
      obtain rfl : x' = x := by rw [Hx.out] at hx'; cases hx'; rfl
      have hs : openD (stJobs (l.take (k + 1))) x'.a = if y.ends x'.a ≠ 0 then false else if y.kind = 0 ∧ y.a = x'.a then true else openD (stJobs (l.take k)) x'.a := by rw [take_snoc' hy, stJobs_snoc]; exact openD_step _ _ _
      generalize openD (stJobs (l.take k)) x'.a = o at hs ⊢
      have Hs := Lib.hid hs
      clear hs hx' hy g0 g1 g3 hbk hbk'
      have hsz := hb.size
      by_cases hk : y.kind = 0
      · have hkt : (y.kind == 0) = true := by simp [hk]
        have he := ends_acc hk x'.a
        have er := Hs.out
        rw [if_neg (by simp [he])] at er
        have He := Lib.hid he
        clear he
        by_cases ha : y.a = x'.a
        · have hat : (y.a == x'.a) = true := by simp [ha]
          rw [if_pos ⟨hk, ha⟩] at er
          have Er := Lib.hid er
          clear hk ha er
          go_wp2
          go_quiet (fail)
          go_wp2
          go_region_held3 (fun W : World => W.cell? (ad.add (k * 4)) = some (.int .i64 y.tick) ∧ W.cell? ⟨(ad.add (k * 4)).block, (ad.add (k * 4)).off + 1, none⟩ = some (.int .i64 y.kind) ∧ W.cell? ⟨(ad.add (k * 4)).block, (ad.add (k * 4)).off + 2, none⟩ = some (.int .i64 y.a) ∧ W.cell? ⟨(ad.add (k * 4)).block, (ad.add (k * 4)).off + 3, none⟩ = some (.int .i64 y.b) ∧ W.cell? ⟨(ad.add (i * 4)).block, (ad.add (i * 4)).off + 2, none⟩ = some (.int .i64 x'.a)) (first | exact ⟨h0, h1, h2, h3, g2⟩ | exact ⟨c0, c1, c2, c3, c4⟩) (first | (go_at_call 103; refine (refEnds_any y x'.a _).mono ?_; rw [He.out]; rintro e w2 ⟨rfl, hb2⟩; have hb2' := hb2; have c0 := cb hb2 h0; have c1 := cb hb2 h1; have c2 := cb hb2 h2; have c3 := cb hb2 h3; have c4 := cb hb2 g2))
          go_wp2
          go_roundw
          case rel => exact ⟨k + 1, by omega, by go_num, by rw [Er.out], hb.trans ((undrewN hb2').mono hsz)⟩
          case measure => simp [intOf] <;> omega
        · have hat : (y.a == x'.a) = false := by simp [ha]
          rw [if_neg (fun h => ha h.2)] at er
          have Er := Lib.hid er
          clear hk ha er
          go_wp2
          go_quiet (fail)
          go_wp2
          go_region_held3 (fun W : World => W.cell? (ad.add (k * 4)) = some (.int .i64 y.tick) ∧ W.cell? ⟨(ad.add (k * 4)).block, (ad.add (k * 4)).off + 1, none⟩ = some (.int .i64 y.kind) ∧ W.cell? ⟨(ad.add (k * 4)).block, (ad.add (k * 4)).off + 2, none⟩ = some (.int .i64 y.a) ∧ W.cell? ⟨(ad.add (k * 4)).block, (ad.add (k * 4)).off + 3, none⟩ = some (.int .i64 y.b) ∧ W.cell? ⟨(ad.add (i * 4)).block, (ad.add (i * 4)).off + 2, none⟩ = some (.int .i64 x'.a)) (first | exact ⟨h0, h1, h2, h3, g2⟩ | exact ⟨c0, c1, c2, c3, c4⟩) (first | (go_at_call 103; refine (refEnds_any y x'.a _).mono ?_; rw [He.out]; rintro e w2 ⟨rfl, hb2⟩; have hb2' := hb2; have c0 := cb hb2 h0; have c1 := cb hb2 h1; have c2 := cb hb2 h2; have c3 := cb hb2 h3; have c4 := cb hb2 g2))
          go_wp2
          go_roundw
          case rel => exact ⟨k + 1, by omega, by go_num, by rw [Er.out], hb.trans ((undrewN hb2').mono hsz)⟩
          case measure => simp [intOf] <;> omega
      · have hkt : (y.kind == 0) = false := by simp [hk]
        have er := Hs.out
        rw [if_neg (fun h : y.kind = 0 ∧ _ => hk h.1)] at er
        clear hk
        generalize he : y.ends x'.a = q at er
        have He := Lib.hid he
        clear he
        by_cases hq : q = 0
        · have hqt : (q != 0) = false := by simp [hq]
          rw [if_neg (by simp [hq])] at er
          have Er := Lib.hid er
          clear hq er
          go_wp2
          go_quiet (fail)
          go_wp2
          go_region_held3 (fun W : World => W.cell? (ad.add (k * 4)) = some (.int .i64 y.tick) ∧ W.cell? ⟨(ad.add (k * 4)).block, (ad.add (k * 4)).off + 1, none⟩ = some (.int .i64 y.kind) ∧ W.cell? ⟨(ad.add (k * 4)).block, (ad.add (k * 4)).off + 2, none⟩ = some (.int .i64 y.a) ∧ W.cell? ⟨(ad.add (k * 4)).block, (ad.add (k * 4)).off + 3, none⟩ = some (.int .i64 y.b) ∧ W.cell? ⟨(ad.add (i * 4)).block, (ad.add (i * 4)).off + 2, none⟩ = some (.int .i64 x'.a)) (first | exact ⟨h0, h1, h2, h3, g2⟩ | exact ⟨c0, c1, c2, c3, c4⟩) (first | (go_at_call 103; refine (refEnds_any y x'.a _).mono ?_; rw [He.out]; rintro e w2 ⟨rfl, hb2⟩; have hb2' := hb2; have c0 := cb hb2 h0; have c1 := cb hb2 h1; have c2 := cb hb2 h2; have c3 := cb hb2 h3; have c4 := cb hb2 g2))
          go_wp2
          go_roundw
          case rel => exact ⟨k + 1, by omega, by go_num, by rw [Er.out], hb.trans ((undrewN hb2').mono hsz)⟩
          case measure => simp [intOf] <;> omega
        · have hqt : (q != 0) = true := by simp [hq]
          rw [if_pos hq] at er
          have Er := Lib.hid er
          clear hq er
          go_wp2
          go_quiet (fail)
          go_wp2
          go_region_held3 (fun W : World => W.cell? (ad.add (k * 4)) = some (.int .i64 y.tick) ∧ W.cell? ⟨(ad.add (k * 4)).block, (ad.add (k * 4)).off + 1, none⟩ = some (.int .i64 y.kind) ∧ W.cell? ⟨(ad.add (k * 4)).block, (ad.add (k * 4)).off + 2, none⟩ = some (.int .i64 y.a) ∧ W.cell? ⟨(ad.add (k * 4)).block, (ad.add (k * 4)).off + 3, none⟩ = some (.int .i64 y.b) ∧ W.cell? ⟨(ad.add (i * 4)).block, (ad.add (i * 4)).off + 2, none⟩ = some (.int .i64 x'.a)) (first | exact ⟨h0, h1, h2, h3, g2⟩ | exact ⟨c0, c1, c2, c3, c4⟩) (first | (go_at_call 103; refine (refEnds_any y x'.a _).mono ?_; rw [He.out]; rintro e w2 ⟨rfl, hb2⟩; have hb2' := hb2; have c0 := cb hb2 h0; have c1 := cb hb2 h1; have c2 := cb hb2 h2; have c3 := cb hb2 h3; have c4 := cb hb2 g2))
          go_wp2
          go_roundw
          case rel => exact ⟨k + 1, by omega, by go_num, by rw [Er.out], hb.trans ((undrewN hb2').mono hsz)⟩
          case measure => simp [intOf] <;> omega
    · have hk2 : ¬ (k : Int) < (i : Int) := by omega
      have e : k = i := by omega
      subst e
      go_wp2
      go_ret
      exact ⟨ret_b Hres.out, hb⟩
end Go.Proofs.Ytgljmflcbdhigaa
