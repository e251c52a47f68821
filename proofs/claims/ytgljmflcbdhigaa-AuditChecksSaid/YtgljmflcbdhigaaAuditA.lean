/- Contracts of the functions that the audit's laws reach, the leaves. -/
import Derived.Test.YtgljmflcbdhigaaNum
import Derived.Test.YtgljmflcbdhigaaProg
set_option linter.unusedVariables false
namespace Go.Proofs.Ytgljmflcbdhigaa
open Go.RowKit

structure Entry where
  tick : Int
  kind : Int
  a : Int
  b : Int
def Entry.enc (x : Entry) : List Value := [.int .i64 x.tick, .int .i64 x.kind, .int .i64 x.a, .int .i64 x.b]
def repE : Rep Entry := Rep.flat 4 Entry.enc (fun _ => rfl) (fun x u hu => by simp [Entry.enc] at hu; rcases hu with rfl | rfl | rfl | rfl <;> rfl)
structure Job where
  task : Int
  work : Int
  src : Int
  dst : Int
  fin : Int
def Job.enc (x : Job) : List Value := [.int .i64 x.task, .int .i64 x.work, .int .i64 x.src, .int .i64 x.dst, .int .i64 x.fin]
def repJ : Rep Job := Rep.flat 5 Job.enc (fun _ => rfl) (fun x u hu => by simp [Job.enc] at hu; rcases hu with rfl | rfl | rfl | rfl | rfl <;> rfl)

theorem at_E {e B : Nat} {w : World} {A : Option Addr} {l : List Entry} (h : Row repE e B w A l) {k : Nat} (hk : k < l.length) : ∃ ad x, A = some ad ∧ (ad.add (k * 4)).block < w.heap.size ∧ l[k]? = some x ∧ w.cell? (ad.add (k * 4)) = some (.int .i64 x.tick) ∧
    w.cell? ⟨(ad.add (k * 4)).block, (ad.add (k * 4)).off + 1, none⟩ = some (.int .i64 x.kind) ∧ w.cell? ⟨(ad.add (k * 4)).block, (ad.add (k * 4)).off + 2, none⟩ = some (.int .i64 x.a) ∧ w.cell? ⟨(ad.add (k * 4)).block, (ad.add (k * 4)).off + 3, none⟩ = some (.int .i64 x.b) := by
  obtain ⟨ad, cs, hA, hlt, _, hr, hc⟩ := h.at (List.getElem?_eq_getElem hk)
  have hr : cs = Entry.enc _ := hr
  subst hr
  refine ⟨ad, _, hA, by rw [addr_add_block]; exact hlt, List.getElem?_eq_getElem hk, hc 0 _ rfl, ?_, ?_, ?_⟩ <;> rw [addr_field _ _ _ (by decide)]
  · exact hc 1 _ rfl
  · exact hc 2 _ rfl
  · exact hc 3 _ rfl

theorem info_E1 : (Try.prog.info? 124).map (fun i => (i.zero, i.size, i.bytes)) = some (some (.agg #[.int .i64 0, .int .i64 0, .int .i64 0, .int .i64 0]), 4, 32) := by kernel_rfl


set_option maxHeartbeats 400000 in
/-- owns: the same entries. -/
theorem owns_any (B : Nat) (A : Option Addr) (c : Nat) (l : List Entry) (w : World) (hl : Row repE 132 B w A l) (hn : l.length ≤ 100) :
    Calls Try.prog 12 #[.slice A l.length c] w fun e w' => ∃ v, e = .returned v ∧ Own repE 124 0 w.heap.size w' v l ∧ Below w.heap.size w w' := by
  obtain ⟨n, hn'⟩ : ∃ n, l.length = n := ⟨_, rfl⟩
  rw [hn']
  have Hn := Lib.hid hn'
  rw [hn'] at hn
  clear hn'
  go_enter Try.func12, Try.ntmps12
  go_wp2
  go_loopw [3, 4] (fun v i wr => ∃ k : Nat, k ≤ n ∧ i = .int .i64 k ∧ Own repE 124 0 w.heap.size wr v (l.take k) ∧ Below w.heap.size w wr) (fun _ i _ => n - (intOf i).toNat)
  case atStart => exact ⟨0, Nat.zero_le _, rfl, Own.nil, Below.refl _ _⟩
  case round =>
    obtain ⟨k, hk, rfl, hown, hb⟩ := hrel
    by_cases hlt : k < n
    · have hl' : Row repE 132 B wr A l := hl.keep fun j hj _ => hb.block j hj
      obtain ⟨ad, x, rfl, _, hx, h0, h1, h2, h3⟩ := at_E hl' (k := k) (by rw [Hn.out]; exact hlt)
      have Hx := Lib.hid hx
      clear hx
      have hsz := hb.size
      go_wp2_with (at_builtin; (refine wpList_append_one rfl _ _ _ rfl repE 124 0 w.heap.size Try.underlying28 info_E1 rfl (by decide) (by decide) _ (l.take k) rfl hown x (Entry.enc x) rfl rfl (Nat.zero_le _) ?c1 ?c2 hsz ?_))
      case c1 => simp; omega
      case c2 => simp; omega
      intro v' w1 hown' hg hat
      clear h0 h1 h2 h3
      go_wp2
      go_roundw
      case rel => exact ⟨k + 1, by omega, by go_num, by rw [take_snoc' Hx.out]; exact hown', hb.grown hg hsz (fun g hg => (hown.block g hg).1)⟩
      case measure => simp [intOf]; omega
    · go_wp2
      go_ret
      have e : l.take k = l := List.take_of_length_le (by rw [Hn.out]; omega)
      exact ⟨_, rfl, by rw [e] at hown; exact hown, hb⟩

/-! ### ends, breaks -/
def endsK (k : Int) : Int := if k = 4 then 1 else if k = 5 then 2 else if k = 6 then 3 else if k = 8 then 4 else 0
def Entry.brk (x : Entry) : Bool := decide (x.kind = 13) || (decide (x.kind = 12) && decide (x.b ≠ 0))
def Entry.ends (x : Entry) (task : Int) : Int := if x.brk then 5 else if x.a = task then endsK x.kind else 0

set_option maxHeartbeats 400000 in
theorem ends_any (x : Entry) (w : World) : Calls Try.prog 102 #[.agg #[.int .i64 x.tick, .int .i64 x.kind, .int .i64 x.a, .int .i64 x.b]] w fun e w' => e = .returned (.int .i64 (endsK x.kind)) ∧ Below w.heap.size w w' := by
  go_enter Try.func102, Try.ntmps102
  go_wp2
  all_goals
    go_ret
    refine ⟨ret_i ?_, (Below.refl _ _).alloc (Nat.le_refl _) _⟩
    simp_all [endsK]

theorem breaks_any (x : Entry) (w : World) : Calls Try.prog 100 #[.agg #[.int .i64 x.tick, .int .i64 x.kind, .int .i64 x.a, .int .i64 x.b]] w fun e w' => e = .returned (.bool x.brk) ∧ Below w.heap.size w w' := by
  go_enter Try.func100, Try.ntmps100
  go_wp2
  all_goals
    go_ret
    refine ⟨ret_b ?_, (Below.refl _ _).alloc (Nat.le_refl _) _⟩
    simp_all [Entry.brk] <;> (by_cases hb : x.b = 0 <;> simp [hb])

set_option maxHeartbeats 400000 in
theorem refEnds_any (x : Entry) (task : Int) (w : World) : Calls Try.prog 103 #[.agg #[.int .i64 x.tick, .int .i64 x.kind, .int .i64 x.a, .int .i64 x.b], .int .i64 task] w fun e w' => e = .returned (.int .i64 (x.ends task)) ∧ Below w.heap.size w w' := by
  go_enter Try.func103, Try.ntmps103
  go_wp2
  all_goals
    go_ret
    refine ⟨ret_i ?_, (Below.refl _ _).alloc (Nat.le_refl _) _⟩
    simp_all [Entry.ends, Entry.brk, endsK]

/-! ### Words -/
def wordD (k : Int) : List UInt8 := if k = 0 then [108, 97, 116, 101] else if k = 1 then [115, 111, 111, 110] else if k = 2 then [116, 119, 105, 99, 101] else if k = 3 then [108, 111, 119] else if k = 4 then [111, 114, 100, 101, 114] else []
theorem five (k : Int) (h0 : ¬ k < 0) (h1 : ¬ 4 < k) : k = 0 ∨ k = 1 ∨ k = 2 ∨ k = 3 ∨ k = 4 := by omega

set_option maxHeartbeats 400000 in
theorem word_any (k : Int) (w : World) : Calls Try.prog 14 #[.int .i64 k] w fun e w' => e = .returned (.string ⟨(wordD k).toArray⟩) ∧ w = w' := by
  by_cases h0 : k < 0
  · have e : wordD k = [] := by unfold wordD; repeat' rw [if_neg (by omega)]
    rw [e]
    go_enter Try.func14, Try.ntmps14
    go_wp2
    go_ret
    exact ⟨rfl, rfl⟩
  by_cases h1 : 4 < k
  · have e : wordD k = [] := by unfold wordD; repeat' rw [if_neg (by omega)]
    rw [e]
    go_enter Try.func14, Try.ntmps14
    go_wp2
    go_ret
    exact ⟨rfl, rfl⟩
  have i0 : ∀ w, (Instr.index 134 (.agg #[.string ⟨#[108, 97, 116, 101]⟩, .string ⟨#[115, 111, 111, 110]⟩, .string ⟨#[116, 119, 105, 99, 101]⟩, .string ⟨#[108, 111, 119]⟩, .string ⟨#[111, 114, 100, 101, 114]⟩]) (.int .i64 0)).run Try.prog w = .ok (.string ⟨#[108, 97, 116, 101]⟩) w := fun _ => by kernel_rfl
  have i1 : ∀ w, (Instr.index 134 (.agg #[.string ⟨#[108, 97, 116, 101]⟩, .string ⟨#[115, 111, 111, 110]⟩, .string ⟨#[116, 119, 105, 99, 101]⟩, .string ⟨#[108, 111, 119]⟩, .string ⟨#[111, 114, 100, 101, 114]⟩]) (.int .i64 1)).run Try.prog w = .ok (.string ⟨#[115, 111, 111, 110]⟩) w := fun _ => by kernel_rfl
  have i2 : ∀ w, (Instr.index 134 (.agg #[.string ⟨#[108, 97, 116, 101]⟩, .string ⟨#[115, 111, 111, 110]⟩, .string ⟨#[116, 119, 105, 99, 101]⟩, .string ⟨#[108, 111, 119]⟩, .string ⟨#[111, 114, 100, 101, 114]⟩]) (.int .i64 2)).run Try.prog w = .ok (.string ⟨#[116, 119, 105, 99, 101]⟩) w := fun _ => by kernel_rfl
  have i3 : ∀ w, (Instr.index 134 (.agg #[.string ⟨#[108, 97, 116, 101]⟩, .string ⟨#[115, 111, 111, 110]⟩, .string ⟨#[116, 119, 105, 99, 101]⟩, .string ⟨#[108, 111, 119]⟩, .string ⟨#[111, 114, 100, 101, 114]⟩]) (.int .i64 3)).run Try.prog w = .ok (.string ⟨#[108, 111, 119]⟩) w := fun _ => by kernel_rfl
  have i4 : ∀ w, (Instr.index 134 (.agg #[.string ⟨#[108, 97, 116, 101]⟩, .string ⟨#[115, 111, 111, 110]⟩, .string ⟨#[116, 119, 105, 99, 101]⟩, .string ⟨#[108, 111, 119]⟩, .string ⟨#[111, 114, 100, 101, 114]⟩]) (.int .i64 4)).run Try.prog w = .ok (.string ⟨#[111, 114, 100, 101, 114]⟩) w := fun _ => by kernel_rfl
  rcases five k h0 h1 with rfl | rfl | rfl | rfl | rfl <;>
  · clear h0 h1
    go_enter Try.func14, Try.ntmps14
    go_wp2
    go_ret
    exact ⟨rfl, rfl⟩

set_option maxHeartbeats 400000 in
theorem refWord_any (k : Int) (w : World) : Calls Try.prog 15 #[.int .i64 k] w fun e w' => e = .returned (.string ⟨(wordD k).toArray⟩) ∧ Below w.heap.size w w' := by
  by_cases h0 : k < 0
  · have e : wordD k = [] := by unfold wordD; repeat' rw [if_neg (by omega)]
    rw [e]
    go_enter Try.func15, Try.ntmps15
    go_wp2
    go_ret
    exact ⟨rfl, (Below.refl _ _).alloc (Nat.le_refl _) _⟩
  by_cases h1 : 4 < k
  · have e : wordD k = [] := by unfold wordD; repeat' rw [if_neg (by omega)]
    rw [e]
    go_enter Try.func15, Try.ntmps15
    go_wp2
    go_ret
    exact ⟨rfl, (Below.refl _ _).alloc (Nat.le_refl _) _⟩
  have hc := cell_alloc_lit w #[.string ⟨#[108, 97, 116, 101]⟩, .string ⟨#[115, 111, 111, 110]⟩, .string ⟨#[116, 119, 105, 99, 101]⟩, .string ⟨#[108, 111, 119]⟩, .string ⟨#[111, 114, 100, 101, 114]⟩] 9
  have c0 := hc 0 _ rfl
  have c1 := hc 1 _ rfl
  have c2 := hc 2 _ rfl
  have c3 := hc 3 _ rfl
  have c4 := hc 4 _ rfl
  clear hc
  rcases five k h0 h1 with rfl | rfl | rfl | rfl | rfl <;>
  · clear h0 h1
    go_enter Try.func15, Try.ntmps15
    go_wp2
    go_ret
    exact ⟨rfl, (Below.refl _ _).alloc (Nat.le_refl _) _⟩

/-! ### Waits -/
def waitD (s : Srv) (work : Int) : Int := if !s.right || decide (work < 1) || decide (work > 1048576) then 0 else s.t * (ceilD work s.c + 1)
theorem srv_right {s : Srv} (h : s.right = true) : 1 ≤ s.c ∧ s.c ≤ s.t ∧ s.t ≤ 1000 := by simpa [Srv.right, and_assoc] using h
theorem ceilD_bd (a b : Int) (h0 : 0 ≤ a) (h1 : a ≤ 1048576) (hb : 1 ≤ b) : 0 ≤ ceilD a b ∧ ceilD a b ≤ 1048577 := by
  unfold ceilD
  rw [if_neg (by omega), Int.tdiv_eq_ediv_of_nonneg h0]
  have h2 : 0 ≤ a / b := Int.ediv_nonneg h0 (by omega)
  have h3 : a / b ≤ a := Int.ediv_le_self _ h0
  have := b2i_bd (decide (0 < a.tmod b))
  omega

set_option maxHeartbeats 400000 in
theorem wait_any (s : Srv) (work : Int) (w : World) : Calls Try.prog 16 #[.agg #[.bool s.refill, .int .i64 s.c, .int .i64 s.t], .int .i64 work] w fun e w' => e = .returned (.int .i64 (waitD s work)) ∧ Below w.heap.size w w' := by
  have hbox := Below.heap_alloc
  by_cases hr : s.right = true
  case neg =>
    have hr : s.right = false := by simpa using hr
    have e : waitD s work = 0 := by simp [waitD, hr]
    rw [e]
    clear e
    have Hr := Lib.hid hr
    clear hr hbox
    go_enter Try.func16, Try.ntmps16
    go_wp2_with fail
    refine (srvRight_any s _).mono ?_
    rw [Hr.out]
    rintro e w1 ⟨rfl, hb⟩
    go_wp2
    go_ret
    exact ⟨rfl, ((Below.refl _ _).alloc (Nat.le_refl _) _).trans (hb.mono (by simp))⟩
  by_cases h1 : work < 1
  · have e : waitD s work = 0 := by simp [waitD, h1]
    rw [e]
    clear e
    have Hr := Lib.hid hr
    clear hr hbox
    go_enter Try.func16, Try.ntmps16
    go_wp2_with fail
    refine (srvRight_any s _).mono ?_
    rw [Hr.out]
    rintro e w1 ⟨rfl, hb⟩
    go_wp2
    go_ret
    exact ⟨rfl, ((Below.refl _ _).alloc (Nat.le_refl _) _).trans (hb.mono (by simp))⟩
  by_cases h2 : work > 1048576
  · have e : waitD s work = 0 := by simp [waitD, h2]
    rw [e]
    clear e
    have Hr := Lib.hid hr
    clear hr hbox
    go_enter Try.func16, Try.ntmps16
    go_wp2_with fail
    refine (srvRight_any s _).mono ?_
    rw [Hr.out]
    rintro e w1 ⟨rfl, hb⟩
    go_wp2
    go_ret
    exact ⟨rfl, ((Below.refl _ _).alloc (Nat.le_refl _) _).trans (hb.mono (by simp))⟩
  obtain ⟨hc1, hc2, ht⟩ := srv_right hr
  obtain ⟨hd0, hd1⟩ := ceilD_bd work s.c (by omega) (by omega) hc1
  have e : waitD s work = s.t * (ceilD work s.c + 1) := by simp [waitD, hr, h1]; omega
  have hs1 : IntKind.i64.wrap (ceilD work s.c + 1) = ceilD work s.c + 1 := IntWalk.i64_in _ (by omega)
  have hp : 0 ≤ s.t * (ceilD work s.c + 1) ∧ s.t * (ceilD work s.c + 1) ≤ 1000 * 1048578 :=
    ⟨Int.mul_nonneg (by omega) (by omega), Int.mul_le_mul ht (by omega) (by omega) (by omega)⟩
  have hs2 : IntKind.i64.wrap (s.t * (ceilD work s.c + 1)) = s.t * (ceilD work s.c + 1) := IntWalk.i64_in _ (by omega)
  rw [e]
  clear e hp hbox
  have Hr := Lib.hid hr
  clear hr
  go_enter Try.func16, Try.ntmps16
  go_wp2_with fail
  refine (srvRight_any s _).mono ?_
  rw [Hr.out]
  rintro e w1 ⟨rfl, hb⟩
  have k1 : w1.cell? ⟨w.heap.size, 1, none⟩ = some (.int .i64 s.c) := (hb.cell (p := ⟨w.heap.size, 1, none⟩) (by simp)).trans (cell_alloc_lit w _ _ 1 _ rfl)
  have k2 : w1.cell? ⟨w.heap.size, 2, none⟩ = some (.int .i64 s.t) := (hb.cell (p := ⟨w.heap.size, 2, none⟩) (by simp)).trans (cell_alloc_lit w _ _ 2 _ rfl)
  go_wp2
  go_quiet ((go_at_call 53; exact quiet_drawn (ceil_any _ _ _ (by omega) (by omega))))
  go_wp2
  go_ret
  exact ⟨rfl, (((Below.refl _ _).alloc (Nat.le_refl _) _).trans (hb.mono (by simp))).trans ((Drawn.refl _).drewN _ |>.below _)⟩

set_option maxHeartbeats 400000 in
theorem refWait_any (s : Srv) (work : Int) (w : World) : Calls Try.prog 17 #[.agg #[.bool s.refill, .int .i64 s.c, .int .i64 s.t], .int .i64 work] w fun e w' => e = .returned (.int .i64 (waitD s work)) ∧ Below w.heap.size w w' := by
  have hbox := Below.heap_alloc
  by_cases hr : s.right = true
  case neg =>
    have hr : s.right = false := by simpa using hr
    have e : waitD s work = 0 := by simp [waitD, hr]
    rw [e]
    clear e
    have Hr := Lib.hid hr
    clear hr hbox
    go_enter Try.func17, Try.ntmps17
    go_wp2_with fail
    refine (refRightSrv_any s _).mono ?_
    rw [Hr.out]
    rintro e w1 ⟨rfl, hb⟩
    go_wp2
    go_ret
    exact ⟨rfl, ((Below.refl _ _).alloc (Nat.le_refl _) _).trans (hb.mono (by simp))⟩
  by_cases h1 : work < 1
  · have e : waitD s work = 0 := by simp [waitD, h1]
    rw [e]
    clear e
    have Hr := Lib.hid hr
    clear hr hbox
    go_enter Try.func17, Try.ntmps17
    go_wp2_with fail
    refine (refRightSrv_any s _).mono ?_
    rw [Hr.out]
    rintro e w1 ⟨rfl, hb⟩
    go_wp2
    go_ret
    exact ⟨rfl, ((Below.refl _ _).alloc (Nat.le_refl _) _).trans (hb.mono (by simp))⟩
  by_cases h2 : work > 1048576
  · have e : waitD s work = 0 := by simp [waitD, h2]
    rw [e]
    clear e
    have Hr := Lib.hid hr
    clear hr hbox
    go_enter Try.func17, Try.ntmps17
    go_wp2_with fail
    refine (refRightSrv_any s _).mono ?_
    rw [Hr.out]
    rintro e w1 ⟨rfl, hb⟩
    go_wp2
    go_ret
    exact ⟨rfl, ((Below.refl _ _).alloc (Nat.le_refl _) _).trans (hb.mono (by simp))⟩
  obtain ⟨hc1, hc2, ht⟩ := srv_right hr
  obtain ⟨hd0, hd1⟩ := ceilD_bd work s.c (by omega) (by omega) hc1
  have e : waitD s work = s.t * (ceilD work s.c + 1) := by simp [waitD, hr, h1]; omega
  have hs1 : IntKind.i64.wrap (ceilD work s.c + 1) = ceilD work s.c + 1 := IntWalk.i64_in _ (by omega)
  have hp : 0 ≤ s.t * (ceilD work s.c + 1) ∧ s.t * (ceilD work s.c + 1) ≤ 1000 * 1048578 :=
    ⟨Int.mul_nonneg (by omega) (by omega), Int.mul_le_mul ht (by omega) (by omega) (by omega)⟩
  have hs2 : IntKind.i64.wrap (s.t * (ceilD work s.c + 1)) = s.t * (ceilD work s.c + 1) := IntWalk.i64_in _ (by omega)
  rw [e]
  clear e hp hbox
  have Hr := Lib.hid hr
  clear hr
  go_enter Try.func17, Try.ntmps17
  go_wp2_with fail
  refine (refRightSrv_any s _).mono ?_
  rw [Hr.out]
  rintro e w1 ⟨rfl, hb⟩
  have k1 : w1.cell? ⟨w.heap.size, 1, none⟩ = some (.int .i64 s.c) := (hb.cell (p := ⟨w.heap.size, 1, none⟩) (by simp)).trans (cell_alloc_lit w _ _ 1 _ rfl)
  have k2 : w1.cell? ⟨w.heap.size, 2, none⟩ = some (.int .i64 s.t) := (hb.cell (p := ⟨w.heap.size, 2, none⟩) (by simp)).trans (cell_alloc_lit w _ _ 2 _ rfl)
  go_wp2
  go_quiet ((go_at_call 55; exact quiet_same (refCeil_any _ _ _ (by omega) (by omega))))
  go_wp2
  go_ret
  exact ⟨rfl, (((Below.refl _ _).alloc (Nat.le_refl _) _).trans (hb.mono (by simp))).trans ((Drawn.refl _).drewN _ |>.below _)⟩
end Go.Proofs.Ytgljmflcbdhigaa
