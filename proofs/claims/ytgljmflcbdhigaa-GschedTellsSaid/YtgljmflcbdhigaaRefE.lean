/- The document's frame: Is, Next; and how they answer. -/
import Derived.Test.YtgljmflcbdhigaaRefD
set_option linter.unusedVariables false
set_option linter.unusedSimpArgs false
namespace Go.Proofs.Ytgljmflcbdhigaa
open Go.RowKit

def isD (t : TabD) (p tick : Int) : Bool := decide ((t.owner tick).2 = 2) && decide ((t.owner tick).1 = p)
set_option maxHeartbeats 1000000 in
theorem refIs_any (B T : Nat) (t : TabD) (p tick : Int) (w : World) (hT : RTab B w T t) (ok : t.ok) (hB : B ≤ w.heap.size) :
    Calls Try.prog 98 #[.pointer (some ⟨T, 0, none⟩), .int .i64 p, .int .i64 tick] w fun e w' => e = .returned (.bool (isD t p tick)) ∧ Below w.heap.size w w' := by
  have ho := refOwner_any B T t tick w hT ok hB
  unfold isD
  obtain ⟨r1, r2, hr⟩ : ∃ r1 r2, t.owner tick = (r1, r2) := ⟨_, _, rfl⟩
  rw [hr] at ho ⊢
  simp only at ho ⊢
  have HO := Lib.hid ho
  clear ho hr hT ok
  by_cases h2 : r2 = 2
  · subst h2
    by_cases h1 : r1 = p
    · subst h1
      go_enter Try.func98, Try.ntmps98
      go_wp2_with fail
      refine HO.out.mono ?_
      rintro e w1 ⟨rfl, hb⟩
      go_wp2
      go_ret
      exact ⟨ret_b (by simp), hb⟩
    · have q : (r1 == p) = false := by simpa using h1
      have q2 : decide (r1 = p) = false := by simpa using h1
      rw [q2]
      clear h1 q2
      go_enter Try.func98, Try.ntmps98
      go_wp2_with fail
      refine HO.out.mono ?_
      rintro e w1 ⟨rfl, hb⟩
      go_wp2
      go_ret
      exact ⟨ret_b (by simp), hb⟩
  · have q : (r2 == 2) = false := by simpa using h2
    have q2 : decide (r2 = 2) = false := by simpa using h2
    rw [q2]
    clear h2 q2
    go_enter Try.func98, Try.ntmps98
    go_wp2_with fail
    refine HO.out.mono ?_
    rintro e w1 ⟨rfl, hb⟩
    go_wp2
    go_ret
    exact ⟨ret_b (by simp), hb⟩

def RNextPost (t : TabD) (p tick : Int) (w : World) (e : Ending) (w' : World) : Prop :=
  (((∀ i, i < t.f → isD t p (tick + (i : Nat)) = false) ∧ e = .returned (.tuple #[.int .i64 0, .bool false])) ∨
   (∃ n : Nat, FirstN t.f (fun i => isD t p (tick + (i : Nat))) n ∧ e = .returned (.tuple #[.int .i64 (tick + n), .bool true]))) ∧ Below w.heap.size w w'

set_option maxRecDepth 100000 in
set_option maxHeartbeats 4000000 in
theorem refTNext_any (B T : Nat) (t : TabD) (p tick : Int) (w : World) (hT : RTab B w T t) (ok : t.ok) (hB : B ≤ w.heap.size) (ht : -9223372036854775808 ≤ tick) :
    Calls Try.prog 47 #[.pointer (some ⟨T, 0, none⟩), .int .i64 p, .int .i64 tick] w (RNextPost t p (min tick 4611686018427387904) w) := by
  have hi := fun W (hW : Below w.heap.size w W) (x : Int) => refIs_any B T t p x W (hT.below hW (Nat.le_refl _)) ok (Nat.le_trans hB hW.size)
  obtain ⟨A, c, hT, hl⟩ := hT
  have lT := hT.lt
  have f2 := ok.f2
  obtain ⟨P, hP⟩ : ∃ P, isD t p = P := ⟨_, rfl⟩
  unfold RNextPost
  rw [hP] at hi ⊢
  obtain ⟨n, hn⟩ : ∃ n, t.ws.length = n := ⟨_, rfl⟩
  obtain ⟨f, hf⟩ : ∃ f, t.f = f := ⟨_, rfl⟩
  obtain ⟨m, hm⟩ : ∃ f, t.m = f := ⟨_, rfl⟩
  rw [hn, hf, hm] at hT
  rw [hf] at f2 ⊢
  have HI := Lib.hid hi
  clear hi hn hf hm hl ok hP
  by_cases hg : tick ≤ 4611686018427387904
  · rw [show min tick 4611686018427387904 = tick by omega]
    go_enter Try.func47, Try.ntmps47
    go_wp2
    go_loopw [8] (fun j wr => ∃ k : Nat, k ≤ f ∧ j = .int .i64 k ∧ (∀ i : Nat, i < k → P (tick + (i : Int)) = false) ∧ Below w.heap.size w wr) (fun j _ => f - (intOf j).toNat)
    case atStart => exact ⟨0, Nat.zero_le _, rfl, fun i h => absurd h (Nat.not_lt_zero _), Below.refl _ _⟩
    case round =>
      obtain ⟨k, hk, rfl, hno, hb⟩ := hrel
      have hTr := hT.below hb hT.lt
      have lTr := hTr.lt
      have t0 := hTr.cell 0 rfl
      have Hno := Lib.hid hno
      clear hno
      by_cases hlt : k < f
      · have hk2 : (k : Int) < (f : Int) := by omega
        have w1 : IntKind.i64.wrap (tick + (k : Int)) = tick + (k : Int) := IntWalk.i64_in _ (by omega)
        have hc := HI.out wr hb (tick + (k : Int))
        obtain ⟨b, hb'⟩ : ∃ b, P (tick + (k : Int)) = b := ⟨_, rfl⟩
        rw [hb'] at hc
        have HC := Lib.hid hc
        have HB := Lib.hid hb'
        clear hc hb'
        go_wp2_with fail
        refine HC.out.mono ?_
        rintro e w2 ⟨rfl, hb2⟩
        have hb3 := hb.trans (hb2.mono hb.size)
        clear t0
        cases b with
        | true =>
          go_wp2
          go_ret2
          exact ⟨.inr ⟨k, ⟨hlt, HB.out, Hno.out⟩, rfl⟩, hb3⟩
        | false =>
          go_wp2
          go_roundw
          case rel => exact ⟨k + 1, by omega, by go_num, fun i h => (by
            by_cases e : i = k
            · subst e; exact HB.out
            · exact Hno.out i (by omega)), hb3⟩
          case measure => simp [intOf] <;> omega
      · have hk2 : ¬ (k : Int) < (f : Int) := by omega
        go_wp2
        go_ret2
        exact ⟨.inl ⟨fun i h => Hno.out i (by omega), rfl⟩, hb⟩
  · rw [show min tick 4611686018427387904 = 4611686018427387904 by omega]
    have hg2 : 4611686018427387904 < tick := by omega
    go_enter Try.func47, Try.ntmps47
    go_wp2
    go_loopw [8] (fun j wr => ∃ k : Nat, k ≤ f ∧ j = .int .i64 k ∧ (∀ i : Nat, i < k → P (4611686018427387904 + (i : Int)) = false) ∧ Below w.heap.size w wr) (fun j _ => f - (intOf j).toNat)
    case atStart => exact ⟨0, Nat.zero_le _, rfl, fun i h => absurd h (Nat.not_lt_zero _), Below.refl _ _⟩
    case round =>
      obtain ⟨k, hk, rfl, hno, hb⟩ := hrel
      have hTr := hT.below hb hT.lt
      have lTr := hTr.lt
      have t0 := hTr.cell 0 rfl
      have Hno := Lib.hid hno
      clear hno
      by_cases hlt : k < f
      · have hk2 : (k : Int) < (f : Int) := by omega
        have w1 : IntKind.i64.wrap (4611686018427387904 + (k : Int)) = 4611686018427387904 + (k : Int) := IntWalk.i64_in _ (by omega)
        have hc := HI.out wr hb (4611686018427387904 + (k : Int))
        obtain ⟨b, hb'⟩ : ∃ b, P (4611686018427387904 + (k : Int)) = b := ⟨_, rfl⟩
        rw [hb'] at hc
        have HC := Lib.hid hc
        have HB := Lib.hid hb'
        clear hc hb'
        go_wp2_with fail
        refine HC.out.mono ?_
        rintro e w2 ⟨rfl, hb2⟩
        have hb3 := hb.trans (hb2.mono hb.size)
        clear t0
        cases b with
        | true =>
          go_wp2
          go_ret2
          exact ⟨.inr ⟨k, ⟨hlt, HB.out, Hno.out⟩, rfl⟩, hb3⟩
        | false =>
          go_wp2
          go_roundw
          case rel => exact ⟨k + 1, by omega, by go_num, fun i h => (by
            by_cases e : i = k
            · subst e; exact HB.out
            · exact Hno.out i (by omega)), hb3⟩
          case measure => simp [intOf] <;> omega
      · have hk2 : ¬ (k : Int) < (f : Int) := by omega
        go_wp2
        go_ret2
        exact ⟨.inl ⟨fun i h => Hno.out i (by omega), rfl⟩, hb⟩
end Go.Proofs.Ytgljmflcbdhigaa
