/- A table of windows that fit. -/
import Derived.Test.YtgljmflcbdhigaaFrameB
set_option linter.unusedVariables false
set_option linter.unusedSimpArgs false
namespace Go.Proofs.Ytgljmflcbdhigaa
open Go.RowKit

structure TabD where
  ws : List WinD
  m : Int
  f : Nat
structure TabD.ok (t : TabD) : Prop where
  f1 : 1 ≤ t.f
  f2 : t.f ≤ 256
  m1 : 0 ≤ t.m
  m2 : t.m ≤ 8
  n : t.ws.length ≤ 32
  fits : fitsFrom t.f 0 t.ws = true
def TabD.tally (t : TabD) (p : Int) : List Int := tallyD t.f t.ws t.m p
theorem tally_len (t : TabD) (p : Int) : (t.tally p).length = t.f + 1 := by simp [TabD.tally, tallyD, rowOf_len]

/-- Cells of a table whose first k tallies are laid. -/
structure TabC (B : Nat) (w : World) (t : TabD) (k : Nat) (cs : Array Value) (WA : Option Addr) (wc : Nat) : Prop where
  c0 : cs[0]? = some (.slice WA t.ws.length wc)
  c1 : cs[1]? = some (.int .i64 t.m)
  c2 : cs[2]? = some (.int .i64 t.f)
  ws : Slc repW 154 B w t.ws WA wc
  ah : ∀ p : Nat, p < k → ∃ A c, cs[3 + p]? = some (.slice A (t.f + 1) c) ∧ Slc repI 3 B w (t.tally p) A c
  rest : ∀ p : Nat, k ≤ p → p < 6 → ∃ v, cs[3 + p]? = some v
  size : cs.size = 9
theorem TabC.keep {B : Nat} {w w' : World} {t : TabD} {k : Nat} {cs : Array Value} {WA : Option Addr} {wc : Nat} (hk : ∀ q, q < w.heap.size → (q < B ∨ ∃ cells t, (t = 154 ∨ t = 3) ∧ w.heap[q]? = some (.cells cells t (0, 0))) → w'.heap[q]? = w.heap[q]?) (h : TabC B w t k cs WA wc) : TabC B w' t k cs WA wc :=
  { h with
    ws := h.ws.keep fun q h1 h2 => hk q h1 (h2.imp id fun ⟨c, t, ht, hh⟩ => ⟨c, t, .inl (List.mem_singleton.1 ht), hh⟩)
    ah := fun p hp => by
      obtain ⟨A, c, h1, h2⟩ := h.ah p hp
      exact ⟨A, c, h1, h2.keep fun q h1 h2 => hk q h1 (h2.imp id fun ⟨c, t, ht, hh⟩ => ⟨c, t, .inr (List.mem_singleton.1 ht), hh⟩)⟩ }
theorem TabC.below {B D : Nat} {w w' : World} {t : TabD} {k : Nat} {cs : Array Value} {WA : Option Addr} {wc : Nat} (h : TabC B w t k cs WA wc) (hb : Below D w w') (hD : w.heap.size ≤ D) : TabC B w' t k cs WA wc := h.keep fun q hq _ => hb.block q (Nat.lt_of_lt_of_le hq hD)
theorem TabC.up {B B' : Nat} {w : World} {t : TabD} {k : Nat} {cs : Array Value} {WA : Option Addr} {wc : Nat} (hB : B ≤ B') (h : TabC B w t k cs WA wc) : TabC B' w t k cs WA wc :=
  { h with ws := h.ws.up hB, ah := fun p hp => by obtain ⟨A, c, h1, h2⟩ := h.ah p hp; exact ⟨A, c, h1, h2.up hB⟩ }
theorem TabC.step {w : World} {T : Nat} {t : TabD} {p : Nat} {cs : Array Value} {WA : Option Addr} {wc : Nat} (h : TabC 0 w t p cs WA wc) (hT : Blk w T 232 cs) (hp : p < 6) (A : Option Addr) (c : Nat) (hs : Slc repI 3 0 w (t.tally p) A c) :
    TabC 0 (w.setCell ⟨T, 3 + p, none⟩ (.slice A (t.f + 1) c)) t (p + 1) (cs.setIfInBounds (3 + p) (.slice A (t.f + 1) c)) WA wc := by
  have hkeep : ∀ q, q < w.heap.size → (q < 0 ∨ ∃ cells t, (t = 154 ∨ t = 3) ∧ w.heap[q]? = some (.cells cells t (0, 0))) → (w.setCell ⟨T, 3 + p, none⟩ (.slice A (t.f + 1) c)).heap[q]? = w.heap[q]? := fun q _ hq => Below.heap_setCell _ _ _ _ (fun e => by
    have e : q = T := e
    rcases hq with hq | ⟨cells, t', ht, hh⟩
    · omega
    · rw [e] at hh
      unfold Blk at hT
      rw [hT] at hh
      injection hh with hh
      injection hh with _ ht2
      rcases ht with ht | ht <;> rw [ht] at ht2 <;> exact absurd ht2 (by decide))
  have h2 := h.keep hkeep
  have hs2 := hs.keep (w' := w.setCell ⟨T, 3 + p, none⟩ (.slice A (t.f + 1) c)) fun q h1 h2 => hkeep q h1 (h2.imp id fun ⟨c, t, ht, hh⟩ => ⟨c, t, .inr (List.mem_singleton.1 ht), hh⟩)
  exact
    { c0 := by rw [Array.getElem?_setIfInBounds_ne (by omega)]; exact h.c0
      c1 := by rw [Array.getElem?_setIfInBounds_ne (by omega)]; exact h.c1
      c2 := by rw [Array.getElem?_setIfInBounds_ne (by omega)]; exact h.c2
      ws := h2.ws
      ah := fun q hq => by
        by_cases e : q = p
        · subst e
          exact ⟨A, c, by rw [Array.getElem?_setIfInBounds_self_of_lt (by rw [h.size]; omega)], hs2⟩
        · obtain ⟨A', c', h3, h4⟩ := h2.ah q (by omega)
          exact ⟨A', c', by rw [Array.getElem?_setIfInBounds_ne (by omega)]; exact h3, h4⟩
      rest := fun q hq hq2 => by
        obtain ⟨v, hv⟩ := h.rest q (by omega) hq2
        exact ⟨v, by rw [Array.getElem?_setIfInBounds_ne (by omega)]; exact hv⟩
      size := by rw [Array.size_setIfInBounds]; exact h.size }
/-- A table in memory. -/
def TabR (B : Nat) (w : World) (T : Nat) (t : TabD) : Prop := ∃ cs WA wc, Blk w T 232 cs ∧ TabC B w t 6 cs WA wc
theorem TabR.below {B D : Nat} {w w' : World} {T : Nat} {t : TabD} (h : TabR B w T t) (hb : Below D w w') (hD : w.heap.size ≤ D) : TabR B w' T t := by
  obtain ⟨cs, WA, wc, h1, h2⟩ := h
  exact ⟨cs, WA, wc, h1.below hb (Nat.lt_of_lt_of_le h1.lt hD), h2.below hb hD⟩
theorem TabR.drawn {B : Nat} {w w' : World} {T : Nat} {t : TabD} (h : TabR B w T t) (hd : Drawn w w') : TabR B w' T t := by
  obtain ⟨cs, WA, wc, h1, h2⟩ := h
  exact ⟨cs, WA, wc, h1.drawn hd, h2.keep fun q _ _ => by rw [hd.heap]⟩
theorem TabR.lt {B : Nat} {w : World} {T : Nat} {t : TabD} (h : TabR B w T t) : T < w.heap.size := by
  obtain ⟨cs, WA, wc, h1, h2⟩ := h
  exact h1.lt

def NewPost (t : TabD) (w : World) (e : Ending) (w' : World) : Prop := ∃ T, e = .returned (.pointer (some ⟨T, 0, none⟩)) ∧ TabR 0 w' T t ∧ w.heap.size ≤ T ∧ Below w.heap.size w w'

set_option maxRecDepth 100000 in
set_option maxHeartbeats 2000000 in
theorem new_any (B : Nat) (A : Option Addr) (c : Nat) (t : TabD) (w : World) (hl : Slc repW 154 B w t.ws A c) (hB : B ≤ w.heap.size) (ok : t.ok) :
    Calls Try.prog 129 #[.int .i64 t.f, .int .i64 t.m, .slice A t.ws.length c] w (NewPost t w) := by
  obtain ⟨f1, f2, m1, m2, n1, hfit⟩ := ok
  have hfa := fits_all t.f t.ws 0 (Int.le_refl _) hfit
  have kf := fun W (hW : Below w.heap.size w W) => fits_any B A c t.ws t.f W (hl.row.keep fun j hj _ => hW.block j hj) (by omega) (Nat.le_trans hB hW.size) (by omega) (by omega)
  have kc := fun W (hW : Below w.heap.size w W) => clone_W B A c t.ws W (hl.below hW (Nat.le_refl _)) (by omega) (Nat.le_trans hB hW.size)
  rw [hfit] at kf
  obtain ⟨n, hn⟩ : ∃ n, t.ws.length = n := ⟨_, rfl⟩
  obtain ⟨f, hf⟩ : ∃ f, t.f = f := ⟨_, rfl⟩
  obtain ⟨m, hm⟩ : ∃ m, t.m = m := ⟨_, rfl⟩
  rw [hn] at kf kc n1
  rw [hf] at kf f1 f2
  rw [hm] at m1 m2
  rw [hn, hf, hm]
  have KF := Lib.hid kf
  have KC := Lib.hid kc
  have Hfa := Lib.hid hfa
  have Hn := Lib.hid hn
  have Hf := Lib.hid hf
  have Hm := Lib.hid hm
  clear kf kc hfa hfit hn hf hm
  have i1 : ¬ (f : Int) < 1 := by omega
  have i2 : ¬ (256 : Int) < f := by omega
  have i3 : ¬ (32 : Int) < n := by omega
  go_enter Try.func129, Try.ntmps129
  go_wp2_with fail
  refine (KF.out _ (Below.refl _ _)).mono ?_
  rintro e w1 ⟨rfl, hb1⟩
  go_wp2_with fail
  refine (KC.out _ hb1).mono ?_
  rintro e w2 ⟨v, rfl, ow, hb2⟩
  obtain ⟨WA, wc, rfl, sw⟩ := ow.slc
  have hb12 : Below w.heap.size w w2 := hb1.trans (hb2.mono hb1.size)
  rw [Hn.out]
  go_wp2
  generalize hW : World.alloc _ _ = W3
  have hb3 : Below w.heap.size w W3 := by rw [← hW]; exact hb12.alloc hb12.size _
  have hT : Blk W3 w2.heap.size 232 #[.slice WA n wc, .int .i64 m, .int .i64 f, .slice none 0 0, .slice none 0 0, .slice none 0 0, .slice none 0 0, .slice none 0 0, .slice none 0 0] := by rw [← hW]; exact Blk.new _ _ _
  have hC : TabC 0 W3 t 0 #[.slice WA n wc, .int .i64 m, .int .i64 f, .slice none 0 0, .slice none 0 0, .slice none 0 0, .slice none 0 0, .slice none 0 0, .slice none 0 0] WA wc :=
    { c0 := by rw [Hn.out]; rfl, c1 := by rw [Hm.out]; rfl, c2 := by rw [Hf.out]; rfl
      ws := by rw [← hW]; exact sw.keep fun j hj _ => Below.heap_alloc _ _ _ hj
      ah := fun p hp => absurd hp (Nat.not_lt_zero _)
      rest := fun p _ hp => by
        rcases p with _ | _ | _ | _ | _ | _ | p <;> first | exact ⟨_, rfl⟩ | omega
      size := rfl }
  have hsz := hb12.size
  clear hW ow hb1 hb2 hb12 sw
  go_loopw [41] (fun j wr => ∃ (p : Nat) (cs : Array Value), p ≤ 6 ∧ j = .int .i64 p ∧ Blk wr w2.heap.size 232 cs ∧ TabC 0 wr t p cs WA wc ∧ Below w.heap.size w wr) (fun j _ => 6 - (intOf j).toNat)
  case atStart => exact ⟨0, _, Nat.zero_le _, rfl, hT, hC, hb3⟩
  case round =>
    clear hT hC hb3
    obtain ⟨p, cs, hp, rfl, hT, hC, hb⟩ := hrel
    by_cases hlt : p < 6
    · have hlt2 : (p : Int) < 6 := by omega
      have hp0 : (0 : Int) ≤ (p : Int) := by omega
      have kt := fun W (hW : Below wr.heap.size wr W) => tally_any 0 w2.heap.size cs WA wc t.ws t.m p t.f W (hT.below hW hT.lt) hC.c0 hC.c1 hC.c2 (hC.ws.row.keep fun j hj _ => hW.block j hj) (by rw [Hn.out]; omega) (Nat.zero_le _) (by rw [Hf.out]; exact f2) ⟨by rw [Hm.out]; exact m1, by rw [Hm.out]; exact m2⟩ Hfa.out
      have KT := Lib.hid kt
      clear kt
      obtain ⟨v0, hv0⟩ := hC.rest p (Nat.le_refl _) hlt
      have z1 : Below wr.heap.size wr wr.drew := (Below.refl _ _).drew
      have hsw := hb.size
      go_wp2
      go_region_with (first | (go_at_call 152; refine (KT.out _ z1).mono ?_; rintro e w4 ⟨v, rfl, ot, b4⟩; obtain ⟨A4, c4, rfl, st⟩ := ot.slc; have hlen := tally_len t p; have Hlen := Lib.hid hlen; clear hlen; have z4 : Below wr.heap.size wr w4 := z1.trans (b4.mono z1.size); have hT4 := hT.below z4 hT.lt; have d0 := hT4.cell (3 + p) hv0; have d1 := hT4.free (3 + p)))
      have hC4 := hC.below z4 (Nat.le_refl _)
      have hlen : (tallyD t.f t.ws t.m p).length = t.f + 1 := Hlen.out
      rw [hlen]
      have hC5 := hC4.step hT4 hlt A4 c4 st
      have hT5 := hT4.set (3 + p) (.slice A4 (t.f + 1) c4)
      have hb5 : Below w.heap.size w (w4.setCell ⟨w2.heap.size, 3 + p, none⟩ (.slice A4 (t.f + 1) c4)) := (hb.trans (z4.mono hsw)).setCell (p := ⟨w2.heap.size, 3 + p, none⟩) hsz _
      have HC5 := Lib.hid hC5
      clear hC5 hC4 hC hT4 d0 d1 hv0 hlen st
      go_wp2
      go_roundw
      case rel => exact ⟨p + 1, _, by omega, by go_num, hT5, HC5.out, hb5⟩
      case measure => simp [intOf] <;> omega
    · have hlt2 : ¬ (p : Int) < 6 := by omega
      obtain rfl : p = 6 := by omega
      go_wp2
      go_ret
      exact ⟨_, rfl, ⟨cs, WA, wc, hT, hC⟩, hsz, hb⟩
end Go.Proofs.Ytgljmflcbdhigaa
