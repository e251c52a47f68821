/- Systems as data: windows, channels, partitions, and what is made of them. -/
import Derived.Test.YtgljmflcbdhigaaPart
set_option linter.unusedVariables false
namespace Go.Proofs.Ytgljmflcbdhigaa
open Go.RowKit

structure WinD where
  at_ : Int
  len : Int
  part : Int
  deriving DecidableEq
def WinD.enc (x : WinD) : List Value := [.int .i64 x.at_, .int .i64 x.len, .int .i64 x.part]
def repW : Rep WinD := Rep.flat 3 WinD.enc (fun _ => rfl) (fun x u hu => by simp [WinD.enc] at hu; rcases hu with rfl | rfl | rfl <;> rfl)
structure ChanD where
  queue : Bool
  frm : Int
  to_ : Int
  size : Int
  deriving DecidableEq
def ChanD.enc (x : ChanD) : List Value := [.bool x.queue, .int .i64 x.frm, .int .i64 x.to_, .int .i64 x.size]
def repC : Rep ChanD := Rep.flat 4 ChanD.enc (fun _ => rfl) (fun x u hu => by simp [ChanD.enc] at hu; rcases hu with rfl | rfl | rfl | rfl <;> rfl)

theorem at_W {e B : Nat} {w : World} {A : Option Addr} {l : List WinD} (h : Row repW e B w A l) {k : Nat} (hk : k < l.length) : ∃ ad x, A = some ad ∧ (ad.add (k * 3)).block < w.heap.size ∧ l[k]? = some x ∧ w.cell? (ad.add (k * 3)) = some (.int .i64 x.at_) ∧
    w.cell? ⟨(ad.add (k * 3)).block, (ad.add (k * 3)).off + 1, none⟩ = some (.int .i64 x.len) ∧ w.cell? ⟨(ad.add (k * 3)).block, (ad.add (k * 3)).off + 2, none⟩ = some (.int .i64 x.part) := by
  obtain ⟨ad, cs, hA, hlt, _, hr, hc⟩ := h.at (List.getElem?_eq_getElem hk)
  have hr : cs = WinD.enc _ := hr
  subst hr
  refine ⟨ad, _, hA, by rw [addr_add_block]; exact hlt, List.getElem?_eq_getElem hk, hc 0 _ rfl, ?_, ?_⟩ <;> rw [addr_field _ _ _ (by decide)]
  · exact hc 1 _ rfl
  · exact hc 2 _ rfl
theorem at_C {e B : Nat} {w : World} {A : Option Addr} {l : List ChanD} (h : Row repC e B w A l) {k : Nat} (hk : k < l.length) : ∃ ad x, A = some ad ∧ (ad.add (k * 4)).block < w.heap.size ∧ l[k]? = some x ∧ w.cell? (ad.add (k * 4)) = some (.bool x.queue) ∧
    w.cell? ⟨(ad.add (k * 4)).block, (ad.add (k * 4)).off + 1, none⟩ = some (.int .i64 x.frm) ∧ w.cell? ⟨(ad.add (k * 4)).block, (ad.add (k * 4)).off + 2, none⟩ = some (.int .i64 x.to_) ∧ w.cell? ⟨(ad.add (k * 4)).block, (ad.add (k * 4)).off + 3, none⟩ = some (.int .i64 x.size) := by
  obtain ⟨ad, cs, hA, hlt, _, hr, hc⟩ := h.at (List.getElem?_eq_getElem hk)
  have hr : cs = ChanD.enc _ := hr
  subst hr
  refine ⟨ad, _, hA, by rw [addr_add_block]; exact hlt, List.getElem?_eq_getElem hk, hc 0 _ rfl, ?_, ?_, ?_⟩ <;> rw [addr_field _ _ _ (by decide)]
  · exact hc 1 _ rfl
  · exact hc 2 _ rfl
  · exact hc 3 _ rfl

/-! ### slices, partitions, systems -/
structure Slc {α : Type} (d : Rep α) (e : TypeId) (B : Nat) (w : World) (xs : List α) (A : Option Addr) (c : Nat) : Prop where
  le : xs.length ≤ c
  cap : c ≤ maxLen
  nil : A = none → c = 0
  row : Row d e B w A xs
section
variable {α : Type} {d : Rep α} {e : TypeId} {B B' : Nat} {w w' : World} {A : Option Addr} {xs : List α} {c : Nat}
theorem Slc.keep (hk : ∀ k, k < w.heap.size → (k < B ∨ ∃ cells t, t ∈ e :: d.E ∧ w.heap[k]? = some (.cells cells t (0, 0))) → w'.heap[k]? = w.heap[k]?) (h : Slc d e B w xs A c) : Slc d e B w' xs A c := ⟨h.le, h.cap, h.nil, h.row.keep hk⟩
theorem Slc.up (hB : B ≤ B') (h : Slc d e B w xs A c) : Slc d e B' w xs A c := ⟨h.le, h.cap, h.nil, h.row.up hB⟩
theorem Slc.below {D : Nat} (h : Slc d e B w xs A c) (hb : Below D w w') (hD : w.heap.size ≤ D) : Slc d e B w' xs A c := h.keep fun k hk _ => hb.block k (Nat.lt_of_lt_of_le hk hD)
theorem Slc.empty : Slc d e B w ([] : List α) none 0 := ⟨Nat.le_refl _, Nat.zero_le _, fun _ => rfl, Row.nil⟩
theorem Own.slc {B0 : Nat} {v : Value} (h : Own d e B0 B w v xs) : ∃ A c, v = .slice A xs.length c ∧ Slc d e B0 w xs A c := by
  obtain ⟨A, c, hv, h1, h2, h3, h4⟩ := h.row
  exact ⟨A, c, hv, h1, h2, h3, h4⟩
end

def PartR (eT eS eI : TypeId) (B : Nat) (w : World) (p : PartD) (cs : List Value) : Prop :=
  ∃ TA tc SA sc DA dc, cs = [.slice TA p.ts.length tc, .slice SA p.ss.length sc, .slice DA p.ds.length dc, .int .u8 p.a0, .int .u8 p.a1, .int .u8 p.a2] ∧ Slc repT eT B w p.ts TA tc ∧ Slc repS eS B w p.ss SA sc ∧ Slc repI eI B w p.ds DA dc
def repP (eT eS eI : TypeId) : Rep PartD where
  sz := 6
  E := [eT, eS, eI]
  R := PartR eT eS eI
  len := by rintro B w x cs ⟨_, _, _, _, _, _, rfl, _⟩; rfl
  one := by
    rintro B w x cs ⟨_, _, _, _, _, _, rfl, _⟩ u hu
    simp at hu
    rcases hu with rfl | rfl | rfl | rfl | rfl | rfl <;> rfl
  keep := by
    rintro B w w' x cs hk ⟨TA, tc, SA, sc, DA, dc, rfl, h1, h2, h3⟩
    refine ⟨TA, tc, SA, sc, DA, dc, rfl, h1.keep fun k hk1 hk2 => hk k hk1 (hk2.imp id ?_), h2.keep fun k hk1 hk2 => hk k hk1 (hk2.imp id ?_), h3.keep fun k hk1 hk2 => hk k hk1 (hk2.imp id ?_)⟩
    all_goals
      rintro ⟨c, t, ht, hh⟩
      have ht := List.mem_singleton.1 ht
      exact ⟨c, t, by simp [ht], hh⟩
  up := by
    rintro B B' w x cs hB ⟨TA, tc, SA, sc, DA, dc, rfl, h1, h2, h3⟩
    exact ⟨TA, tc, SA, sc, DA, dc, rfl, h1.up hB, h2.up hB, h3.up hB⟩

structure CfgD where
  frame : Int
  margin : Int
  ws : List WinD
  ps : List PartD
  cs : List ChanD

/-- The types of a system's pieces. -/
structure CfgT where
  w : TypeId
  p : TypeId
  c : TypeId
  t : TypeId
  s : TypeId
  i : TypeId
def CfgT.E (T : CfgT) : List TypeId := [T.w, T.p, T.c, T.t, T.s, T.i]
def CfgT.rep (T : CfgT) : Rep PartD := repP T.t T.s T.i
structure CfgA (T : CfgT) (B : Nat) (w : World) (c : CfgD) (WA : Option Addr) (wc : Nat) (PA : Option Addr) (pc : Nat) (CA : Option Addr) (cc : Nat) : Prop where
  ws : Slc repW T.w B w c.ws WA wc
  ps : Slc T.rep T.p B w c.ps PA pc
  cs : Slc repC T.c B w c.cs CA cc
def CfgR (T : CfgT) (B : Nat) (w : World) (c : CfgD) (v : List Value) : Prop :=
  ∃ WA wc PA pc CA cc, v = [.int .i64 c.frame, .int .i64 c.margin, .slice WA c.ws.length wc, .slice PA c.ps.length pc, .slice CA c.cs.length cc] ∧ CfgA T B w c WA wc PA pc CA cc
section
variable {T : CfgT} {B B' : Nat} {w w' : World} {c : CfgD} {WA : Option Addr} {wc : Nat} {PA : Option Addr} {pc : Nat} {CA : Option Addr} {cc : Nat}
theorem CfgA.keep (hk : ∀ k, k < w.heap.size → (k < B ∨ ∃ cells t, t ∈ T.E ∧ w.heap[k]? = some (.cells cells t (0, 0))) → w'.heap[k]? = w.heap[k]?) (h : CfgA T B w c WA wc PA pc CA cc) : CfgA T B w' c WA wc PA pc CA cc := by
  refine ⟨h.ws.keep fun k hk1 hk2 => hk k hk1 (hk2.imp id ?_), h.ps.keep fun k hk1 hk2 => hk k hk1 (hk2.imp id ?_), h.cs.keep fun k hk1 hk2 => hk k hk1 (hk2.imp id ?_)⟩
  · rintro ⟨c, t, ht, hh⟩
    have ht := List.mem_singleton.1 ht
    exact ⟨c, t, by simp [ht, CfgT.E], hh⟩
  · rintro ⟨c, t, ht, hh⟩
    refine ⟨c, t, ?_, hh⟩
    simp only [CfgT.rep, repP, List.mem_cons, List.not_mem_nil, or_false] at ht
    rcases ht with rfl | rfl | rfl | rfl <;> simp [CfgT.E]
  · rintro ⟨c, t, ht, hh⟩
    have ht := List.mem_singleton.1 ht
    exact ⟨c, t, by simp [ht, CfgT.E], hh⟩
theorem CfgA.up (hB : B ≤ B') (h : CfgA T B w c WA wc PA pc CA cc) : CfgA T B' w c WA wc PA pc CA cc := ⟨h.ws.up hB, h.ps.up hB, h.cs.up hB⟩
theorem CfgA.below {D : Nat} (h : CfgA T B w c WA wc PA pc CA cc) (hb : Below D w w') (hD : w.heap.size ≤ D) : CfgA T B w' c WA wc PA pc CA cc := h.keep fun k hk _ => hb.block k (Nat.lt_of_lt_of_le hk hD)
theorem CfgA.drawn (h : CfgA T B w c WA wc PA pc CA cc) (hd : Drawn w w') : CfgA T B w' c WA wc PA pc CA cc := h.keep fun k hk _ => by rw [hd.heap]
end
def repCfg (T : CfgT) : Rep CfgD where
  sz := 5
  E := T.E
  R := CfgR T
  len := by rintro B w x cs ⟨_, _, _, _, _, _, rfl, _⟩; rfl
  one := by
    rintro B w x cs ⟨_, _, _, _, _, _, rfl, _⟩ u hu
    simp at hu
    rcases hu with rfl | rfl | rfl | rfl | rfl <;> rfl
  keep := by
    rintro B w w' x cs hk ⟨WA, wc, PA, pc, CA, cc, rfl, h⟩
    exact ⟨WA, wc, PA, pc, CA, cc, rfl, h.keep hk⟩
  up := by
    rintro B B' w x cs hB ⟨WA, wc, PA, pc, CA, cc, rfl, h⟩
    exact ⟨WA, wc, PA, pc, CA, cc, rfl, h.up hB⟩

theorem at_P {T : CfgT} {e B : Nat} {w : World} {A : Option Addr} {l : List PartD} (h : Row T.rep e B w A l) {k : Nat} (hk : k < l.length) : ∃ ad x TA tc SA sc DA dc, A = some ad ∧ (ad.add (k * 6)).block < w.heap.size ∧ l[k]? = some x ∧ w.cell? (ad.add (k * 6)) = some (.slice TA x.ts.length tc) ∧
    w.cell? ⟨(ad.add (k * 6)).block, (ad.add (k * 6)).off + 1, none⟩ = some (.slice SA x.ss.length sc) ∧ w.cell? ⟨(ad.add (k * 6)).block, (ad.add (k * 6)).off + 2, none⟩ = some (.slice DA x.ds.length dc) ∧ w.cell? ⟨(ad.add (k * 6)).block, (ad.add (k * 6)).off + 3, none⟩ = some (.int .u8 x.a0) ∧
    w.cell? ⟨(ad.add (k * 6)).block, (ad.add (k * 6)).off + 4, none⟩ = some (.int .u8 x.a1) ∧ w.cell? ⟨(ad.add (k * 6)).block, (ad.add (k * 6)).off + 5, none⟩ = some (.int .u8 x.a2) ∧
    Slc repT T.t B w x.ts TA tc ∧ Slc repS T.s B w x.ss SA sc ∧ Slc repI T.i B w x.ds DA dc := by
  obtain ⟨ad, cs, hA, hlt, _, hr, hc⟩ := h.at (List.getElem?_eq_getElem hk)
  obtain ⟨TA, tc, SA, sc, DA, dc, rfl, q1, q2, q3⟩ := hr
  refine ⟨ad, _, TA, tc, SA, sc, DA, dc, hA, by rw [addr_add_block]; exact hlt, List.getElem?_eq_getElem hk, hc 0 _ rfl, ?_, ?_, ?_, ?_, ?_, q1, q2, q3⟩ <;> rw [addr_field _ _ _ (by decide)]
  · exact hc 1 _ rfl
  · exact hc 2 _ rfl
  · exact hc 3 _ rfl
  · exact hc 4 _ rfl
  · exact hc 5 _ rfl

/-- The program's own types, and the document's. -/
def tO : CfgT := ⟨154, 52, 157, 139, 37, 3⟩
def tR : CfgT := ⟨155, 45, 158, 143, 24, 3⟩

/-- Few of all. -/
def PartD.few (p : PartD) : Bool := decide (p.ts.length ≤ 20) && decide (p.ss.length ≤ 20) && decide (p.ds.length ≤ 20)
def CfgD.light (c : CfgD) : Bool := decide (c.ws.length ≤ 60) && decide (c.ps.length ≤ 20) && decide (c.cs.length ≤ 30) && c.ps.all PartD.few
end Go.Proofs.Ytgljmflcbdhigaa
