/- What the document finds of a log. -/
import Derived.Test.YtgljmflcbdhigaaAuditQ
import Derived.Deep.DeepCutAuto
set_option linter.unusedVariables false
namespace Go.Proofs.Ytgljmflcbdhigaa
open Go.RowKit

structure TaskD where
  hi : Bool
  t : Int
  d : Int
  v : Int
  lo : Int
  top : Int
def TaskD.enc (x : TaskD) : List Value := [.bool x.hi, .int .i64 x.t, .int .i64 x.d, .int .i64 x.v, .int .i64 x.lo, .int .i64 x.top]
def repT : Rep TaskD := Rep.flat 6 TaskD.enc (fun _ => rfl) (fun x u hu => by simp [TaskD.enc] at hu; rcases hu with rfl | rfl | rfl | rfl | rfl | rfl <;> rfl)
theorem at_T {e B : Nat} {w : World} {A : Option Addr} {l : List TaskD} (h : Row repT e B w A l) {k : Nat} (hk : k < l.length) : ∃ ad x, A = some ad ∧ (ad.add (k * 6)).block < w.heap.size ∧ l[k]? = some x ∧ w.cell? (ad.add (k * 6)) = some (.bool x.hi) ∧
    w.cell? ⟨(ad.add (k * 6)).block, (ad.add (k * 6)).off + 1, none⟩ = some (.int .i64 x.t) ∧ w.cell? ⟨(ad.add (k * 6)).block, (ad.add (k * 6)).off + 2, none⟩ = some (.int .i64 x.d) ∧ w.cell? ⟨(ad.add (k * 6)).block, (ad.add (k * 6)).off + 3, none⟩ = some (.int .i64 x.v) ∧
    w.cell? ⟨(ad.add (k * 6)).block, (ad.add (k * 6)).off + 4, none⟩ = some (.int .i64 x.lo) ∧ w.cell? ⟨(ad.add (k * 6)).block, (ad.add (k * 6)).off + 5, none⟩ = some (.int .i64 x.top) := by
  obtain ⟨ad, cs, hA, hlt, _, hr, hc⟩ := h.at (List.getElem?_eq_getElem hk)
  have hr : cs = TaskD.enc _ := hr
  subst hr
  refine ⟨ad, _, hA, by rw [addr_add_block]; exact hlt, List.getElem?_eq_getElem hk, hc 0 _ rfl, ?_, ?_, ?_, ?_, ?_⟩ <;> rw [addr_field _ _ _ (by decide)]
  · exact hc 1 _ rfl
  · exact hc 2 _ rfl
  · exact hc 3 _ rfl
  · exact hc 4 _ rfl
  · exact hc 5 _ rfl

def orderD (l : List Entry) (i : Nat) (x : Entry) : Bool := decide (0 < i) && (match l[i - 1]? with | some y => decide (x.tick < y.tick) | none => false)
def acceptD (ts : List TaskD) (l : List Entry) (now : Int) (i : Nat) (x : Entry) : List Fault :=
  if 0 ≤ x.a then (match ts[x.a.toNat]? with
    | none => []
    | some t => foundD i (soonD (stLast (l.take i) x.a) x.tick t.t) (openD (stJobs (l.take i)) x.a) (!t.hi && stHigh (l.take i)) (lateD (jobD l i x) t.d now)) else []
def entryD (ts : List TaskD) (l : List Entry) (now : Int) (i : Nat) (x : Entry) : List Fault :=
  whenD (orderD l i x) 4 i ++ (if x.kind = 0 then acceptD ts l now i x else [])
def checkFrom (ts : List TaskD) (l : List Entry) (now : Int) : Nat → List Entry → List Fault
  | _, [] => []
  | i, x :: r => entryD ts l now i x ++ checkFrom ts l now (i + 1) r
def checkD (ts : List TaskD) (l : List Entry) (now : Int) : List Fault := checkFrom ts l now 0 l
theorem checkFrom_snoc (ts : List TaskD) (l : List Entry) (now : Int) (x : Entry) : ∀ (r : List Entry) (k : Nat), checkFrom ts l now k (r ++ [x]) = checkFrom ts l now k r ++ entryD ts l now (k + r.length) x
  | [], k => by simp [checkFrom]
  | y :: r, k => by
    rw [List.cons_append]
    show entryD ts l now k y ++ checkFrom ts l now (k + 1) (r ++ [x]) = (entryD ts l now k y ++ checkFrom ts l now (k + 1) r) ++ _
    rw [checkFrom_snoc ts l now x r (k + 1), List.append_assoc, List.length_cons, show k + 1 + r.length = k + (r.length + 1) by omega]
theorem foundD_len (i : Nat) (a b c d : Bool) : (foundD i a b c d).length ≤ 4 := foundTo_len i a b c d 4
theorem acceptD_len (ts : List TaskD) (l : List Entry) (now : Int) (i : Nat) (x : Entry) : (acceptD ts l now i x).length ≤ 4 := by
  unfold acceptD
  split
  · split
    · simp
    · exact foundD_len _ _ _ _ _
  · simp
theorem entryD_len (ts : List TaskD) (l : List Entry) (now : Int) (i : Nat) (x : Entry) : (entryD ts l now i x).length ≤ 5 := by
  unfold entryD
  have h1 := whenD_len (orderD l i x) 4 i
  have h2 := acceptD_len ts l now i x
  rw [List.length_append]
  split <;> simp <;> omega
theorem checkFrom_len (ts : List TaskD) (l : List Entry) (now : Int) : ∀ (r : List Entry) (k : Nat), (checkFrom ts l now k r).length ≤ 5 * r.length
  | [], _ => by simp [checkFrom]
  | x :: r, k => by
    have h1 := entryD_len ts l now k x
    have h2 := checkFrom_len ts l now r (k + 1)
    simp only [checkFrom, List.length_append, List.length_cons]
    omega

set_option maxRecDepth 100000 in
set_option maxHeartbeats 4000000 in
theorem refCheck_any (B : Nat) (A : Option Addr) (c : Nat) (l : List Entry) (T : Option Addr) (tc : Nat) (ts : List TaskD) (o1 o2 o3 o4 o5 : Value) (now : Int) (w : World) (hl : Row repE 132 B w A l) (ht : Row repT 143 B w T ts) (hn : l.length ≤ 80) (hli : lightD l) (hts : ts.length ≤ 20) (hnow : 0 ≤ now ∧ now ≤ 2305843009213693952)
    (p1 : o1.oneCell' = true) (p2 : o2.oneCell' = true) (p3 : o3.oneCell' = true) (p4 : o4.oneCell' = true) (p5 : o5.oneCell' = true) :
    Calls Try.prog 21 #[.agg #[.slice T ts.length tc, o1, o2, o3, o4, o5], .slice A l.length c, .int .i64 now] w fun e w' => ∃ v, e = .returned v ∧ Own repF 57 0 w.heap.size w' v (checkD ts l now) ∧ Below w.heap.size w w' := by
  obtain ⟨n, hn'⟩ : ∃ n, l.length = n := ⟨_, rfl⟩
  rw [hn']
  have Hn := Lib.hid hn'
  rw [hn'] at hn
  clear hn'
  obtain ⟨m, hm'⟩ : ∃ m, ts.length = m := ⟨_, rfl⟩
  rw [hm']
  have Hm := Lib.hid hm'
  rw [hm'] at hts
  clear hm'
  have Hli := Lib.hid hli
  clear hli
  go_enter Try.func21, Try.ntmps21
  go_wp2
  go_loopw [7, 8] (fun v j wr => ∃ k : Nat, k ≤ n ∧ j = .int .i64 k ∧ Own repF 57 0 w.heap.size wr v (checkFrom ts l now 0 (l.take k)) ∧ Below w.heap.size w wr ∧ Blk wr w.heap.size 45 #[.slice T m tc, o1, o2, o3, o4, o5]) (fun _ j _ => n - (intOf j).toNat)
  case atStart => exact ⟨0, Nat.zero_le _, rfl, Own.nil, (Below.refl _ _).alloc (Nat.le_refl _) _, Blk.new _ _ _⟩
  case round =>
    obtain ⟨k, hk, rfl, hown, hb, hbx⟩ := hrel
    by_cases hlt : k < n
    · have hk2 : (k : Int) < (n : Int) := by omega
      have hlr : Row repE 132 B wr A l := hl.keep fun j hj _ => hb.block j hj
      obtain ⟨ad, x, rfl, hbk, hx, h0, h1, h2, h3⟩ := at_E hlr (k := k) (by rw [Hn.out]; omega)
      have hX : ∀ W : World, Below w.heap.size w W → W.cell? (ad.add (k * 4)) = some (.int .i64 x.tick) ∧ W.cell? ⟨(ad.add (k * 4)).block, (ad.add (k * 4)).off + 1, none⟩ = some (.int .i64 x.kind) ∧ W.cell? ⟨(ad.add (k * 4)).block, (ad.add (k * 4)).off + 2, none⟩ = some (.int .i64 x.a) ∧ W.cell? ⟨(ad.add (k * 4)).block, (ad.add (k * 4)).off + 3, none⟩ = some (.int .i64 x.b) := fun W hW => by
        obtain ⟨ad', x', ead, _, hx', q⟩ := at_E (hl.keep fun j hj _ => hW.block j hj) (k := k) (by rw [Hn.out]; omega)
        cases ead
        rw [hx] at hx'
        cases hx'
        exact q
      have HX := Lib.hid hX
      have HE := Lib.hid hx
      have hs : checkFrom ts l now 0 (l.take (k + 1)) = checkFrom ts l now 0 (l.take k) ++ (whenD (orderD l k x) 4 k ++ (if x.kind = 0 then acceptD ts l now k x else [])) := by
        rw [take_snoc' hx, checkFrom_snoc, List.length_take, Nat.min_eq_left (by rw [Hn.out]; omega), Nat.zero_add]; rfl
      have hlen := checkFrom_len ts l now (l.take k) 0
      rw [List.length_take] at hlen
      have hlen2 : (checkFrom ts l now 0 (l.take k)).length ≤ 400 := by omega
      generalize checkFrom ts l now 0 (l.take k) = P0 at hown hs hlen2
      obtain ⟨b, hbd⟩ : ∃ b, orderD l k x = b := ⟨_, rfl⟩
      rw [hbd] at hs
      rw [← List.append_assoc] at hs
      have Hs := Lib.hid hs
      have Hbd := Lib.hid hbd
      have hsz := hb.size
      clear hs hbd hX hlen
      go_upto_region 5 with fail
      go_cut [31] (fun u wx => u = .bool b ∧ Drawn wr wx)
      case first =>
        by_cases hk0 : k = 0
        · have e : b = false := by rw [← Hbd.out]; unfold orderD; simp [hk0]
          have hz : ¬ (0 : Int) < (k : Int) := by omega
          have hz' : ¬ 0 < k := by omega
          have He := Lib.hid e
          clear hk0 e
          go_quiet (fail)
          go_wp2_with fail
          go_meet
          exact ⟨by rw [He.out], (Drawn.refl _).drewN _⟩
        · obtain ⟨q, hq⟩ : ∃ q, k = q + 1 := ⟨k - 1, by omega⟩
          obtain ⟨ad', y, ead, hbk', hy, g0, g1, g2, g3⟩ := at_E hlr (k := q) (by rw [Hn.out]; omega)
          cases ead
          have e : b = decide (x.tick < y.tick) := by rw [← Hbd.out]; unfold orderD; rw [show k - 1 = q by omega, hy]; simp; omega
          have hz : (0 : Int) < (k : Int) := by omega
          have hz' : 0 < k := by omega
          have hwq : IntKind.i64.wrap ((k : Int) - 1) = (q : Int) := by rw [IntWalk.i64_in _ (by omega)]; omega
          have hq2 : (q : Int) < (n : Int) := by omega
          have He := Lib.hid e
          clear hk0 e hq hy
          go_quiet (fail)
          go_wp2_with fail
          go_meet
          exact ⟨by rw [He.out], (Drawn.refl _).drewN _⟩
      case rest =>
        obtain ⟨rfl, hd⟩ := hcut
        have hown1 := hown.below (hd.below _) (Nat.le_refl _)
        have hb1 : Below w.heap.size w wc := hb.trans (hd.below _)
        have hbx1 := hbx.drawn hd
        clear hown hb hbx hd h0 h1 h2 h3 hlr hbk hsz hx
        go_upto_if 31 with fail
        go_cut [7] (fun v wx => Own repF 57 0 w.heap.size wx v (P0 ++ whenD b 4 k) ∧ Below w.heap.size w wx ∧ Blk wx w.heap.size 45 #[.slice T m tc, o1, o2, o3, o4, o5])
        case first =>
          have hsz := hb1.size
          cases b with
          | false =>
            go_wp2_with fail
            go_meet
            exact ⟨by simpa [whenD] using hown1, hb1, hbx1⟩
          | true =>
            go_wp2_with (at_builtin; refine wpList_append_one rfl _ _ _ rfl repF 57 0 w.heap.size Try.underlying54 info_F2 rfl (by decide) (by decide) _ _ rfl hown1 ⟨4, k⟩ [.int .i64 4, .int .i64 k] rfl rfl (Nat.zero_le _) ?c1 ?c2 hsz ?_)
            case c1 => omega
            case c2 => omega
            intro v' w2 hown' hg' hat
            have hbl2 := hbx1.grown hg' (hown1.ne_blk hbx1 (by decide))
            have hb2 := hb1.grown hg' hsz (fun g hg => (hown1.block g hg).1)
            go_wp2_with fail
            go_meet
            exact ⟨by simpa [whenD] using hown', hb2, hbl2⟩
        case rest =>
          obtain ⟨hown, hb, hbx⟩ := hcut
          clear hown1 hb1 hbx1
          have hW1 := whenD_len b 4 k
          obtain ⟨s0, hs0⟩ : ∃ s0, (decide (x.kind ≠ 0) || decide (x.a < 0) || decide ((m : Int) ≤ x.a)) = s0 := ⟨_, rfl⟩
          have Hs0 := Lib.hid hs0
          clear hs0
          go_upto_region 7 with fail
          go_cut [61] (fun u wx => u = .bool s0 ∧ Drawn wc wx)
          case first =>
            obtain ⟨h0, h1, h2, h3⟩ := HX.out _ hb
            have hc := hbx.cell 0 rfl
            by_cases c0 : x.kind = 0
            · have t0 : (x.kind != 0) = false := by simp [c0]
              by_cases c1 : x.a < 0
              · have e : s0 = true := by rw [← Hs0.out]; simp [c1]
                have He := Lib.hid e
                clear c0 e
                go_quiet (fail)
                go_wp2_with fail
                go_meet
                exact ⟨by rw [He.out], (Drawn.refl _).drewN _⟩
              · have e : s0 = decide ((m : Int) ≤ x.a) := by rw [← Hs0.out]; simp [c0, c1]
                have He := Lib.hid e
                clear c0 e
                go_quiet (fail)
                go_wp2_with fail
                go_meet
                exact ⟨by rw [He.out], (Drawn.refl _).drewN _⟩
            · have t0 : (x.kind != 0) = true := by simp [c0]
              have e : s0 = true := by rw [← Hs0.out]; simp [c0]
              have He := Lib.hid e
              clear c0 e
              go_quiet (fail)
              go_wp2_with fail
              go_meet
              exact ⟨by rw [He.out], (Drawn.refl _).drewN _⟩
          case rest =>
            obtain ⟨rfl, hd⟩ := hcut
            have hown1 := hown.below (hd.below _) (Nat.le_refl _)
            have hb1 : Below w.heap.size w wc := hb.trans (hd.below _)
            have hbx1 := hbx.drawn hd
            clear hown hb hbx hd
            cases s0 with
            | true =>
              have hnone : (if x.kind = 0 then acceptD ts l now k x else []) = [] := by
                have h := Hs0.out
                by_cases c0 : x.kind = 0
                · rw [if_pos c0]
                  unfold acceptD
                  by_cases c1 : 0 ≤ x.a
                  · rw [if_pos c1]
                    have h2 : (m : Int) ≤ x.a := by
                      simp [c0] at h
                      omega
                    rw [List.getElem?_eq_none (by rw [Hm.out]; omega)]
                  · rw [if_neg c1]
                · rw [if_neg c0]
              have Hnone := Lib.hid hnone
              clear hnone
              go_wp2
              go_roundw
              case rel => exact ⟨k + 1, by omega, by go_num, by rw [Hs.out, Hnone.out, List.append_nil]; exact hown1, hb1, hbx1⟩
              case measure => simp [intOf] <;> omega
            | false =>
              obtain ⟨hk0, ha0, ham⟩ : x.kind = 0 ∧ 0 ≤ x.a ∧ x.a < (m : Int) := by
                have h := Hs0.out
                simp at h
                omega
              obtain ⟨j, hj⟩ : ∃ j : Nat, x.a = (j : Int) := ⟨x.a.toNat, by omega⟩
              have hjm : j < m := by omega
              have hj2 : (j : Int) < (m : Int) := by omega
              have htr : Row repT 143 B wc T ts := ht.keep fun q hq _ => hb1.block q hq
              obtain ⟨tad, t, hta, htb, htx, y0, y1, y2, y3, y4, y5⟩ := at_T htr (k := j) (by rw [Hm.out]; exact hjm)
              obtain ⟨h0, h1, h2, h3⟩ := HX.out _ hb1
              rw [hj] at h2
              have hc := hbx1.cell 0 rfl
              subst hta
              have hsacc : (if x.kind = 0 then acceptD ts l now k x else []) = foundD k (soonD (stLast (l.take k) x.a) x.tick t.t) (openD (stJobs (l.take k)) x.a) (!t.hi && stHigh (l.take k)) (lateD (jobD l k x) t.d now) := by
                rw [if_pos hk0]
                unfold acceptD
                rw [if_pos ha0, show x.a.toNat = j by omega, htx]
              have hS := Hs.out
              rw [hsacc] at hS
              clear Hs hsacc Hs0 hk0 ha0 ham htx htr
              have q1 := World.block_lt_of_cell? wc _ h0
              have q2 := hbx1.lt
              go_wp2
              go_region
              generalize hW9 : World.drew _ = w9
              have hbW : Below wc.heap.size wc w9 := by rw [← hW9]; exact ((Below.refl _ _).alloc (Nat.le_refl _) _).drew
              have hT : Blk w9 wc.heap.size 143 #[.bool t.hi, .int .i64 t.t, .int .i64 t.d, .int .i64 t.v, .int .i64 t.lo, .int .i64 t.top] := by rw [← hW9]; exact (Blk.new _ _ _).drew
              have hown := hown1.below hbW (Nat.le_refl _)
              have hb := hb1.trans (hbW.mono hb1.size)
              have hbx := hbx1.below hbW hbx1.lt
              generalize wc.heap.size = tg at hT ⊢
              clear hW9 hbW hown1 hb1 hbx1 h0 h1 h2 h3 hc y0 y1 y2 y3 y4 y5 q1 q2 htb
              have cSoon := fun W (hW : Row repE 132 B W (some ad) l) => soon_any B (some ad) c l k x t.t W hW (by rw [Hn.out]; omega) HE.out Hli.out
              have cTwice := fun W (hW : Row repE 132 B W (some ad) l) => twice_any B (some ad) c l k x W hW (by rw [Hn.out]; omega) HE.out
              have cLow := fun W (hW : Row repE 132 B W (some ad) l) => low_any B (some ad) c l k W hW (by rw [Hn.out]; omega) (by rw [Hn.out]; omega)
              have cLate := fun W (hW : Row repE 132 B W (some ad) l) => refLate_any B (some ad) c l k x t.d now W hW (by rw [Hn.out]; omega) HE.out Hli.out hnow
              rw [Hn.out] at cSoon cTwice cLow cLate
              generalize soonD (stLast (l.take k) x.a) x.tick t.t = s1 at cSoon hS
              generalize openD (stJobs (l.take k)) x.a = s2 at cTwice hS
              generalize hs3 : (!t.hi && stHigh (l.take k)) = s3 at hS
              generalize lateD (jobD l k x) t.d now = s4 at cLate hS
              have Hs3 := Lib.hid hs3
              have HS := Lib.hid hS
              have CSoon := Lib.hid cSoon
              have CTwice := Lib.hid cTwice
              have CLow := Lib.hid cLow
              have CLate := Lib.hid cLate
              clear hs3 hS cSoon cTwice cLow cLate
              have hV1 := whenD_len s1 1 k
              have hV2 := whenD_len s2 2 k
              have hV3 := whenD_len s3 3 k
              have c1 := hT.cell 1 rfl
              go_wp2_with fail
              refine (CSoon.out _ (hl.keep fun q hq _ => hb.block q hq)).mono ?_
              rintro e w2 ⟨rfl, hd⟩
              have hownA := hown.below (hd.below _) (Nat.le_refl _)
              have hbA : Below w.heap.size w w2 := hb.trans (hd.below _)
              have hbxA := hbx.drawn hd
              have hTA := hT.drawn hd
              clear hown hb hbx hT hd c1
              go_upto_if 75 with fail
              go_cut [7] (fun v wx => Own repF 57 0 w.heap.size wx v (P0 ++ whenD b 4 k ++ whenD s1 1 k) ∧ Below w.heap.size w wx ∧ Blk wx w.heap.size 45 #[.slice (some tad) m tc, o1, o2, o3, o4, o5] ∧ Blk wx tg 143 #[.bool t.hi, .int .i64 t.t, .int .i64 t.d, .int .i64 t.v, .int .i64 t.lo, .int .i64 t.top])
              case first =>
                have hsz := hbA.size
                cases s1 with
                | false =>
                  go_wp2_with fail
                  go_meet
                  exact ⟨by simpa [whenD] using hownA, hbA, hbxA, hTA⟩
                | true =>
                  go_wp2_with (at_builtin; refine wpList_append_one rfl _ _ _ rfl repF 57 0 w.heap.size Try.underlying54 info_F2 rfl (by decide) (by decide) _ _ rfl hownA ⟨1, k⟩ [.int .i64 1, .int .i64 k] rfl rfl (Nat.zero_le _) ?c1 ?c2 hsz ?_)
                  case c1 => simp only [List.length_append]; omega
                  case c2 => simp only [List.length_append]; omega
                  intro v' w2 hown' hg' hat
                  have hbl2 := hbxA.grown hg' (hownA.ne_blk hbxA (by decide))
                  have hT2 := hTA.grown hg' (hownA.ne_blk hTA (by decide))
                  have hb2 := hbA.grown hg' hsz (fun g hg => (hownA.block g hg).1)
                  go_wp2_with fail
                  go_meet
                  exact ⟨by simpa [whenD] using hown', hb2, hbl2, hT2⟩
              case rest =>
                obtain ⟨hown, hb, hbx, hT⟩ := hcut
                clear hownA hbA hbxA hTA
                go_wp2_with fail
                refine (CTwice.out _ (hl.keep fun q hq _ => hb.block q hq)).mono ?_
                rintro e w3 ⟨rfl, hd⟩
                have hownA := hown.below hd (Nat.le_refl _)
                have hbA : Below w.heap.size w w3 := hb.trans (hd.mono hb.size)
                have hbxA := hbx.below hd hbx.lt
                have hTA := hT.below hd hT.lt
                clear hown hb hbx hT hd
                go_upto_if 83 with fail
                go_cut [7] (fun v wx => Own repF 57 0 w.heap.size wx v (P0 ++ whenD b 4 k ++ whenD s1 1 k ++ whenD s2 2 k) ∧ Below w.heap.size w wx ∧ Blk wx w.heap.size 45 #[.slice (some tad) m tc, o1, o2, o3, o4, o5] ∧ Blk wx tg 143 #[.bool t.hi, .int .i64 t.t, .int .i64 t.d, .int .i64 t.v, .int .i64 t.lo, .int .i64 t.top])
                case first =>
                  have hsz := hbA.size
                  cases s2 with
                  | false =>
                    go_wp2_with fail
                    go_meet
                    exact ⟨by simpa [whenD] using hownA, hbA, hbxA, hTA⟩
                  | true =>
                    go_wp2_with (at_builtin; refine wpList_append_one rfl _ _ _ rfl repF 57 0 w.heap.size Try.underlying54 info_F2 rfl (by decide) (by decide) _ _ rfl hownA ⟨2, k⟩ [.int .i64 2, .int .i64 k] rfl rfl (Nat.zero_le _) ?c1 ?c2 hsz ?_)
                    case c1 => simp only [List.length_append]; omega
                    case c2 => simp only [List.length_append]; omega
                    intro v' w2 hown' hg' hat
                    have hbl2 := hbxA.grown hg' (hownA.ne_blk hbxA (by decide))
                    have hT2 := hTA.grown hg' (hownA.ne_blk hTA (by decide))
                    have hb2 := hbA.grown hg' hsz (fun g hg => (hownA.block g hg).1)
                    go_wp2_with fail
                    go_meet
                    exact ⟨by simpa [whenD] using hown', hb2, hbl2, hT2⟩
                case rest =>
                  obtain ⟨hown, hb, hbx, hT⟩ := hcut
                  clear hownA hbA hbxA hTA
                  go_upto_region 13 with fail
                  go_cut [96] (fun u wx => u = .bool s3 ∧ Drawn wc wx)
                  case first =>
                    have c0 := hT.cell 0 rfl
                    generalize t.hi = hi at c0 Hs3
                    cases hi with
                    | true =>
                      have e : s3 = false := by rw [← Hs3.out]; rfl
                      have He := Lib.hid e
                      clear e
                      go_wp2_with fail
                      go_meet
                      exact ⟨by rw [He.out], Drawn.refl _⟩
                    | false =>
                      have e : s3 = stHigh (l.take k) := by rw [← Hs3.out]; rfl
                      have He := Lib.hid e
                      clear e
                      go_wp2_with fail
                      refine (CLow.out _ (hl.keep fun q hq _ => hb.block q hq)).mono ?_
                      rw [← He.out]
                      rintro e w4 ⟨rfl, hd⟩
                      go_wp2_with fail
                      go_meet
                      exact ⟨rfl, hd⟩
                  case rest =>
                    obtain ⟨rfl, hd⟩ := hcut
                    have hownA := hown.below (hd.below _) (Nat.le_refl _)
                    have hbA : Below w.heap.size w wc := hb.trans (hd.below _)
                    have hbxA := hbx.drawn hd
                    have hTA := hT.drawn hd
                    clear hown hb hbx hT hd
                    go_upto_if 96 with fail
                    go_cut [7] (fun v wx => Own repF 57 0 w.heap.size wx v (P0 ++ whenD b 4 k ++ whenD s1 1 k ++ whenD s2 2 k ++ whenD s3 3 k) ∧ Below w.heap.size w wx ∧ Blk wx w.heap.size 45 #[.slice (some tad) m tc, o1, o2, o3, o4, o5] ∧ Blk wx tg 143 #[.bool t.hi, .int .i64 t.t, .int .i64 t.d, .int .i64 t.v, .int .i64 t.lo, .int .i64 t.top])
                    case first =>
                      have hsz := hbA.size
                      cases s3 with
                      | false =>
                        go_wp2_with fail
                        go_meet
                        exact ⟨by simpa [whenD] using hownA, hbA, hbxA, hTA⟩
                      | true =>
                        go_wp2_with (at_builtin; refine wpList_append_one rfl _ _ _ rfl repF 57 0 w.heap.size Try.underlying54 info_F2 rfl (by decide) (by decide) _ _ rfl hownA ⟨3, k⟩ [.int .i64 3, .int .i64 k] rfl rfl (Nat.zero_le _) ?c1 ?c2 hsz ?_)
                        case c1 => simp only [List.length_append]; omega
                        case c2 => simp only [List.length_append]; omega
                        intro v' w2 hown' hg' hat
                        have hbl2 := hbxA.grown hg' (hownA.ne_blk hbxA (by decide))
                        have hT2 := hTA.grown hg' (hownA.ne_blk hTA (by decide))
                        have hb2 := hbA.grown hg' hsz (fun g hg => (hownA.block g hg).1)
                        go_wp2_with fail
                        go_meet
                        exact ⟨by simpa [whenD] using hown', hb2, hbl2, hT2⟩
                    case rest =>
                      obtain ⟨hown, hb, hbx, hT⟩ := hcut
                      clear hownA hbA hbxA hTA
                      have c2 := hT.cell 2 rfl
                      go_wp2_with fail
                      refine (CLate.out _ (hl.keep fun q hq _ => hb.block q hq)).mono ?_
                      rintro e w5 ⟨rfl, hd⟩
                      have hownA := hown.below hd (Nat.le_refl _)
                      have hbA : Below w.heap.size w w5 := hb.trans (hd.mono hb.size)
                      have hbxA := hbx.below hd hbx.lt
                      have hTA := hT.below hd hT.lt
                      clear hown hb hbx hT hd c2
                      have hsz := hbA.size
                      cases s4 with
                      | false =>
                        go_wp2
                        go_roundw
                        case rel => exact ⟨k + 1, by omega, by go_num, by rw [HS.out]; simpa [foundD, whenD, List.append_assoc] using hownA, hbA, hbxA⟩
                        case measure => simp [intOf] <;> omega
                      | true =>
                        go_wp2_with (at_builtin; refine wpList_append_one rfl _ _ _ rfl repF 57 0 w.heap.size Try.underlying54 info_F2 rfl (by decide) (by decide) _ _ rfl hownA ⟨0, k⟩ [.int .i64 0, .int .i64 k] rfl rfl (Nat.zero_le _) ?c1 ?c2 hsz ?_)
                        case c1 => simp only [List.length_append]; omega
                        case c2 => simp only [List.length_append]; omega
                        intro v' w6 hown' hg' hat
                        have hbl2 := hbxA.grown hg' (hownA.ne_blk hbxA (by decide))
                        have hb2 := hbA.grown hg' hsz (fun g hg => (hownA.block g hg).1)
                        go_wp2
                        go_roundw
                        case rel => exact ⟨k + 1, by omega, by go_num, by rw [HS.out]; simpa [foundD, whenD, List.append_assoc] using hown', hb2, hbl2⟩
                        case measure => simp [intOf] <;> omega
    · go_wp2
      go_ret
      have e : l.take k = l := List.take_of_length_le (by rw [Hn.out]; omega)
      rw [e] at hown
      exact ⟨_, rfl, hown, hb⟩
end Go.Proofs.Ytgljmflcbdhigaa
