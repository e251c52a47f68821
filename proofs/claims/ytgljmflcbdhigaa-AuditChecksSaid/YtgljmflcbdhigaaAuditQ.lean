/- Low and late of the document; late of the report. -/
import Derived.Test.YtgljmflcbdhigaaAuditP
set_option linter.unusedVariables false
namespace Go.Proofs.Ytgljmflcbdhigaa
open Go.RowKit

set_option maxHeartbeats 4000000 in
theorem low_any (B : Nat) (A : Option Addr) (c : Nat) (l : List Entry) (i : Nat) (w : World) (hl : Row repE 132 B w A l) (hn : l.length ≤ 100) (hi : i < l.length) :
    Calls Try.prog 61 #[.slice A l.length c, .int .i64 i] w fun e w' => e = .returned (.bool (stHigh (l.take i))) ∧ Drawn w w' := by
  obtain ⟨n, hn'⟩ : ∃ n, l.length = n := ⟨_, rfl⟩
  rw [hn']
  have Hn := Lib.hid hn'
  rw [hn'] at hn hi
  clear hn'
  have hi2 : (i : Int) < (n : Int) := by omega
  have hi3 : (0 : Int) ≤ (i : Int) := by omega
  generalize hres : stHigh (l.take i) = r
  have Hres := Lib.hid hres
  clear hres
  go_enter Try.func61, Try.ntmps61
  go_wp2
  go_loopw [5, 6] (fun o j wr => ∃ k : Nat, k ≤ i ∧ j = .int .i64 k ∧ o = .bool (stHigh (l.take k)) ∧ Drawn w wr) (fun _ j _ => i - (intOf j).toNat)
  case atStart => exact ⟨0, Nat.zero_le _, rfl, rfl, Drawn.refl _⟩
  case round =>
    obtain ⟨k, hki, rfl, rfl, hb⟩ := hrel
    by_cases hlt : k < i
    · have hk2 : (k : Int) < (i : Int) := by omega
      have hk3 : (k : Int) < (n : Int) := by omega
      obtain ⟨ad, y, rfl, hbk, hy, h0, h1, h2, h3⟩ := at_E (hl.drawn hb) (k := k) (by rw [Hn.out]; omega)
      have hs : stHigh (l.take (k + 1)) = stepHigh y (stHigh (l.take k)) := by rw [take_snoc' hy, stHigh_snoc]
      generalize stHigh (l.take k) = o at hs ⊢
      obtain ⟨yt, yk, ya, yb⟩ := y
      unfold stepHigh Entry.brk at hs
      simp only at hs h0 h1 h2 h3
      have Hs := Lib.hid hs
      clear hs hy hbk h0 h2
      by_cases k7 : yk = 7
      · subst k7
        go_wp2
        go_roundw
        case rel => exact ⟨k + 1, by omega, by go_num, by rw [Hs.out]; rfl, hb⟩
        case measure => simp [intOf] <;> omega
      · have t7 : (yk == 7) = false := by simp [k7]
        by_cases k9 : yk = 9
        · subst k9
          go_wp2
          go_roundw
          case rel => exact ⟨k + 1, by omega, by go_num, by rw [Hs.out]; rfl, hb⟩
          case measure => simp [intOf] <;> omega
        · have t9 : (yk == 9) = false := by simp [k9]
          by_cases k13 : yk = 13
          · subst k13
            go_wp2
            go_roundw
            case rel => exact ⟨k + 1, by omega, by go_num, by rw [Hs.out]; rfl, hb⟩
            case measure => simp [intOf] <;> omega
          · have t13 : (yk == 13) = false := by simp [k13]
            by_cases k12 : yk = 12
            · subst k12
              by_cases hbz : yb = 0
              · subst hbz
                go_wp2
                go_roundw
                case rel => exact ⟨k + 1, by omega, by go_num, by rw [Hs.out]; rfl, hb⟩
                case measure => simp [intOf] <;> omega
              · have tb : (yb != 0) = true := by simp [hbz]
                have Hbz := Lib.hid hbz
                clear hbz
                go_wp2
                go_roundw
                case rel => exact ⟨k + 1, by omega, by go_num, by rw [Hs.out]; simp [Hbz.out], hb⟩
                case measure => simp [intOf] <;> omega
            · have t12 : (yk == 12) = false := by simp [k12]
              have e : stHigh (l.take (k + 1)) = o := by rw [Hs.out]; simp [k7, k9, k12, k13]
              have He := Lib.hid e
              clear e k7 k9 k12 k13
              go_wp2
              go_roundw
              case rel => exact ⟨k + 1, by omega, by go_num, by rw [He.out], hb⟩
              case measure => simp [intOf] <;> omega
    · have hk2 : ¬ (k : Int) < (i : Int) := by omega
      have e : k = i := by omega
      subst e
      go_wp2
      go_ret
      exact ⟨ret_b Hres.out, hb⟩

def Job.light (j : Job) : Prop := (0 ≤ j.src ∧ j.src ≤ 2305843009213693952) ∧ (j.fin ≠ 0 → 0 ≤ j.dst ∧ j.dst ≤ 2305843009213693952)
theorem endOf_light {l : List Entry} (t : Int) (h : lightD l) : (endOf t l).2 ≠ 0 → 0 ≤ (endOf t l).1 ∧ (endOf t l).1 ≤ 2305843009213693952 := by
  induction l with
  | nil => intro h; exact absurd rfl h
  | cons y l ih =>
    unfold endOf
    by_cases hy : y.ends t = 0
    · rw [if_pos hy]; exact ih (fun x hx => h x (List.mem_cons_of_mem _ hx))
    · rw [if_neg hy]; intro _; exact h y List.mem_cons_self
theorem jobD_light {l : List Entry} (h : lightD l) (i : Nat) {x : Entry} (hx : x ∈ l) : (jobD l i x).light :=
  ⟨h x hx, endOf_light _ (fun y hy => h y (List.mem_of_mem_drop hy))⟩

set_option maxHeartbeats 1000000 in
theorem late_any (j : Job) (d now : Int) (w : World) (hj : j.light) (hnow : 0 ≤ now ∧ now ≤ 2305843009213693952) :
    Calls Try.prog 58 #[.agg #[.int .i64 j.task, .int .i64 j.work, .int .i64 j.src, .int .i64 j.dst, .int .i64 j.fin], .int .i64 d, .int .i64 now] w fun e w' => e = .returned (.bool (lateD j d now)) ∧ Below w.heap.size w w' := by
  obtain ⟨⟨s1, s2⟩, hf⟩ := hj
  have hw1 : IntKind.i64.wrap (now - j.src) = now - j.src := IntWalk.i64_in _ (by omega)
  unfold lateD
  by_cases h1 : d ≤ now - j.src
  · by_cases h2 : j.fin = 0
    · have t2 : (j.fin == 0) = true := by simp [h2]
      clear s1 s2 hnow hf
      go_enter Try.func58, Try.ntmps58
      go_wp2
      go_ret
      exact ⟨ret_b (by simp [h1, h2]), (Below.refl _ _).alloc (Nat.le_refl _) _⟩
    · have t2 : (j.fin == 0) = false := by simp [h2]
      have hf' := hf h2
      have hw2 : IntKind.i64.wrap (j.dst - j.src) = j.dst - j.src := IntWalk.i64_in _ (by omega)
      clear hf
      by_cases h3 : d ≤ j.dst - j.src
      · clear s1 s2 hnow hf'
        go_enter Try.func58, Try.ntmps58
        go_wp2
        go_ret
        exact ⟨ret_b (by simp [h1, h3]), (Below.refl _ _).alloc (Nat.le_refl _) _⟩
      · clear s1 s2 hnow hf'
        go_enter Try.func58, Try.ntmps58
        go_wp2
        go_ret
        exact ⟨ret_b (by simp [h2, h3]), (Below.refl _ _).alloc (Nat.le_refl _) _⟩
  · clear s1 s2 hnow hf
    go_enter Try.func58, Try.ntmps58
    go_wp2
    go_ret
    exact ⟨ret_b (by have : ¬ d ≤ now - j.src := by omega
                     simp [this]), (Below.refl _ _).alloc (Nat.le_refl _) _⟩
set_option maxHeartbeats 2000000 in
theorem refLate_any (B : Nat) (A : Option Addr) (c : Nat) (l : List Entry) (i : Nat) (x : Entry) (d now : Int) (w : World) (hl : Row repE 132 B w A l) (hn : l.length ≤ 100) (hx : l[i]? = some x) (hli : lightD l) (hnow : 0 ≤ now ∧ now ≤ 2305843009213693952) :
    Calls Try.prog 62 #[.slice A l.length c, .int .i64 i, .int .i64 d, .int .i64 now] w fun e w' => e = .returned (.bool (lateD (jobD l i x) d now)) ∧ Below w.heap.size w w' := by
  have hc := job_any B A c l i x w hl (by omega) hx
  have hj := jobD_light hli i (List.mem_of_getElem? hx)
  generalize l.length = n at hc ⊢
  generalize jobD l i x = j at hc hj ⊢
  have Hc := Lib.hid hc
  clear hc hx hli hl
  obtain ⟨⟨s1, s2⟩, hf⟩ := hj
  have hw1 : IntKind.i64.wrap (now - j.src) = now - j.src := IntWalk.i64_in _ (by omega)
  unfold lateD
  by_cases h1 : d ≤ now - j.src
  · by_cases h2 : j.fin = 0
    · have t2 : (j.fin == 0) = true := by simp [h2]
      clear s1 s2 hnow hf
      go_enter Try.func62, Try.ntmps62
      go_wp2_with fail
      refine Hc.out.mono ?_
      rintro e w1 ⟨rfl, hb⟩
      go_wp2
      go_ret
      exact ⟨ret_b (by simp [h1, h2]), hb.alloc hb.size _⟩
    · have t2 : (j.fin == 0) = false := by simp [h2]
      have hf' := hf h2
      have hw2 : IntKind.i64.wrap (j.dst - j.src) = j.dst - j.src := IntWalk.i64_in _ (by omega)
      clear hf
      by_cases h3 : d ≤ j.dst - j.src
      · clear s1 s2 hnow hf'
        go_enter Try.func62, Try.ntmps62
        go_wp2_with fail
        refine Hc.out.mono ?_
        rintro e w1 ⟨rfl, hb⟩
        go_wp2
        go_ret
        exact ⟨ret_b (by simp [h1, h3]), hb.alloc hb.size _⟩
      · clear s1 s2 hnow hf'
        go_enter Try.func62, Try.ntmps62
        go_wp2_with fail
        refine Hc.out.mono ?_
        rintro e w1 ⟨rfl, hb⟩
        go_wp2
        go_ret
        exact ⟨ret_b (by have : ¬ d ≤ j.dst - j.src := by omega
                         simp [h2, this]), hb.alloc hb.size _⟩
  · clear s1 s2 hnow hf
    go_enter Try.func62, Try.ntmps62
    go_wp2_with fail
    refine Hc.out.mono ?_
    rintro e w1 ⟨rfl, hb⟩
    go_wp2
    go_ret
    exact ⟨ret_b (by have : ¬ d ≤ now - j.src := by omega
                     simp [this]), hb.alloc hb.size _⟩

/-! ### Faults -/
structure Fault where
  kind : Int
  place : Int
def Fault.enc (x : Fault) : List Value := [.int .i64 x.kind, .int .i64 x.place]
def repF : Rep Fault := Rep.flat 2 Fault.enc (fun _ => rfl) (fun x u hu => by simp [Fault.enc] at hu; rcases hu with rfl | rfl <;> rfl)
theorem info_F : (Try.prog.info? 58).map (fun i => (i.zero, i.size, i.bytes)) = some (some (.agg #[.int .i64 0, .int .i64 0]), 2, 16) := by kernel_rfl
theorem info_F2 : (Try.prog.info? 57).map (fun i => (i.zero, i.size, i.bytes)) = some (some (.agg #[.int .i64 0, .int .i64 0]), 2, 16) := by kernel_rfl
def whenD (b : Bool) (k : Int) (i : Nat) : List Fault := if b then [⟨k, i⟩] else []
def foundD (i : Nat) (a b c d : Bool) : List Fault := whenD a 1 i ++ whenD b 2 i ++ whenD c 3 i ++ whenD d 0 i

def foundTo (i : Nat) (a b c d : Bool) : Nat → List Fault
  | 0 => []
  | 1 => whenD a 1 i
  | 2 => whenD a 1 i ++ whenD b 2 i
  | 3 => whenD a 1 i ++ whenD b 2 i ++ whenD c 3 i
  | _ => foundD i a b c d
theorem whenD_len (b : Bool) (k : Int) (i : Nat) : (whenD b k i).length ≤ 1 := by cases b <;> simp [whenD]
theorem foundTo_len (i : Nat) (a b c d : Bool) (k : Nat) : (foundTo i a b c d k).length ≤ 4 := by
  have h1 := whenD_len a 1 i
  have h2 := whenD_len b 2 i
  have h3 := whenD_len c 3 i
  have h4 := whenD_len d 0 i
  unfold foundTo foundD
  split <;> simp <;> omega

set_option maxHeartbeats 4000000 in
theorem found_any (i : Nat) (g : Nat) (a b c d : Bool) (w : World) (h0 : w.cell? ⟨g, 0, none⟩ = some (.bool a)) (h1 : w.cell? ⟨g, 1, none⟩ = some (.bool b)) (h2 : w.cell? ⟨g, 2, none⟩ = some (.bool c)) (h3 : w.cell? ⟨g, 3, none⟩ = some (.bool d)) :
    Calls Try.prog 57 #[.int .i64 i, .slice (some ⟨g, 0, none⟩) 4 4] w fun e w' => ∃ v, e = .returned v ∧ Own repF 58 0 w.heap.size w' v (foundD i a b c d) ∧ Below w.heap.size w w' := by
  have hg := World.block_lt_of_cell? w _ h0
  go_enter Try.func57, Try.ntmps57
  go_wp2
  go_loopw [6, 12] (fun v j wr => ∃ k : Nat, k ≤ 4 ∧ j = .int .i64 k ∧ Own repF 58 0 w.heap.size wr v (foundTo i a b c d k) ∧ Below w.heap.size w wr ∧ Blk wr w.heap.size 206 #[.int .i64 1, .int .i64 2, .int .i64 3, .int .i64 0]) (fun _ j _ => 4 - (intOf j).toNat)
  case atStart => exact ⟨0, Nat.zero_le _, rfl, Own.nil, (Below.refl _ _).alloc (Nat.le_refl _) _, Blk.new _ _ _⟩
  case round =>
    obtain ⟨k, hk, rfl, hown, hb, hbl⟩ := hrel
    have hlen := foundTo_len i a b c d k
    have hsz := hb.size
    have hlt := hbl.lt
    have hcase : k = 0 ∨ k = 1 ∨ k = 2 ∨ k = 3 ∨ k = 4 := by omega
    rcases hcase with rfl | rfl | rfl | rfl | rfl
    · have q := (hb.cell hg).trans h0
      have ck := hbl.cell 0 rfl
      cases a with
      | false =>
        go_wp2
        go_roundw
        case rel => exact ⟨1, by omega, by go_num, by simpa [foundTo, foundD, whenD] using hown, hb, hbl⟩
        case measure => simp [intOf] <;> omega
      | true =>
        go_wp2_with (at_builtin; refine wpList_append_one rfl _ _ _ rfl repF 58 0 w.heap.size Try.underlying47 info_F rfl (by decide) (by decide) _ _ rfl hown ⟨1, i⟩ [.int .i64 1, .int .i64 i] rfl rfl (Nat.zero_le _) ?c1 ?c2 hsz ?_)
        case c1 => omega
        case c2 => omega
        intro v' w2 hown' hg' hat
        have hbl2 := hbl.grown hg' (hown.ne_blk hbl (by decide))
        have hb2 := hb.grown hg' hsz (fun g hg => (hown.block g hg).1)
        go_wp2
        go_roundw
        case rel => exact ⟨1, by omega, by go_num, by simpa [foundTo, foundD, whenD] using hown', hb2, hbl2⟩
        case measure => simp [intOf] <;> omega
    · have q := (hb.cell hg).trans h1
      have ck := hbl.cell 1 rfl
      cases b with
      | false =>
        go_wp2
        go_roundw
        case rel => exact ⟨2, by omega, by go_num, by simpa [foundTo, foundD, whenD] using hown, hb, hbl⟩
        case measure => simp [intOf] <;> omega
      | true =>
        go_wp2_with (at_builtin; refine wpList_append_one rfl _ _ _ rfl repF 58 0 w.heap.size Try.underlying47 info_F rfl (by decide) (by decide) _ _ rfl hown ⟨2, i⟩ [.int .i64 2, .int .i64 i] rfl rfl (Nat.zero_le _) ?c1 ?c2 hsz ?_)
        case c1 => omega
        case c2 => omega
        intro v' w2 hown' hg' hat
        have hbl2 := hbl.grown hg' (hown.ne_blk hbl (by decide))
        have hb2 := hb.grown hg' hsz (fun g hg => (hown.block g hg).1)
        go_wp2
        go_roundw
        case rel => exact ⟨2, by omega, by go_num, by simpa [foundTo, foundD, whenD] using hown', hb2, hbl2⟩
        case measure => simp [intOf] <;> omega
    · have q := (hb.cell hg).trans h2
      have ck := hbl.cell 2 rfl
      cases c with
      | false =>
        go_wp2
        go_roundw
        case rel => exact ⟨3, by omega, by go_num, by simpa [foundTo, foundD, whenD] using hown, hb, hbl⟩
        case measure => simp [intOf] <;> omega
      | true =>
        go_wp2_with (at_builtin; refine wpList_append_one rfl _ _ _ rfl repF 58 0 w.heap.size Try.underlying47 info_F rfl (by decide) (by decide) _ _ rfl hown ⟨3, i⟩ [.int .i64 3, .int .i64 i] rfl rfl (Nat.zero_le _) ?c1 ?c2 hsz ?_)
        case c1 => omega
        case c2 => omega
        intro v' w2 hown' hg' hat
        have hbl2 := hbl.grown hg' (hown.ne_blk hbl (by decide))
        have hb2 := hb.grown hg' hsz (fun g hg => (hown.block g hg).1)
        go_wp2
        go_roundw
        case rel => exact ⟨3, by omega, by go_num, by simpa [foundTo, foundD, whenD] using hown', hb2, hbl2⟩
        case measure => simp [intOf] <;> omega
    · have q := (hb.cell hg).trans h3
      have ck := hbl.cell 3 rfl
      cases d with
      | false =>
        go_wp2
        go_roundw
        case rel => exact ⟨4, by omega, by go_num, by simpa [foundTo, foundD, whenD] using hown, hb, hbl⟩
        case measure => simp [intOf] <;> omega
      | true =>
        go_wp2_with (at_builtin; refine wpList_append_one rfl _ _ _ rfl repF 58 0 w.heap.size Try.underlying47 info_F rfl (by decide) (by decide) _ _ rfl hown ⟨0, i⟩ [.int .i64 0, .int .i64 i] rfl rfl (Nat.zero_le _) ?c1 ?c2 hsz ?_)
        case c1 => omega
        case c2 => omega
        intro v' w2 hown' hg' hat
        have hbl2 := hbl.grown hg' (hown.ne_blk hbl (by decide))
        have hb2 := hb.grown hg' hsz (fun g hg => (hown.block g hg).1)
        go_wp2
        go_roundw
        case rel => exact ⟨4, by omega, by go_num, by simpa [foundTo, foundD, whenD] using hown', hb2, hbl2⟩
        case measure => simp [intOf] <;> omega
    · go_wp2
      go_ret
      exact ⟨_, rfl, hown, hb⟩
end Go.Proofs.Ytgljmflcbdhigaa
