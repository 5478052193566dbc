/- BloomMakes: the walk. -/
import Derived.Test.YtfnigdbnkdofiaaDoorPlacesR
import Derived.Test.YtfnigdbnkdofiaaDoorBloomLike
import Derived.Test.YtfnigdbnkdofiaaDoorSameInts
import Derived.Test.YtfnigdbnkdofiaaDoorBytesIs
import Derived.Test.YtfnigdbnkdofiaaDoorRefsArg
import Derived.Deep.DeepCutAuto
import Derived.Deep.CutBlock
import Derived.BigRegion
namespace Go.Proofs.YtfnigdbnkdofiaaDoor
open Go.RowKit
set_option linter.unusedVariables false
set_option linter.unusedSimpArgs false

/-- What stands all the while: the box of r. -/
structure Bs (w W : World) (r : Int × Int) : Prop where
  below : Below w.heap.size w W
  blk : Blk W w.heap.size 42 #[.int .i64 r.1, .int .i64 r.2]
theorem Bs.new {w W W' : World} {r : Int × Int} (h : Bs w W r) (hb : Below W.heap.size W W') : Bs w W' r :=
  ⟨h.below.trans (hb.mono h.below.size), h.blk.below hb h.blk.lt⟩

theorem plE_ok {r : Int × Int} {n : Int} (h1 : refB r.1 r.2 = true) (h2 : manyB n = true) : plE r n = 0 := by simp [plE, h1, h2]
theorem plE_no {r : Int × Int} {n : Int} (h : (refB r.1 r.2 && manyB n) = false) : plE r n = 1 := by simp [plE, h]
theorem plL_ok {r : Int × Int} {n : Int} (h1 : refB r.1 r.2 = true) (h2 : manyB n = true) : plL r n = bplaces (r.1 * 1000003 + r.2) n 3 := by simp [plL, h1, h2]
theorem plL_no {r : Int × Int} {n : Int} (h : (refB r.1 r.2 && manyB n) = false) : plL r n = [] := by simp [plL, h]

/-- bookref3.Places at a good ref. -/
theorem placesR_ok (r : Int × Int) (n : Int) (h1 : refB r.1 r.2 = true) (h2 : manyB n = true) (w : World) :
    Calls Tryd.prog 11 #[.agg #[.int .i64 r.1, .int .i64 r.2], .int .i64 n] w fun e w' => ∃ A c, e = .returned (.slice A 3 c) ∧ w'.ownsRow w.heap.size 3 1 (.slice A 3 c) 3 (ints (bplaces (r.1 * 1000003 + r.2) n 3)) ∧ Below w.heap.size w w' := by
  obtain ⟨a, s⟩ := r
  simp only at *
  have hr : 1 ≤ a ∧ a ≤ 99 ∧ 1 ≤ s ∧ s ≤ 1000000 := by simp [refB, actorB, numB] at h1; omega
  have hn : 8 ≤ n ∧ n ≤ 4096 := by simp [manyB] at h2; omega
  obtain ⟨a, rfl⟩ : ∃ k : Nat, a = k := ⟨a.toNat, by omega⟩
  obtain ⟨s, rfl⟩ : ∃ k : Nat, s = k := ⟨s.toNat, by omega⟩
  obtain ⟨n, rfl⟩ : ∃ k : Nat, n = k := ⟨n.toNat, by omega⟩
  have := placesR a s n (a * 1000003 + s) rfl (by omega) (by omega) (by omega) (by omega) (by omega) (by omega) w
  have e : (((a * 1000003 + s : Nat) : Int)) = (a : Int) * 1000003 + (s : Int) := by omega
  rw [e] at this
  exact this

/-- e and places ahead of the first comparison. -/
def PlQ (w : World) (r : Int × Int) (n : Int) (s11 s12 : Value) (W : World) : Prop :=
  ∃ A c, s11 = .int .i64 (plE r n) ∧ s12 = .slice A (plL r n).length c ∧ SlAt W A (ints (plL r n)) ∧ Bs w W r

/-- want ahead of the loop. -/
def WantQ (w : World) (n : Int) (l : List (Int × Int)) (w4 : World) (s17 : Value) (W : World) : Prop :=
  Below w4.heap.size w4 W ∧ ((mk2 n l = 0 ∧ ∃ (m g : Nat), n = 8 * m ∧ 1 ≤ m ∧ m ≤ 512 ∧ s17 = .slice (some ⟨g, 0, none⟩) m m ∧ w4.heap.size ≤ g ∧ W.ownsRow g 5 1 (.slice (some ⟨g, 0, none⟩) m m) m (u8s (List.replicate m 0))) ∨
    (mk2 n l ≠ 0 ∧ s17 = .slice none 0 0))
/-- .. within. -/
def LpQ (w : World) (n : Int) (l : List (Int × Int)) (r : Int × Int) (k : Nat) (s11 s17 : Value) (W : World) : Prop :=
  Bs w W r ∧ ((s11 = .int .i64 0 ∧ mk2 n l = 0 ∧ allOk (l.take k) = true ∧ ∃ (m g : Nat), n = 8 * m ∧ 1 ≤ m ∧ m ≤ 512 ∧ s17 = .slice (some ⟨g, 0, none⟩) m m ∧ w.heap.size < g ∧ W.ownsRow g 5 1 (.slice (some ⟨g, 0, none⟩) m m) m (u8s (rowBits n m (l.take k)))) ∨
    (s11 = .int .i64 (mkE n l) ∧ mkE n l ≠ 0 ∧ s17 = .slice none 0 0))
/-- .. behind it. -/
def EndQ (w : World) (n : Int) (l : List (Int × Int)) (r : Int × Int) (s11 s17 : Value) (W : World) : Prop :=
  ∃ A c, s11 = .int .i64 (mkE n l) ∧ s17 = .slice A (mkL n l).length c ∧ SlAt W A (u8s (mkL n l)) ∧ Bs w W r

theorem lp_start {w w5 W : World} {n : Int} {l : List (Int × Int)} {r : Int × Int} {s17 : Value} (h5 : Bs w w5 r) (h : WantQ w n l w5 s17 W) : LpQ w n l r 0 (.int .i64 (mk2 n l)) s17 W := by
  obtain ⟨hb, h⟩ := h
  refine ⟨h5.new hb, ?_⟩
  rcases h with ⟨hz, m, g, hn, h1, h2, hs, hg, hown⟩ | ⟨hz, hs⟩
  · refine .inl ⟨by rw [hz], hz, by simp [allOk], m, g, hn, h1, h2, hs, Nat.lt_of_lt_of_le h5.blk.lt hg, ?_⟩
    simpa [rowBits] using hown
  · have e : mkE n l = mk2 n l := by unfold mkE; rw [if_neg hz]
    exact .inr ⟨by rw [e], by rw [e]; exact hz, hs⟩
theorem lp_bad {w W W' : World} {n : Int} {l : List (Int × Int)} {r x : Int × Int} {k : Nat} (hB : Bs w W r) (hb : Below W.heap.size W W') (hz : mk2 n l = 0) (hx : l[k]? = some x) (hr : refB x.1 x.2 = false) :
    LpQ w n l r (k + 1) (.int .i64 1) (.slice none 0 0) W' := by
  have e : mkE n l = 1 := by unfold mkE; rw [if_pos hz, allOk_bad hx hr]; rfl
  exact ⟨hB.new hb, .inr ⟨by rw [e], by rw [e]; decide, rfl⟩⟩
theorem lp_end {w W : World} {n : Int} {l : List (Int × Int)} {r : Int × Int} {m g : Nat} (hB : Bs w W r) (hz : mk2 n l = 0) (hall : allOk (l.take l.length) = true) (hn : n = 8 * m) (hm : 1 ≤ m)
    (hown : W.ownsRow g 5 1 (.slice (some ⟨g, 0, none⟩) m m) m (u8s (rowBits n m (l.take l.length)))) : EndQ w n l r (.int .i64 0) (.slice (some ⟨g, 0, none⟩) m m) W := by
  rw [List.take_length] at hall hown
  have e : mkE n l = 0 := by unfold mkE; rw [if_pos hz, hall]; rfl
  have e2 : mkL n l = rowBits n m l := by unfold mkL; rw [if_pos e, makeBits, rowBits, show (n / 8).toNat = m from by omega]
  have hl : (rowBits n m l).length = m := by have := hown.1; simpa [u8s] using this
  exact ⟨some ⟨g, 0, none⟩, m, by rw [e], by rw [e2, hl], by rw [e2]; exact SlAt.of_owns hown, hB⟩
theorem lp_end2 {w W : World} {n : Int} {l : List (Int × Int)} {r : Int × Int} (hB : Bs w W r) (hne : mkE n l ≠ 0) : EndQ w n l r (.int .i64 (mkE n l)) (.slice none 0 0) W := by
  have e2 : mkL n l = [] := by unfold mkL; rw [if_neg hne]
  exact ⟨none, 0, rfl, by rw [e2]; rfl, .inl (by rw [e2]; rfl), hB⟩

theorem mk2_many {n : Int} {l : List (Int × Int)} (h : mk2 n l = 0) : manyB n = true := by
  cases hm : manyB n with
  | false => simp [mk2, hm] at h
  | true => rfl
theorem Bs.set {w W : World} {r : Int × Int} (h : Bs w W r) {g : Nat} (hg : w.heap.size < g) (i : Nat) (u : Value) : Bs w (W.setCell ⟨g, i, none⟩ u) r :=
  ⟨h.below.setCell (p := ⟨g, i, none⟩) (Nat.le_of_lt hg) _, h.blk.only (Only.setCell (S := fun k => k = g) (Only.refl _ W) (p := ⟨g, i, none⟩) rfl u) (fun e => Nat.lt_irrefl _ (e ▸ hg))⟩
theorem Bs.drew {w W : World} {r : Int × Int} (h : Bs w W r) : Bs w W.drew r := ⟨h.below.drew, h.blk⟩
/-- Within a ref's places. -/
structure InQ (w : World) (r : Int × Int) (m g : Nat) (bs : List Int) (xn : Int) (A5 : Option Addr) (c5 B j : Nat) (W : World) : Prop where
  bs_ : Bs w W r
  want : W.ownsRow g 5 1 (.slice (some ⟨g, 0, none⟩) m m) m (u8s (orBits bs (bplaces xn (8 * m) j)))
  places : W.ownsRow B 3 1 (.slice A5 3 c5) 3 (ints (bplaces xn (8 * m) 3))
  lt : g < B
  wg : w.heap.size < g
theorem in_start {w w6 w7 : World} {r : Int × Int} {m g : Nat} {bs : List Int} {xn : Int} {A5 : Option Addr} {c5 : Nat} (hw : w6.ownsRow g 5 1 (.slice (some ⟨g, 0, none⟩) m m) m (u8s bs)) (hB : Bs w w6 r) (hg : w.heap.size < g)
    (hA : w7.ownsRow w6.heap.size 3 1 (.slice A5 3 c5) 3 (ints (bplaces xn (8 * m) 3))) (hb : Below w6.heap.size w6 w7) : InQ w r m g bs xn A5 c5 w6.heap.size 0 w7 :=
  ⟨hB.new hb, by simpa [orBits, bplaces] using owns_below hw hb, hA, (hw.lt g rfl).2, hg⟩
theorem InQ.step {w W : World} {r : Int × Int} {m g : Nat} {bs : List Int} {xn : Int} {A5 : Option Addr} {c5 B j q : Nat} {y : Int} (h : InQ w r m g bs xn A5 c5 B j W) (hj : j < 3)
    (hx : (bplaces xn (8 * m) 3)[j]? = some (q : Int)) (hy : (orBits bs (bplaces xn (8 * m) j))[q / 8]? = some y) :
    InQ w r m g bs xn A5 c5 B (j + 1) (W.setCell ⟨g, q / 8, none⟩ (Value.int IntKind.u8 (bits BinOp.or IntKind.u8 y (2 ^ (q % 8) % 256)))).drew := by
  refine ⟨(h.bs_.set h.wg _ _).drew, ?_, (ownsRow_setCell_below h.places (a := ⟨g, q / 8, none⟩) h.lt _).drew, h.lt, h.wg⟩
  have hst := (h.want.stored (q / 8) (Value.int IntKind.u8 (bits BinOp.or IntKind.u8 y (2 ^ (q % 8) % 256)))).1.drew
  have e : (q : Int) = bplace xn (8 * m) j := by
    have := hx
    simp [bplaces, hj] at this
    exact this.symm
  rw [orBits_succ, ← e, orBit, u8s_set, Int.toNat_natCast, hy]
  exact hst
theorem lp_good {w W : World} {l : List (Int × Int)} {r x : Int × Int} {k m g : Nat} {n : Int} {bs : List Int} {xn : Int} {A5 : Option Addr} {c5 B : Nat} (hz : mk2 n l = 0) (hall : allOk (l.take k) = true) (hx : l[k]? = some x) (hr : refB x.1 x.2 = true)
    (hn : n = 8 * m) (hm1 : 1 ≤ m) (hm2 : m ≤ 512) (hxn : xn = x.1 * 1000003 + x.2) (hbs : bs = rowBits (8 * (m : Int)) m (l.take k)) (h : InQ w r m g bs xn A5 c5 B 3 W) :
    LpQ w n l r (k + 1) (.int .i64 0) (.slice (some ⟨g, 0, none⟩) m m) W := by
  refine ⟨h.bs_, .inl ⟨rfl, hz, by rw [allOk_succ hx, hall, hr]; rfl, m, g, hn, hm1, hm2, rfl, h.wg, ?_⟩⟩
  have e := rowBits_succ n m l k x hx
  have hw := h.want
  rw [e, hn]
  subst hxn hbs
  exact hw

def offB (b : List Int) : Bool := decide (b.length = 0 ∨ 512 < b.length)
theorem hs_three {b : List Int} {r : Int × Int} (h : b.length = 0 ∨ 512 < b.length) : hsE b r = 3 ∧ hsB b r = false := by
  have hE : hsE b r = 3 := by simp only [hsE, if_pos h]
  exact ⟨hE, by simp [hsB, hE]⟩
theorem hs_one {b : List Int} {r : Int × Int} (h : ¬ (b.length = 0 ∨ 512 < b.length)) (hr : refB r.1 r.2 = false) : hsE b r = 1 ∧ hsB b r = false := by
  have hE : hsE b r = 1 := by simp only [hsE, if_neg h, hr]; rfl
  exact ⟨hE, by simp [hsB, hE]⟩
theorem hs_zero {b : List Int} {r : Int × Int} (h : ¬ (b.length = 0 ∨ 512 < b.length)) (hr : refB r.1 r.2 = true) : hsE b r = 0 ∧ hsB b r = hasBits b (bplaces (r.1 * 1000003 + r.2) (8 * b.length) 3) := by
  have hE : hsE b r = 0 := by simp only [hsE, if_neg h, hr]; rfl
  exact ⟨hE, by simp [hsB, hE]⟩
theorem hasBits_succ (b : List Int) (x n : Int) (j : Nat) : hasBits b (bplaces x n (j + 1)) = (hasBits b (bplaces x n j) && hasBit b (bplace x n j)) := by
  simp [hasBits, bplaces, List.range_succ]
theorem and_one : ∀ (z : Fin 256), (bits .and .u8 ((z.val : Nat) : Int) 1 == 1) = !(bits .and .u8 ((z.val : Nat) : Int) 1 == 0) := by decide +kernel

theorem has_step {b : List Int} {xn : Int} {n : Int} {j q : Nat} {y : Int} (hy0 : 0 ≤ y ∧ y < 256) (hy : b[q / 8]? = some y) (e : (q : Int) = bplace xn n j) :
    hasBits b (bplaces xn n (j + 1)) = (hasBits b (bplaces xn n j) && (bits .and .u8 (y / 2 ^ (q % 8)) 1 == 1)) := by
  rw [hasBits_succ, ← e]
  have h1 : hasBit b (q : Int) = !(bits .and .u8 (y / 2 ^ (q % 8)) 1 == 0) := by simp [hasBit, hy]
  rw [h1]
  obtain ⟨m, rfl⟩ : ∃ m : Nat, y = m := ⟨y.toNat, by omega⟩
  have h2 : ((m : Int) / 2 ^ (q % 8)) = ((m / 2 ^ (q % 8) : Nat) : Int) := by simp
  have h3 : m / 2 ^ (q % 8) < 256 := Nat.lt_of_le_of_lt (Nat.div_le_self _ _) (by omega)
  have h4 := and_one ⟨m / 2 ^ (q % 8), h3⟩
  simp only at h4
  rw [h2, h4]

theorem same_self (A B : Option Addr) (c d : Nat) (a : List Int) (w : World) (hA : SlAt w A (ints a)) (hB : SlAt w B (ints a)) (ha : a.length ≤ 9223372036854775807) :
    Calls Tryd.prog 13 #[.slice A a.length c, .slice B a.length d] w fun e w' => e = .returned (.bool true) ∧ Below w.heap.size w w' := by
  refine (sameInts_any A B c d a a w hA hB ha ha).mono ?_
  rintro e w' ⟨rfl, hb⟩
  exact ⟨by simp, hb⟩
theorem plL_len (r : Int × Int) (n : Int) : (plL r n).length ≤ 9223372036854775807 := by
  unfold plL
  split
  · rw [bplaces_len]; decide
  · simp

theorem mk2_no {n : Int} {l : List (Int × Int)} (h : manyB n = false) : mk2 n l = 1 := by simp [mk2, h]
theorem mk2_full {n : Int} {l : List (Int × Int)} (h : manyB n = true) (h2 : 400 < l.length) : mk2 n l = 4 := by simp [mk2, h, h2]
theorem mk2_ok {n : Int} {l : List (Int × Int)} (h : manyB n = true) (h2 : ¬ 400 < l.length) : mk2 n l = 0 := by simp [mk2, h, h2]
theorem mk2_zero {n : Int} {l : List (Int × Int)} (h : mk2 n l = 0) : ∃ m : Nat, n = 8 * m ∧ 1 ≤ m ∧ m ≤ 512 := by
  cases hm : manyB n with
  | false => rw [mk2_no hm] at h; cases h
  | true =>
    simp [manyB] at hm
    exact ⟨(n / 8).toNat, by omega, by omega, by omega⟩

set_option maxRecDepth 100000 in
set_option maxHeartbeats 4000000 in
theorem bloomMakes_walk (w : World) (hg : ErrVar w) (v0 : Value) (l : List (Int × Int)) (h0 : IsRefs w v0 l) (n : Int) (wn : (Lit.int .i64 n).wf = true) (v2 : Value) (b : List Int) (h2 : IsBytes w v2 b) (v3 : Value) (r : Int × Int) (h3 : IsRef v3 r) :
    Calls Tryd.prog 4 #[v0, .int .i64 n, v2, v3] w fun e w' => e = .returned (.bool true) ∧ Below w.heap.size w w' := by
  obtain ⟨A, c, rfl, hA, _, hlen⟩ := h0
  obtain ⟨A2, c2, rfl, hA2, hb8, hbl, hbc⟩ := h2
  obtain rfl := h3
  clear wn
  have hlen' : l.length ≤ 9223372036854775807 := by unfold maxLen at hlen; omega
  have hblen : b.length ≤ 9223372036854775807 := by unfold maxLen at hbc; omega
  have HA := Lib.hid (And.intro hA (And.intro hA2 (And.intro hb8 hg)))
  clear hA hA2 hb8 hbc hbl hlen hg
  have HB0 := Lib.hid (show Bs w (w.alloc (.cells #[.int .i64 r.1, .int .i64 r.2] 42)) r from ⟨(Below.refl _ _).alloc (Nat.le_refl _) _, Blk.new w _ _⟩)
  go_enter Tryd.func4, Tryd.ntmps4
  go_upto_region 1 with (fail)
  go_cut [9] from 26 to 36 (fun s9 wx => s9 = .bool (manyB n) ∧ w.alloc (.cells #[.int .i64 r.1, .int .i64 r.2] 42) = wx)
  case first =>
    by_cases k1 : 8 ≤ n <;> by_cases k2 : n ≤ 4096
    all_goals
      go_wp2
      all_goals
        go_meet
        exact ⟨by simp [manyB, k1, k2]; first | done | omega | rfl, rfl⟩
  case rest =>
    obtain ⟨rfl, rfl⟩ := hcut
    go_upto_region 5 with (go_at_call 10; (with_reducible refine (refR_any _ _ _).mono ?_); rintro e w1 ⟨rfl, hb1⟩; have HB1 := Lib.hid (HB0.out.new hb1); clear hb1)
    have a0 : w1.cell? ⟨w.heap.size, 0, none⟩ = some (.int .i64 r.1) := HB1.out.blk.cell 0
    have a1 : w1.cell? ⟨w.heap.size, 1, none⟩ = some (.int .i64 r.2) := HB1.out.blk.cell 1
    go_cut [9, 10, 44] from 37 to 44 (fun s9 s10 s44 wx => s9 = .bool (manyB n) ∧ s10 = .bool (refB r.1 r.2) ∧ s44 = .bool (!(refB r.1 r.2 && manyB n)) ∧ w1 = wx)
    case first =>
      cases k1 : refB r.1 r.2 <;> cases k2 : manyB n
      all_goals
        have K := Lib.hid (And.intro k1 k2)
        clear k1 k2
        go_wp2_with fail
        go_meet
        exact ⟨by rw [K.out.2], by rw [K.out.1], by rw [K.out.1, K.out.2]; rfl, rfl⟩
    case rest =>
      obtain ⟨rfl, rfl, rfl, rfl⟩ := hcut
      go_upto_if 44 with (fail)
      go_cut [9, 10, 44, 11, 12] from 45 to 47 (fun s9 s10 s44 s11 s12 wx => s9 = .bool (manyB n) ∧ PlQ w r n s11 s12 wx)
      case first =>
        cases k1 : refB r.1 r.2 with
        | false =>
          have K1 := Lib.hid k1
          clear k1
          go_wp2_with fail
          go_meet
          exact ⟨rfl, none, 0, by rw [plE_no (by rw [K1.out]; rfl)], by rw [plL_no (by rw [K1.out]; rfl)]; rfl, .inl (by rw [plL_no (by rw [K1.out]; rfl)]; rfl), HB1.out⟩
        | true =>
          have K1 := Lib.hid k1
          clear k1
          cases k2 : manyB n with
          | false =>
            have K2 := Lib.hid k2
            clear k2
            go_wp2_with fail
            go_meet
            exact ⟨by rw [K2.out], none, 0, by rw [plE_no (by rw [K1.out, K2.out]; rfl)], by rw [plL_no (by rw [K1.out, K2.out]; rfl)]; rfl, .inl (by rw [plL_no (by rw [K1.out, K2.out]; rfl)]; rfl), HB1.out⟩
          | true =>
            have K2 := Lib.hid k2
            clear k2
            go_wp2_with (go_at_call 11; (with_reducible refine (placesR_ok r n K1.out K2.out _).mono ?_); rintro e w2 ⟨A3, c3, rfl, hA3, hb2⟩)
            go_meet
            exact ⟨by rw [K2.out], A3, c3, by rw [plE_ok K1.out K2.out], by rw [plL_ok K1.out K2.out, bplaces_len], by rw [plL_ok K1.out K2.out]; exact SlAt.of_owns hA3, HB1.out.new hb2⟩
      case rest =>
        obtain ⟨rfl, A3, c3, rfl, rfl, hA3, hB2⟩ := hcut
        clear a0 a1
        have a0 : wc.cell? ⟨w.heap.size, 0, none⟩ = some (.int .i64 r.1) := hB2.blk.cell 0
        have a1 : wc.cell? ⟨w.heap.size, 1, none⟩ = some (.int .i64 r.2) := hB2.blk.cell 1
        have HP := Lib.hid (And.intro hA3 hB2)
        clear hA3 hB2
        go_upto_if 67 with (first
          | (go_at_call 12
             (with_reducible refine (places_like r n _).mono ?_)
             rintro e w3 ⟨A4, c4, ev, rfl, hev, hA4, hb3⟩
             have H3 := Lib.hid (And.intro hev (And.intro hA4 (And.intro (HP.out.1.below hb3) (HP.out.2.new hb3))))
             clear hev hA4 hb3)
          | (go_at_call 7
             (with_reducible refine (error_like _ _ _ H3.out.1 (HA.out.2.2.2.below H3.out.2.2.2.below)).mono ?_)
             rintro e w4 ⟨rfl, hb4⟩
             have H4 := Lib.hid (And.intro (H3.out.2.1.below hb4) (And.intro (H3.out.2.2.1.below hb4) (H3.out.2.2.2.new hb4)))
             clear hb4)
          | (go_at_call 13
             (with_reducible refine (same_self _ _ _ _ _ _ H4.out.1 H4.out.2.1 (plL_len r n)).mono ?_)
             rintro e w5 ⟨rfl, hb5⟩
             have H5 := Lib.hid (H4.out.2.2.new hb5)
             clear hb5 a0 a1))
        go_cut [9, 66, 67, 11] from 68 to 70 (fun s9 s66 s67 s11 wx => s11 = .int .i64 (mk2 n l) ∧ w5 = wx)
        case first =>
          cases k2 : manyB n with
          | false =>
            have e := mk2_no (l := l) k2
            have K2 := Lib.hid e
            clear k2 e
            go_wp2_with fail
            go_meet
            exact ⟨by rw [K2.out], rfl⟩
          | true =>
            by_cases k3 : 400 < l.length
            · have e := mk2_full k2 k3
              have K2 := Lib.hid e
              have k4 : decide (400 < (l.length : Int)) = true := by simp; omega
              clear k2 e
              go_wp2_with fail
              go_meet
              exact ⟨by rw [K2.out], rfl⟩
            · have e := mk2_ok k2 k3
              have K2 := Lib.hid e
              have k4 : decide (400 < (l.length : Int)) = false := by simp; omega
              clear k2 e
              go_wp2_with fail
              go_meet
              exact ⟨by rw [K2.out], rfl⟩
        case rest =>
          obtain ⟨rfl, rfl⟩ := hcut
          go_upto_if 72 with (fail)
          go_cut [72, 17] from 73 to 75 (fun s72 s17 wx => WantQ w n l w5 s17 wx)
          case first =>
            by_cases hz : mk2 n l = 0
            · obtain ⟨m, hm, hm1, hm2⟩ := mk2_zero hz
              have HZ := Lib.hid (And.intro hz hm)
              have hz2 : (mk2 n l == 0) = true := by simp [hz]
              obtain ⟨i0, hi, hz0, hz1, hz2⟩ := info_parts info8
              have hd : n / 8 = (m : Int) := by omega
              have hd2 : n.tdiv 8 = (m : Int) := by rw [Int.tdiv_eq_ediv_of_nonneg (by omega)]; omega
              clear hz hm
              go_wp2_with (at_make; refine wpList_make_full _ rfl _ _ 40 rfl w5.heap.size 5 i0 _ 1 Tryd.underlying40 hi hz0 hz1 _ _ _ _ m rfl rfl (by omega) (by omega) (by rw [hz2]; omega) (by simp only [maxLen]; omega) (Nat.le_refl _) ?_)
              intro w6 hown hg6
              have hb6 : Below w5.heap.size w5 w6 := (Below.refl _ _).grown hg6 (Nat.le_refl _) (by simp)
              have HO := Lib.hid (And.intro hown hb6)
              clear hown hg6 hb6
              go_wp2_with fail
              go_meet
              exact ⟨HO.out.2, .inl ⟨HZ.out.1, m, w5.heap.size, HZ.out.2, hm1, hm2, rfl, Nat.le_refl _, by simpa [u8s, toList_madeCells_one] using HO.out.1⟩⟩
            · have hz2 : (mk2 n l == 0) = false := by simpa using hz
              have HZ := Lib.hid hz
              clear hz
              go_wp2_with fail
              go_meet
              exact ⟨Below.refl _ _, .inr ⟨HZ.out, rfl⟩⟩
          case rest =>
            have HW := Lib.hid hcut
            clear hcut
            go_upto_block 0 with fail
            go_cut [11, 17, 18, 10, 12, 19] from 76 to 126 (fun s11 s17 s18 s10 s12 s19 wx => EndQ w n l r s11 s17 wx)
            case first =>
              have HL := Lib.hid (lp_start H5.out HW.out)
              go_wp2_with fail
              go_loopw [18, 11, 17, 10, 12, 19] (fun i e v _ _ _ wr => ∃ k : Nat, k ≤ l.length ∧ i = .int .i64 k ∧ LpQ w n l r k e v wr) (fun i _ _ _ _ _ _ => l.length - (intOf i).toNat)
              case atStart => exact ⟨0, Nat.zero_le _, rfl, HL.out⟩
              case round =>
                obtain ⟨k, hk, rfl, hq⟩ := hrel
                obtain ⟨hB, hq⟩ := hq
                rcases hq with ⟨rfl, hz, hall, m, g, rfl, hm1, hm2, rfl, hgl, hown⟩ | ⟨rfl, hne, rfl⟩
                · by_cases hlt : k < l.length
                  · obtain ⟨b', off, x, rfl, hr, hx, hy⟩ := (HA.out.1.below hB.below).ref hlt
                    have HR := Lib.hid (And.intro hr (And.intro hz (And.intro hall (And.intro hown (And.intro hB (And.intro hgl (And.intro hx hy)))))))
                    clear hr hz hall hown hB hgl HL
                    cases hrok : refB x.1 x.2 with
                    | false =>
                      have HX := Lib.hid hrok
                      clear hrok
                      go_wp2_with (go_at_call 10; (with_reducible refine (refR_any _ _ _).mono ?_); rw [HX.out]; rintro e w6 ⟨rfl, hb6⟩)
                      go_roundw
                      case rel => exact ⟨k + 1, hlt, by go_num, lp_bad HR.out.2.2.2.2.1 hb6 HR.out.2.1 HR.out.1 HX.out⟩
                      case measure => simp [intOf]; omega
                    | true =>
                      have HX := Lib.hid hrok
                      clear hrok
                      have hx6 := Lib.hid (And.intro hx hy)
                      have HM := Lib.hid (mk2_many HR.out.2.1)
                      go_wp2_with (first
                        | (go_at_call 10
                           (with_reducible refine (refR_any _ _ _).mono ?_)
                           rw [HX.out]
                           rintro e w6 ⟨rfl, hb6⟩
                           have hx := cell_below hb6 hx6.out.1
                           have hy := cell_below hb6 hx6.out.2
                           have H6 := Lib.hid (And.intro (owns_below HR.out.2.2.2.1 hb6) (HR.out.2.2.2.2.1.new hb6))
                           clear hb6)
                        | (go_at_call 11
                           (with_reducible refine (placesR_ok x (8 * (m : Int)) HX.out HM.out _).mono ?_)
                           rintro e w7 ⟨A5, c5, rfl, hA5, hb7⟩
                           have H7 := Lib.hid (in_start H6.out.1 H6.out.2 HR.out.2.2.2.2.2.1 hA5 hb7)
                           clear hA5 hb7 hx hy))
                      obtain ⟨bs, hbs⟩ : ∃ bs, bs = rowBits (8 * (m : Int)) m (l.take k) := ⟨_, rfl⟩
                      rw [← hbs] at H7
                      obtain ⟨xn, hxn⟩ : ∃ z, z = x.1 * 1000003 + x.2 := ⟨_, rfl⟩
                      rw [← hxn] at H7
                      have HXB := Lib.hid (And.intro hxn hbs)
                      clear hxn hbs
                      obtain ⟨B, hB⟩ : ∃ z, z = w6.heap.size := ⟨_, rfl⟩
                      rw [← hB] at H7
                      clear hB
                      go_loopw [19] (fun i wi => ∃ j : Nat, j ≤ 3 ∧ i = .int .i64 j ∧ InQ w r m g bs xn A5 c5 B j wi) (fun i _ => 3 - (intOf i).toNat)
                      case atStart => exact ⟨0, by omega, rfl, H7.out⟩
                      case round =>
                        obtain ⟨j, hj, rfl, hin⟩ := hrel
                        by_cases hj3 : j < 3
                        · obtain ⟨b2, off2, z, rfl, hxj, hcx⟩ := (SlAt.of_owns hin.places).int (k := j) (by rw [bplaces_len]; exact hj3)
                          have hz0 : 0 ≤ z ∧ z < 8 * m := by
                            have e : z = bplace xn (8 * m) j := by
                              have := hxj
                              simp [bplaces, hj3] at this
                              exact this.symm
                            rw [e]; exact bplace_range xn (8 * m) j (by omega) (by omega)
                          obtain ⟨q, rfl⟩ : ∃ q : Nat, z = q := ⟨z.toNat, by omega⟩
                          have hq1 : q < 8 * m := by omega
                          have hq : q / 8 < m := by omega
                          have hq2 : (q : Int) / 8 < m := by omega
                          obtain ⟨y, hy2⟩ : ∃ y, (orBits bs (bplaces xn (8 * ↑m) j))[q / 8]? = some y := by
                            have hlen := hin.want.1
                            simp [u8s] at hlen
                            exact ⟨_, List.getElem?_eq_getElem (by rw [hlen]; exact hq)⟩
                          have hcy := hin.want.cellAt (q / 8) (by omega)
                          have hfy := hin.want.frozenAt (q / 8)
                          rw [u8s, List.getElem?_map, hy2] at hcy
                          simp only [Option.map_some] at hcy
                          have HJ := Lib.hid (And.intro hin (And.intro hxj hy2))
                          clear hin hxj hy2
                          go_wp2_with fail
                          go_region
                          go_wp2
                          clear hcx hcy hfy
                          go_roundw
                          case rel => exact ⟨j + 1, by omega, by go_num, HJ.out.1.step hj3 HJ.out.2.1 HJ.out.2.2⟩
                          case measure => simp [intOf]; omega
                        · obtain rfl : j = 3 := by omega
                          have HJ := Lib.hid hin
                          clear hin
                          go_wp2_with fail
                          go_roundw
                          case rel => exact ⟨k + 1, hlt, by go_num, lp_good HR.out.2.1 HR.out.2.2.1 HR.out.1 HX.out rfl hm1 hm2 HXB.out.1 HXB.out.2 HJ.out⟩
                          case measure => simp [intOf]; omega
                  · obtain rfl : k = l.length := by omega
                    have HE := Lib.hid (lp_end hB hz hall rfl hm1 hown)
                    clear hB hz hall hown
                    go_wp2_with fail
                    go_meet
                    exact HE.out
                · have hez : (mkE n l == 0) = false := by simpa using hne
                  have HE := Lib.hid (lp_end2 (l := l) (n := n) hB hne)
                  clear hne hB
                  by_cases hlt : k < l.length
                  all_goals
                    go_wp2_with fail
                    go_meet
                    exact HE.out
            case rest =>
              obtain ⟨A6, c6, rfl, rfl, hA6, hB6⟩ := hcut
              have H8 := Lib.hid (And.intro hA6 hB6)
              clear hA6 hB6 HW H3 H4 H5 HP HB1 HB0
              go_upto_region 35 with (first
                | (go_at_call 14
                   (with_reducible refine (make_like _ _ _ _ _ (HA.out.1.below H8.out.2.below)).mono ?_)
                   rintro e w9 ⟨A7, c7, ev2, rfl, hev, hA7, hb9⟩
                   have H9 := Lib.hid (And.intro hev (And.intro hA7 (And.intro (H8.out.1.below hb9) (H8.out.2.new hb9))))
                   clear hev hA7 hb9)
                | (go_at_call 7
                   (with_reducible refine (error_like _ _ _ H9.out.1 (HA.out.2.2.2.below H9.out.2.2.2.below)).mono ?_)
                   rintro e w10 ⟨rfl, hb10⟩
                   have H10 := Lib.hid (And.intro (H9.out.2.1.below hb10) (And.intro (H9.out.2.2.1.below hb10) (H9.out.2.2.2.new hb10)))
                   clear hb10))
              have hc1 := conv_bytes w10 A7 c7 (mkL n l) H10.out.1
              have hc2 := conv_bytes w10 A6 c6 (mkL n l) H10.out.2.1
              obtain ⟨X, hX⟩ : ∃ X, X = strOfNums (mkL n l) := ⟨_, rfl⟩
              rw [← hX] at hc1 hc2
              have a0 : w10.cell? ⟨w.heap.size, 0, none⟩ = some (.int .i64 r.1) := H10.out.2.2.blk.cell 0
              have a1 : w10.cell? ⟨w.heap.size, 1, none⟩ = some (.int .i64 r.2) := H10.out.2.2.blk.cell 1
              clear hX
              go_upto_region 40 with (go_at_call 10; (with_reducible refine (refR_any _ _ _).mono ?_); rintro e w11 ⟨rfl, hb11⟩; have H11 := Lib.hid (H10.out.2.2.new hb11); clear hb11 hc1 hc2 a0 a1)
              go_cut [154] from 147 to 154 (fun s154 wx => s154 = .bool (offB b) ∧ w11 = wx)
              case first =>
                by_cases k0 : b.length = 0
                · have k1 : ((b.length : Int) == 0) = true := by simp [k0]
                  have K := Lib.hid k0
                  clear k0
                  go_wp2_with fail
                  go_meet
                  exact ⟨by rw [offB, decide_eq_true (.inl K.out)], rfl⟩
                · have k1 : ((b.length : Int) == 0) = false := by simpa using k0
                  by_cases k5 : 512 < b.length
                  · have k6 : decide (512 < (b.length : Int)) = true := by simp; omega
                    have K := Lib.hid k5
                    clear k0 k5
                    go_wp2_with fail
                    go_meet
                    exact ⟨by rw [offB, decide_eq_true (.inr K.out)], rfl⟩
                  · have k6 : decide (512 < (b.length : Int)) = false := by simp; omega
                    have K := Lib.hid (show ¬ (b.length = 0 ∨ 512 < b.length) by omega)
                    clear k0 k5
                    go_wp2_with fail
                    go_meet
                    exact ⟨by rw [offB, decide_eq_false K.out], rfl⟩
              case rest =>
                obtain ⟨rfl, rfl⟩ := hcut
                go_upto_if 154 with (fail)
                have a0 : w11.cell? ⟨w.heap.size, 0, none⟩ = some (.int .i64 r.1) := H11.out.blk.cell 0
                have a1 : w11.cell? ⟨w.heap.size, 1, none⟩ = some (.int .i64 r.2) := H11.out.blk.cell 1
                go_cut [10, 146, 154, 11, 22, 12, 23] from 155 to 186 (fun s10 s146 s154 s11 s22 s12 s23 wx => s11 = .int .i64 (hsE b r) ∧ s22 = .bool (hsB b r) ∧ Bs w wx r)
                case first =>
                  cases k4 : offB b with
                  | true =>
                    have K := Lib.hid (hs_three (r := r) (of_decide_eq_true k4))
                    clear k4
                    go_wp2_with fail
                    go_meet
                    exact ⟨by rw [K.out.1], by rw [K.out.2], H11.out⟩
                  | false =>
                    have k3 : ¬ (b.length = 0 ∨ 512 < b.length) := of_decide_eq_false k4
                    clear k4
                    cases hr : refB r.1 r.2 with
                    | false =>
                      have K := Lib.hid (hs_one k3 hr)
                      clear k3 hr
                      go_wp2_with fail
                      go_meet
                      exact ⟨by rw [K.out.1], by rw [K.out.2], H11.out⟩
                    | true =>
                      have hb1 : 1 ≤ b.length := by omega
                      have hb2 : b.length ≤ 512 := by omega
                      have K := Lib.hid (And.intro (hs_zero k3 hr) hr)
                      have HM := Lib.hid (show manyB (8 * (b.length : Int)) = true by simp [manyB]; omega)
                      clear k3 hr
                      go_wp2_with (go_at_call 11; (with_reducible refine (placesR_ok r _ K.out.2 HM.out _).mono ?_); rintro e w12 ⟨A8, c8, rfl, hA8, hb12⟩; have H12 := Lib.hid (And.intro (SlAt.of_owns hA8) (H11.out.new hb12)); clear hA8 hb12 a0 a1)
                      obtain ⟨xn, hxn⟩ : ∃ z, z = r.1 * 1000003 + r.2 := ⟨_, rfl⟩
                      rw [← hxn] at H12 K
                      clear hxn
                      go_loopw [23, 22] (fun i s wr => ∃ j : Nat, j ≤ 3 ∧ i = .int .i64 j ∧ s = .bool (hasBits b (bplaces xn (8 * b.length) j)) ∧ SlAt wr A8 (ints (bplaces xn (8 * b.length) 3)) ∧ Bs w wr r) (fun i _ _ => 3 - (intOf i).toNat)
                      case atStart => exact ⟨0, by omega, rfl, rfl, H12.out⟩
                      case round =>
                        obtain ⟨j, hj, rfl, rfl, hA8, hBr⟩ := hrel
                        by_cases hj3 : j < 3
                        · obtain ⟨b2, off2, z, rfl, hxj, hcx⟩ := hA8.int (k := j) (by rw [bplaces_len]; exact hj3)
                          have e : z = bplace xn (8 * b.length) j := by
                            have := hxj
                            simp [bplaces, hj3] at this
                            exact this.symm
                          have hz0 : 0 ≤ z ∧ z < 8 * b.length := by rw [e]; exact bplace_range xn (8 * b.length) j (by omega) (by omega)
                          obtain ⟨q, rfl⟩ : ∃ q : Nat, z = q := ⟨z.toNat, by omega⟩
                          have hq1 : q < 8 * b.length := by omega
                          have hq : q / 8 < b.length := by omega
                          have hq2 : (q : Int) / 8 < b.length := by omega
                          obtain ⟨y, hy2⟩ : ∃ y, b[q / 8]? = some y := ⟨_, List.getElem?_eq_getElem hq⟩
                          obtain ⟨b3, off3, rfl, hcy⟩ := (HA.out.2.1.below hBr.below).at_ (j := q / 8) (u := .int .u8 y) (by simp [u8s, hy2])
                          have HJ := Lib.hid (And.intro hA8 (And.intro hBr (has_step (HA.out.2.2.1 y (List.mem_of_getElem? hy2)) hy2 e)))
                          clear e hA8 hBr hxj hy2 hz0
                          have hq3 : (q : Int).tdiv 8 = ((q / 8 : Nat) : Int) := by rw [Int.tdiv_eq_ediv_of_nonneg (by omega)]; omega
                          have hq4 : (q : Int).tmod 8 = ((q % 8 : Nat) : Int) := by rw [Int.tmod_eq_emod_of_nonneg (by omega)]; omega
                          go_wp2_with fail
                          have hq5 : 0 ≤ ((q / 8 : Nat) : Int) := by omega
                          have hq6 : ((q / 8 : Nat) : Int) < b.length := by omega
                          have hq7 : (((q / 8 : Nat) : Int)).toNat = q / 8 := by omega
                          have hq8 : (((q % 8 : Nat) : Int)).toNat = q % 8 := by omega
                          obtain ⟨st, hst⟩ : ∃ st, hasBits b (bplaces xn (8 * b.length) j) = st := ⟨_, rfl⟩
                          rw [hst] at HJ ⊢
                          clear hst
                          cases st with
                          | false =>
                            go_quiet (fail)
                            go_wp2
                            go_roundw
                            case rel => exact ⟨j + 1, by omega, by go_num, by rw [HJ.out.2.2]; rfl, HJ.out.1.below (below_drewN (Below.refl _ _) _), HJ.out.2.1.new (below_drewN (Below.refl _ _) _)⟩
                            case measure => simp [intOf]; omega
                          | true =>
                            go_quiet (fail)
                            go_wp2
                            go_roundw
                            case rel => exact ⟨j + 1, by omega, by go_num, by rw [HJ.out.2.2]; rfl, HJ.out.1.below (below_drewN (Below.refl _ _) _), HJ.out.2.1.new (below_drewN (Below.refl _ _) _)⟩
                            case measure => simp [intOf]; omega
                        · obtain rfl : j = 3 := by omega
                          have HJ := Lib.hid hBr
                          clear hBr hA8
                          go_wp2_with fail
                          go_meet
                          exact ⟨by rw [K.out.1.1], by rw [K.out.1.2], HJ.out⟩
                case rest =>
                  obtain ⟨rfl, rfl, hBz⟩ := hcut
                  have H13 := Lib.hid hBz
                  have a0 : wc.cell? ⟨w.heap.size, 0, none⟩ = some (.int .i64 r.1) := H13.out.blk.cell 0
                  have a1 : wc.cell? ⟨w.heap.size, 1, none⟩ = some (.int .i64 r.2) := H13.out.blk.cell 1
                  clear hBz
                  go_wp2_with (first
                    | (go_at_call 15
                       (with_reducible refine (has_like _ _ _ r _ (HA.out.2.1.below H13.out.below)).mono ?_)
                       rintro e w14 ⟨ev3, rfl, hev, hb14⟩
                       have H14 := Lib.hid (And.intro hev (H13.out.new hb14))
                       clear hev hb14 a0 a1)
                    | (go_at_call 7
                       (with_reducible refine (error_like _ _ _ H14.out.1 (HA.out.2.2.2.below H14.out.2.below)).mono ?_)
                       rintro e w15 ⟨rfl, hb15⟩
                       have H15 := Lib.hid (H14.out.2.new hb15)
                       clear hb15))
                  go_ret
                  exact ⟨rfl, H15.out.below⟩
end Go.Proofs.YtfnigdbnkdofiaaDoor
