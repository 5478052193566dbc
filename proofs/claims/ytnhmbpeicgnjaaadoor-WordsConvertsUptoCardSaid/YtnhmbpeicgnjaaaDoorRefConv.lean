/- bookref4.Size, Convert, wordly, Breaks: contracts. -/
import Derived.Test.YtnhmbpeicgnjaaaDoorRefRunesWalk
namespace Go.Proofs.YtnhmbpeicgnjaaaDoor
open Go.RowKit
open Go.Lib (validD decodeL runeLen)
set_option linter.unusedVariables false
set_option linter.unusedSimpArgs false

set_option maxRecDepth 100000 in
theorem refSize_any (c : Nat) (hc : GoodRune c) (k : Int) (w : World) : Calls Tryd.prog 49 #[.int .i64 c, .int .i64 k] w fun e w' => e = .returned (.int .i64 (sz c k)) ∧ w = w' := by
  have HC := Lib.hid hc; clear hc
  by_cases h1 : k = 1
  · subst h1
    by_cases a1 : (c : Int) < 128
    · go_enter Tryd.func49, Tryd.ntmps49
      go_wp2
      go_ret
      have hc := HC.out
      unfold GoodRune at hc
      refine ⟨?_, rfl⟩
      have : sz c 1 = 1 := by simp [sz, runeLen]; repeat' split <;> omega
      rw [this]; rfl
    · by_cases a2 : (c : Int) < 2048
      · go_enter Tryd.func49, Tryd.ntmps49
        go_wp2
        go_ret
        have hc := HC.out
        unfold GoodRune at hc
        refine ⟨?_, rfl⟩
        have : sz c 1 = 2 := by simp [sz, runeLen]; repeat' split <;> omega
        rw [this]; rfl
      · by_cases a3 : (c : Int) < 65536
        · go_enter Tryd.func49, Tryd.ntmps49
          go_wp2
          go_ret
          have hc := HC.out
          unfold GoodRune at hc
          refine ⟨?_, rfl⟩
          have : sz c 1 = 3 := by simp [sz, runeLen]; repeat' split <;> omega
          rw [this]; rfl
        · go_enter Tryd.func49, Tryd.ntmps49
          go_wp2
          go_ret
          have hc := HC.out
          unfold GoodRune at hc
          refine ⟨?_, rfl⟩
          have : sz c 1 = 4 := by simp [sz, runeLen]; repeat' split <;> omega
          rw [this]; rfl
  · have hb : (k == 1) = false := by simpa using h1
    by_cases h3 : k = 3
    · subst h3
      by_cases hd : (65536 : Int) ≤ c
      · go_enter Tryd.func49, Tryd.ntmps49
        go_wp2
        go_ret
        exact ⟨by simp [sz]; omega, rfl⟩
      · go_enter Tryd.func49, Tryd.ntmps49
        go_wp2
        go_ret
        exact ⟨by simp [sz]; omega, rfl⟩
    · have hb3 : (k == 3) = false := by simpa using h3
      go_enter Tryd.func49, Tryd.ntmps49
      go_wp2
      go_ret
      exact ⟨by simp [sz, h1, h3], rfl⟩

/-- What the reference's Convert tells: the place and the fault. -/
def refL (at_ f t : Int) : List Nat → Int → Int → Int × Int
  | [], x, y => if x = at_ then (y, 0) else (0, 1)
  | c :: l, x, y => if x = at_ then (y, 0) else refL at_ f t l (x + sz c f) (y + sz c t)

/-- It is what Convert tells. -/
theorem ref_past (at_ f t : Int) : ∀ (l : List Nat), (∀ c ∈ l, GoodRune c) → ∀ x y : Int, at_ < x → refL at_ f t l x y = (0, 1)
  | [], _, x, y, h => by rw [refL, if_neg (by omega)]
  | c :: l, hg, x, y, h => by
    have := sz_good (hg c (by simp)) f
    rw [refL, if_neg (by omega), ref_past at_ f t l (fun c hc => hg c (by simp [hc])) _ _ (by omega)]
theorem ref_conv (at_ f t : Int) : ∀ (l : List Nat), (∀ c ∈ l, GoodRune c) → ∀ x y : Int, refL at_ f t l x y = if (convL at_ f t l x y).1 = at_ then ((convL at_ f t l x y).2, 0) else (0, 1)
  | [], _, x, y => by rw [refL, convL]
  | c :: l, hg, x, y => by
    rw [refL, convL]
    by_cases h : x = at_
    · rw [if_pos h, if_pos (show at_ ≤ x by omega), if_pos h]
    · rw [if_neg h]
      by_cases h2 : at_ ≤ x
      · rw [if_pos h2, if_neg h]
        have := sz_good (hg c (by simp)) f
        exact ref_past at_ f t l (fun c hc => hg c (by simp [hc])) _ _ (by omega)
      · rw [if_neg h2, ref_conv at_ f t l (fun c hc => hg c (by simp [hc]))]

/-- The whole of the reference's Convert. -/
def refConv (s : ByteArray) (at_ f t : Int) : Int × Int :=
  if ValidFrom s 0 = true then (if f < 1 ∨ 3 < f ∨ t < 1 ∨ 3 < t then (0, 1) else refL at_ f t (restD s 0) 0 0) else (0, 2)

theorem natInts_at {l : List Nat} {k : Nat} (hk : k < l.length) : (natInts l)[k]? = some (l[k] : Int) := by simp [natInts, hk]
theorem restD_len (s : ByteArray) : (restD s 0).length ≤ s.size := by
  have := runesD_len s.data.toList.length s.data.toList
  rw [Lib.size_eq]
  simpa [restD, runesD] using this

set_option maxRecDepth 100000 in
set_option maxHeartbeats 1000000 in
theorem refConvert_any (s : ByteArray) (at_ f t : Int) (w : World) (hs : s.size ≤ 1048576) :
    Calls Tryd.prog 18 #[.string s, .int .i64 at_, .int .i64 f, .int .i64 t] w fun e w' => e = .returned (.tuple #[.int .i64 (refConv s at_ f t).1, .int .i64 (refConv s at_ f t).2]) ∧ Below w.heap.size w w' := by
  have hall : ValidFrom s 0 = true → (1 ≤ f ∧ f ≤ 3 ∧ 1 ≤ t ∧ t ≤ 3) → refConv s at_ f t = refL at_ f t (restD s 0) 0 0 := by
    intro h1 h2
    rw [refConv, if_pos h1, if_neg (by omega)]
  have hrange : ValidFrom s 0 = true → ¬ (1 ≤ f ∧ f ≤ 3 ∧ 1 ≤ t ∧ t ≤ 3) → refConv s at_ f t = (0, 1) := by
    intro h1 h2
    rw [refConv, if_pos h1, if_pos (by omega)]
  have hbad : ValidFrom s 0 = false → refConv s at_ f t = (0, 2) := by
    intro h1
    rw [refConv, if_neg (by simp [h1])]
  obtain ⟨res, hres⟩ : ∃ r, refConv s at_ f t = r := ⟨_, rfl⟩
  rw [hres] at hall hrange hbad ⊢
  have HA := Lib.hid hall; have HR := Lib.hid hrange; have HB := Lib.hid hbad
  clear hall hrange hbad hres
  have hg := runes_good s s.size 0 (by omega)
  have hlen := restD_len s
  obtain ⟨l, hl⟩ : ∃ l, restD s 0 = l := ⟨_, rfl⟩
  rw [hl] at hg hlen
  have HG := Lib.hid hg; have HL := Lib.hid hl; clear hg hl
  go_enter Tryd.func18, Tryd.ntmps18
  go_wp2_with fail
  refine (refRunes_any s _ hs).mono ?_
  rintro e w1 (⟨hv, A, c, rfl, hA, hb⟩ | ⟨hv, rfl, hb⟩)
  · rw [HL.out] at hA ⊢
    have hnl : l.length = (natInts l).length := by simp [natInts]
    have HV := Lib.hid hv; clear hv
    by_cases r1 : f < 1
    · have hr := HR.out HV.out (by omega)
      subst hr
      clear HA HB HR
      go_wp2_with fail
      go_ret2
      exact ⟨rfl, hb⟩
    · by_cases r2 : 3 < f
      · have hr := HR.out HV.out (by omega)
        subst hr
        clear HA HB HR
        go_wp2_with fail
        go_ret2
        exact ⟨rfl, hb⟩
      · by_cases r3 : t < 1
        · have hr := HR.out HV.out (by omega)
          subst hr
          clear HA HB HR
          go_wp2_with fail
          go_ret2
          exact ⟨rfl, hb⟩
        · by_cases r4 : 3 < t
          · have hr := HR.out HV.out (by omega)
            subst hr
            clear HA HB HR
            go_wp2_with fail
            go_ret2
            exact ⟨rfl, hb⟩
          · have hr := HA.out HV.out (by omega)
            rw [HL.out] at hr
            have HX := Lib.hid hr
            clear hr HA HB HR hnl
            have d1 : decide (f < 1) = false := by simpa using r1
            have d2 : decide (3 < f) = false := by simpa using r2
            have d3 : decide (t < 1) = false := by simpa using r3
            have d4 : decide (3 < t) = false := by simpa using r4
            clear r1 r2 r3 r4
            go_wp2_with fail
            go_loopw [12, 13, 14] (fun x y i wr => ∃ (k : Nat) (a b : Int), k ≤ l.length + 1 ∧ wr = w1 ∧ i = .int .i64 k ∧ x = .int .i64 a ∧ y = .int .i64 b ∧ 0 ≤ a ∧ a ≤ 4 * k ∧ 0 ≤ b ∧ b ≤ 4 * k ∧
                res = (if k ≤ l.length then refL at_ f t (l.drop k) a b else (0, 1)))
              (fun _ _ i _ => l.length + 1 - (intOf i).toNat)
            case atStart => exact ⟨0, 0, 0, by omega, rfl, rfl, rfl, rfl, by omega, by omega, by omega, by omega, by simpa using HX.out⟩
            case round =>
              obtain ⟨k, a, b, hk, rfl, rfl, rfl, rfl, ha1, ha2, hb1, hb2, hc⟩ := hrel
              by_cases hkl : k ≤ l.length
              · rw [if_pos hkl] at hc
                by_cases hat : a = at_
                · have hatb : (a == at_) = true := by simpa using hat
                  have hfin : res = (b, 0) := by
                    rw [hc]
                    cases l.drop k <;> simp [refL, hat]
                  subst hfin
                  clear hc hat HX
                  go_wp2_with fail
                  go_ret2
                  exact ⟨rfl, hb⟩
                · have hatb : (a == at_) = false := by simpa using hat
                  by_cases hlt : k < l.length
                  · obtain ⟨bb, oo, x, rfl, hx, hcx⟩ := hA.int (k := k) (by simpa [natInts] using hlt)
                    rw [natInts_at hlt] at hx
                    injection hx with hx
                    subst hx
                    have hgk := HG.out _ (List.getElem_mem hlt)
                    have hz1 := sz_good hgk f
                    have hz2 := sz_good hgk t
                    obtain ⟨hz1a, hz1b⟩ := hz1
                    obtain ⟨hz2a, hz2b⟩ := hz2
                    rw [List.drop_eq_getElem_cons hlt, refL, if_neg hat] at hc
                    obtain ⟨ck, hck⟩ : ∃ ck, l[k] = ck := ⟨_, rfl⟩
                    rw [hck] at hcx hgk hz1a hz1b hz2a hz2b hc
                    have HC := Lib.hid hc; have HGK := Lib.hid hgk; clear hc hgk hck hat HX
                    have hlti : (k : Int) < (l.length : Int) := by omega
                    go_wp2_with (go_at_call 49; refine (refSize_any _ HGK.out _ _).mono ?_; rintro e w' ⟨rfl, rfl⟩)
                    go_roundw
                    case rel => exact ⟨k + 1, _, _, by omega, trivial, by go_num, rfl, rfl, by omega, by omega, by omega, by omega, by rw [if_pos (by omega)]; exact HC.out⟩
                    case measure => simp [intOf]; omega
                  · obtain rfl : k = l.length := by omega
                    rw [List.drop_length, refL, if_neg hat] at hc
                    have HC := Lib.hid hc; clear hc hat HX
                    go_wp2_with fail
                    go_roundw
                    case rel => exact ⟨l.length + 1, a, b, by omega, trivial, by go_num, rfl, rfl, by omega, by omega, by omega, by omega, by rw [if_neg (by omega)]; exact HC.out⟩
                    case measure => simp [intOf] <;> omega
              · rw [if_neg hkl] at hc
                subst hc
                clear HX
                go_wp2_with fail
                go_ret2
                exact ⟨rfl, hb⟩
  · have hr := HB.out hv
    subst hr
    clear HA HB HR hv
    go_wp2_with fail
    go_ret2
    exact ⟨rfl, hb⟩

/-- Is the rune at i part of a word? -/
def wlAt (l : List Nat) (i : Int) : Bool := decide (0 ≤ i) && (match l[i.toNat]? with | some c => wordB c | none => false)
theorem wlAt_lt {l : List Nat} {k : Nat} (hk : k < l.length) : wlAt l k = wordB l[k] := by simp [wlAt, hk]
theorem wlAt_ge {l : List Nat} {k : Nat} (hk : l.length ≤ k) : wlAt l k = false := by simp [wlAt, hk]
theorem wlAt_neg {l : List Nat} {i : Int} (hk : i < 0) : wlAt l i = false := by simp [wlAt]; omega

set_option maxRecDepth 100000 in
set_option maxHeartbeats 1000000 in
theorem refWordly_any (A : Option Addr) (c : Nat) (l : List Nat) (i : Int) (w : World) (hA : SlAt w A (ints (natInts l))) (hl : l.length ≤ 1048576) :
    Calls Tryd.prog 50 #[.slice A l.length c, .int .i64 i] w fun e w' => e = .returned (.bool (wlAt l i)) ∧ w = w' := by
  by_cases h0 : i < 0
  · have hr := wlAt_neg (l := l) h0
    rw [hr]; clear hr
    go_enter Tryd.func50, Tryd.ntmps50
    go_wp2_with fail
    go_ret
    exact ⟨rfl, rfl⟩
  · obtain ⟨k, rfl⟩ : ∃ k : Nat, i = k := ⟨i.toNat, by omega⟩
    by_cases hk : k < l.length
    · rw [wlAt_lt hk]
      obtain ⟨bb, oo, x, rfl, hx, hcx⟩ := hA.int (k := k) (by simpa [natInts] using hk)
      rw [natInts_at hk] at hx
      injection hx with hx
      subst hx
      obtain ⟨ck, hck⟩ : ∃ ck, l[k] = ck := ⟨_, rfl⟩
      rw [hck] at hcx ⊢
      clear hck
      have hki : (k : Int) < (l.length : Int) := by omega
      by_cases h1 : (97 : Int) ≤ ck <;> by_cases h2 : (ck : Int) ≤ 122 <;> by_cases h3 : (65 : Int) ≤ ck <;> by_cases h4 : (ck : Int) ≤ 90 <;> by_cases h5 : (48 : Int) ≤ ck <;> by_cases h6 : (ck : Int) ≤ 57 <;> by_cases h7 : (128 : Int) ≤ ck
      all_goals first | (exfalso; omega) | skip
      all_goals
        go_enter Tryd.func50, Tryd.ntmps50
        go_wp2_with fail
        go_ret
        refine ⟨?_, rfl⟩
        first
          | (rw [show wordB ck = true from by simp [wordB]; omega]; rfl)
          | (rw [show wordB ck = false from by simp [wordB]; omega]; rfl)
    · rw [wlAt_ge (by omega)]
      have hki : (l.length : Int) ≤ (k : Int) := by omega
      go_enter Tryd.func50, Tryd.ntmps50
      go_wp2_with fail
      go_ret
      exact ⟨rfl, rfl⟩
end Go.Proofs.YtnhmbpeicgnjaaaDoor
