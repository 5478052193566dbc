/- NumSet, IdPlain. -/
import Derived.Test.YtpeckpiidgkgoaaGreatDoorPg21
import Derived.Test.YtpeckpiidgkgoaaGreatDoorPg23
import Derived.Test.YtpeckpiidgkgoaaGreatDoorPg24
import Derived.Test.YtpeckpiidgkgoaaGreatDoorPg19
import Derived.Test.YtpeckpiidgkgoaaGreatDoorPg7
import Derived.Deep.DeepCutAuto
import Derived.Deep.CutBlock
import Derived.Lib.ItoaNum
import Derived.Lib.ItoaMem
import Derived.Lib.Atoi
import Derived.Lib.IndexMore
import Derived.Lib.SlTrimSet
/- commonbookbig.SetString in base ten, of a text of digits and signs: the contract. -/
namespace Go.Proofs.YtpeckpiidgkgoaaGreatDoor
open Go.RowKit
set_option linter.unusedVariables false
set_option linter.unusedSimpArgs false

/-- What SetString answers. -/
def SetQ (g : Nat) (l : List Nat) (w : World) (e : Ending) (w' : World) : Prop :=
  (match bigS l with
   | some x => e = .returned (.tuple #[.pointer (some ⟨g, 0, none⟩), .bool true]) ∧ IsI w' g x
   | none => e = .returned (.tuple #[.pointer none, .bool false])) ∧ Only (fun k => k = g) w w'
theorem SetQ.ok {g : Nat} {l : List Nat} {w w' : World} {x : Int} (h : bigS l = some x) (hi : IsI w' g x) (ho : Only (fun k => k = g) w w') : SetQ g l w (.returned (.tuple #[.pointer (some ⟨g, 0, none⟩), .bool true])) w' := by
  unfold SetQ
  rw [h]
  exact ⟨⟨rfl, hi⟩, ho⟩
theorem SetQ.no {g : Nat} {l : List Nat} {w w' : World} (h : bigS l = none) (ho : Only (fun k => k = g) w w') : SetQ g l w (.returned (.tuple #[.pointer none, .bool false])) w' := by
  unfold SetQ
  rw [h]
  exact ⟨rfl, ho⟩
def SgQ (s : ByteArray) (a b : Value) : Prop := ∃ r : ByteArray, a = .string r ∧ b = .bool (negL (toN s)) ∧ toN r = bodL (toN s)
/-- What the loop holds. -/
def SetI (w : World) (r : ByteArray) (i : Nat) (v : Value) (wr : World) : Prop := NW wr v (decF 0 ((toN r).take i)) ∧ Below w.heap.size w wr ∧ ∀ c ∈ (toN r).take i, isDig c = true
theorem take_snoc {r : ByteArray} {i c : Nat} (hi : i < r.size) (hc : (toN r)[i]? = some c) : (toN r).take (i + 1) = (toN r).take i ++ [c] := by
  rw [List.take_add_one, hc]
  rfl
set_option maxRecDepth 100000 in
set_option maxHeartbeats 4000000 in
theorem setstring_any (w : World) (g : Nat) (s : ByteArray) (hs : s.size ≤ 60000) (hn : ∀ c ∈ toN s, isNumC c = true) (h : Blk w g 59 #[.bool false, .slice none 0 0]) :
    Calls Tryz.prog 17 #[.pointer (some ⟨g, 0, none⟩), .string s, .int .i64 10] w (SetQ g (toN s) w) := by
  have HG := Lib.hid h
  have HN := Lib.hid hn
  have HL := Lib.hid (toN_len s)
  clear h hn
  by_cases h0 : s.size = 0
  · have he : s = ⟨#[]⟩ := by
      cases s with
      | mk d => rw [Array.eq_empty_of_size_eq_zero h0]
    subst he
    clear h0 hs
    go_enter Tryz.func17, Tryz.ntmps17
    go_wp2_with fail
    go_ret2
    exact SetQ.no rfl (Only.refl _ _)
  have h0' : 0 < s.size := by omega
  have hem : s.toList.isEmpty = false := by
    rw [ByteArray.toList_eq]
    cases hd : s.data.toList with
    | nil => exact absurd (by have := congrArg List.length hd; simpa using this) h0
    | cons c l => rfl
  have hem2 : ¬ s.toList = [] := by intro e; rw [e] at hem; cases hem
  have hat := toN_at h0'
  obtain ⟨n0, hn0⟩ : ∃ n0, (s[0]'h0').toNat = n0 := ⟨_, rfl⟩
  rw [hn0] at hat
  have hcell0 : ∀ h, ((s[0]'h).toNat : Int) = (n0 : Int) := by intro h; rw [hn0]
  have hnum := HN.out n0 (List.mem_of_getElem? hat)
  have hneg : negL (toN s) = (n0 == 45) := by
    cases hl : toN s with
    | nil => rw [hl] at hat; cases hat
    | cons c l => rw [hl] at hat; cases hat; rfl
  have h43 : ((n0 : Int) == 43) = false := by
    rw [beq_eq_false_iff_ne]
    unfold isNumC at hnum
    simp only [Bool.or_eq_true, beq_iff_eq, Bool.and_eq_true, decide_eq_true_eq] at hnum
    omega
  have HNG := Lib.hid hneg
  have hs1 : (1 : Int) ≤ (s.size : Int) := by omega
  have hs2 : (0 : Int) < (s.size : Int) := by omega
  clear hat hneg hnum hn0 h0
  go_enter Tryz.func17, Tryz.ntmps17
  go_upto_region 2 with (fail)
  go_cut [25] from 13 to 24 (fun s25 wx => s25 = .bool (n0 == 45) ∧ w = wx)
  case first =>
    by_cases h1 : n0 = 45
    · subst h1
      go_wp2_with fail
      go_meet
      exact ⟨rfl, rfl⟩
    · have h1i : ((n0 : Int) == 45) = false := by rw [beq_eq_false_iff_ne]; omega
      have hb : (n0 == 45) = false := by simpa using h1
      have HB := Lib.hid hb
      clear hb h1
      go_wp2_with fail
      go_meet
      exact ⟨by rw [HB.out], rfl⟩
  case rest =>
  obtain ⟨rfl, rfl⟩ := hcut
  go_upto_if 25 with (fail)
  go_cut [1, 8] from 26 to 30 (fun s1 s8 wx => SgQ s s1 s8 ∧ w = wx)
  case first =>
    by_cases h1 : n0 = 45
    · subst h1
      have hB : bodL (toN s) = toN (s.extract 1 s.size) := by
        unfold bodL
        rw [HNG.out, toN_extract]
        rfl
      have HB := Lib.hid hB
      clear hB
      go_wp2_with fail
      go_meet
      exact ⟨⟨_, rfl, by rw [HNG.out]; rfl, HB.out.symm⟩, rfl⟩
    · have hb : (n0 == 45) = false := by simpa using h1
      have hB : negL (toN s) = false := by rw [HNG.out]; exact hb
      have HB := Lib.hid hB
      clear hB h1
      go_wp2_with fail
      go_meet
      exact ⟨⟨_, rfl, by rw [HB.out], by unfold bodL; rw [HB.out]; rfl⟩, rfl⟩
  case rest =>
    obtain ⟨⟨r, rfl, rfl, hr⟩, rfl⟩ := hcut
    have hrn : ∀ c ∈ toN r, isNumC c = true := by
      intro c hc
      apply HN.out
      rw [hr] at hc
      unfold bodL at hc
      split at hc
      · exact List.mem_of_mem_drop hc
      · exact hc
    have hrs : r.size ≤ 60000 := by
      have h1 := congrArg List.length hr
      have h2 : (bodL (toN s)).length ≤ (toN s).length := by
        unfold bodL
        split
        · rw [List.length_drop]; omega
        · exact Nat.le_refl _
      rw [toN_len] at h1
      rw [toN_len] at h2
      omega
    have HM := Lib.hid hr
    have HRN := Lib.hid hrn
    obtain ⟨neg, hneg⟩ : ∃ neg, negL (toN s) = neg := ⟨_, rfl⟩
    rw [hneg]
    have HNEG := Lib.hid hneg
    clear hr hrn hneg hcell0 hem hem2 h43 HNG hs1 hs2 h0' HN HL hs
    by_cases hr0 : r.size = 0
    · have he : r = ⟨#[]⟩ := by
        cases r with
        | mk d => rw [Array.eq_empty_of_size_eq_zero hr0]
      subst he
      have HB := Lib.hid (bigS_none (l := toN s) (by rw [← HM.out]; rfl))
      clear hr0 hrs
      go_wp2_with fail
      go_ret2
      exact SetQ.no HB.out (Only.refl _ _)
    have hr1 : 0 < r.size := by omega
    have hem : r.toList.isEmpty = false := by
      rw [ByteArray.toList_eq]
      cases hd : r.data.toList with
      | nil => exact absurd (by have := congrArg List.length hd; simpa using this) hr0
      | cons c l => rfl
    have hem2 : ¬ r.toList = [] := by intro e; rw [e] at hem; cases hem
    have hr2 : (((r.size : Nat) : Int) == 0) = false := by rw [beq_eq_false_iff_ne]; omega
    have HR1 := Lib.hid hr1
    clear hr0
    obtain ⟨K, hK, hpow⟩ := pow_room
    have HK := Lib.hid (And.intro hK hpow)
    clear hK hpow
    go_wp2_with fail
    clear hem hem2 hr2
    go_loopw [9, 10] (fun v m wr => ∃ i : Nat, m = .int .i64 i ∧ i ≤ r.size ∧ SetI w r i v wr) (fun _ m _ => r.size - (intOf m).toNat)
    case atStart => exact ⟨0, rfl, Nat.zero_le _, NW.zero, Below.refl _ _, by intro c hc; simp at hc⟩
    case round =>
      obtain ⟨i, rfl, hi, hN, hB, hD⟩ := hrel
      by_cases hlt : i < r.size
      case neg =>
        have hii : i = r.size := by omega
        subst hii
        have hlt1 : ¬ (r.size : Int) < (r.size : Int) := by omega
        have ht : (toN r).take r.size = toN r := by rw [← toN_len, List.take_length]
        rw [ht] at hN hD
        have hm : magS (bodL (toN s)) = some (decF 0 (toN r)) := by
          rw [← HM.out]
          refine magS_some ?_ hD
          intro e
          have h2 := congrArg List.length e
          rw [toN_len] at h2
          have h3 := HR1.out
          rw [h2] at h3
          exact absurd h3 (by decide)
        have hbig := bigS_some hm
        rw [HNEG.out] at hbig
        have HBIG := Lib.hid hbig
        have HNB := Lib.hid (And.intro hN hB)
        have HGr := Lib.hid (HG.out.below hB HG.out.lt)
        obtain ⟨A, c, l, rfl, hrest⟩ := hN
        clear hrest hbig hm hD ht hB
        go_wp2_with (go_at_call 34; (with_reducible refine (give_any g _ _ neg A l.length c _ HGr.out).mono ?_); rintro e w2 ⟨rfl, hN2, ho2⟩; have HW2 := Lib.hid (And.intro hN2 ho2); clear hN2 ho2)
        go_ret2
        exact SetQ.ok HBIG.out (IsI.made HW2.out.1 (HNB.out.1.other HGr.out HW2.out.2)) ((Only.of_below HNB.out.2).trans HW2.out.2)
      case pos =>
        have hlt1 : (i : Int) < (r.size : Int) := by omega
        have hat := toN_at hlt
        obtain ⟨c, hc⟩ : ∃ c : UInt8, r[i]'hlt = c := ⟨_, rfl⟩
        rw [hc] at hat
        obtain ⟨n, hn⟩ : ∃ n, n = c.toNat := ⟨_, rfl⟩
        rw [← hn] at hat
        have hcell : ∀ h, ((r[i]'h).toNat : Int) = (n : Int) := by intro h; rw [hc, hn]
        have hnum := HRN.out n (List.mem_of_getElem? hat)
        have hst := take_snoc hlt hat
        by_cases hd : isDig n = true
        · have hd2 := hd
          unfold isDig at hd2
          simp only [Bool.and_eq_true, decide_eq_true_eq] at hd2
          obtain ⟨d, hnd⟩ : ∃ d, n = 48 + d := ⟨n - 48, by omega⟩
          have hd9 : d < 10 := by omega
          have hacc := decF_lt i ((toN r).take i) (by rw [List.length_take, toN_len]; omega) hD
          obtain ⟨a, ha⟩ : ∃ a, decF 0 ((toN r).take i) = a := ⟨_, rfl⟩
          rw [ha] at hN hacc
          have hp0 := HK.out.2 i (by omega)
          have hp1 := HK.out.2 1 (by omega)
          have hp2 := HK.out.2 (i + 1) (by omega)
          have hb1 : a < 4294967296 ^ K := Nat.lt_trans hacc hp0
          have hb2 : 10 < 4294967296 ^ K := by simpa using hp1
          have hb3 : a * 10 < 4294967296 ^ K := by
            rw [Nat.pow_succ] at hp2
            omega
          have hb4 : d < 4294967296 ^ K := by omega
          have HX := Lib.hid (And.intro hN (And.intro hB (And.intro hb1 (And.intro hb2 (And.intro hb3 hb4)))))
          have hnext : decF 0 ((toN r).take (i + 1)) = a * 10 + d := by rw [hst, decF_snoc, ha]; omega
          have hdn : ∀ c ∈ (toN r).take (i + 1), isDig c = true := by
            intro x hx
            rw [hst] at hx
            rcases List.mem_append.1 hx with hx | hx
            · exact hD x hx
            · simp only [List.mem_singleton] at hx
              subst hx
              exact hd
          have HNX := Lib.hid (And.intro hnext hdn)
          have HW10 := Lib.hid (fun wx => show Calls Tryz.prog 33 #[.int .u64 10] wx (fun e w' => ∃ v, e = .returned v ∧ NW w' v 10 ∧ Below wx.heap.size wx w') from words_any 10 (by decide) wx)
          have HWd := Lib.hid (fun wx => words_any d (by omega) wx)
          have e1 : (48 : Int) ≤ (n : Int) := by omega
          have e2 : (n : Int) ≤ 57 := by omega
          have e3 : (n : Int) - 48 = (d : Int) := by omega
          have e4 : ¬ (10 : Int) ≤ (d : Int) := by omega
          clear hN hB hb1 hb2 hb3 hb4 hp0 hp1 hp2 hacc ha hnext hdn hst hd hd2 hnum hat hn hc hD hnd
          go_wp2_with (first
            | (go_at_call 33; (with_reducible refine (HW10.out _).mono ?_); rintro e w1 ⟨v1, rfl, k1, k2⟩; have HY1 := Lib.hid (And.intro k1 k2); clear k1 k2)
            | (go_at_call 33; (with_reducible refine (HWd.out _).mono ?_); rintro e w3 ⟨v3, rfl, k1, k2⟩; have HY3 := Lib.hid (And.intro k1 k2); clear k1 k2)
            | (go_at_call 32; (with_reducible refine (mul_gen K HK.out.1 _ _ a 10 _ (HX.out.1.below HY1.out.2) HY1.out.1 HX.out.2.2.1 HX.out.2.2.2.1).mono ?_); rintro e w2 ⟨v2, rfl, k1, k2⟩; have HY2 := Lib.hid (And.intro k1 k2); clear k1 k2)
            | (go_at_call 31; (with_reducible refine (add_gen K HK.out.1 _ _ (a * 10) d _ (HY2.out.1.below HY3.out.2) HY3.out.1 HX.out.2.2.2.2.1 HX.out.2.2.2.2.2).mono ?_); rintro e w4 ⟨v4, rfl, k1, k2⟩; have HY4 := Lib.hid (And.intro k1 k2); clear k1 k2))
          go_roundw
          case rel =>
            refine ⟨i + 1, by go_num, by omega, ?_, ?_, HNX.out.2⟩
            · rw [HNX.out.1]; exact HY4.out.1
            · have b1 := HX.out.2.1
              have b2 := b1.trans (HY1.out.2.mono b1.size)
              have b3 := b2.trans (HY2.out.2.mono b2.size)
              have b4 := b3.trans (HY3.out.2.mono b3.size)
              exact b4.trans (HY4.out.2.mono b4.size)
          case measure => simp only [intOf]; omega
        · have hd0 : isDig n = false := by simpa using hd
          have hn45 : n = 45 := by
            unfold isNumC at hnum
            unfold isDig at hd0
            cases hx : (n == 45) with
            | true => simpa using hx
            | false => rw [hx, Bool.false_or, hd0] at hnum; cases hnum
          subst hn45
          have HB := Lib.hid (bigS_none (l := toN s) (by rw [← HM.out]; exact magS_bad (List.mem_of_getElem? hat) hd0))
          have HO := Lib.hid (Only.of_below (S := fun k => k = g) hB)
          clear hnum hd hd0 hat hst hD hN hB hn hc
          go_wp2_with fail
          go_ret2
          exact SetQ.no HB.out HO.out
end Go.Proofs.YtpeckpiidgkgoaaGreatDoor
/- Names of ids, plain: decimal numerals read back. Over no program. -/
namespace Go.Proofs.YtpeckpiidgkgoaaGreatDoor
open Go.Lib
set_option linter.unusedVariables false
set_option linter.unusedSimpArgs false

theorem u8_of {n : Nat} (h : n < 10) : (UInt8.ofNat (48 + n)).toNat = 48 + n := by
  simp [UInt8.toNat_ofNat']; omega
theorem dd_small {u : Nat} (h : u < 10) : decDigits u = [UInt8.ofNat (48 + u)] := by rw [decDigits, dif_pos h]
theorem dd_big {u : Nat} (h : ¬ u < 10) : decDigits u = decDigits (u / 10) ++ [UInt8.ofNat (48 + u % 10)] := by rw [decDigits, dif_neg h]
/-- Of the digits of a number. -/
theorem dd_ind {P : Nat → List UInt8 → Prop} (h1 : ∀ u, u < 10 → P u [UInt8.ofNat (48 + u)]) (h2 : ∀ u, ¬ u < 10 → P (u / 10) (decDigits (u / 10)) → P u (decDigits (u / 10) ++ [UInt8.ofNat (48 + u % 10)])) : ∀ u, P u (decDigits u) := by
  intro u
  induction u using Nat.strongRecOn with
  | _ u ih =>
    by_cases h : u < 10
    · rw [dd_small h]; exact h1 u h
    · rw [dd_big h]; exact h2 u h (ih (u / 10) (by omega))
theorem dd_digit (u : Nat) : ∀ b ∈ decDigits u, 48 ≤ b.toNat ∧ b.toNat ≤ 57 := by
  refine dd_ind (P := fun u l => ∀ b ∈ l, 48 ≤ b.toNat ∧ b.toNat ≤ 57) ?_ ?_ u
  · intro u h b hb
    rw [List.mem_singleton] at hb
    subst hb
    rw [u8_of h]; omega
  · intro u h ih b hb
    rcases List.mem_append.1 hb with g | g
    · exact ih b g
    · rw [List.mem_singleton] at g
      subst g
      rw [u8_of (Nat.mod_lt u (by omega))]; omega
theorem dd_ne (u : Nat) : decDigits u ≠ [] := by
  refine dd_ind (P := fun u l => l ≠ []) (fun _ _ => by simp) (fun _ _ _ => by simp) u
theorem dd_head (u : Nat) : 1 ≤ u → ∀ b r, decDigits u = b :: r → b.toNat ≠ 48 := by
  refine dd_ind (P := fun u l => 1 ≤ u → ∀ b r, l = b :: r → b.toNat ≠ 48) ?_ ?_ u
  · intro u h h1 b r e
    injection e with e _
    rw [← e, u8_of h]; omega
  · intro u h ih h1 b r e
    cases hd : decDigits (u / 10) with
    | nil => exact absurd hd (dd_ne _)
    | cons c t =>
      rw [hd, List.cons_append] at e
      injection e with e _
      exact ih (by omega) b t (by rw [hd, e])
theorem dd_len : ∀ (k u : Nat), u < 10 ^ (k + 1) → (decDigits u).length ≤ k + 1 := by
  intro k
  induction k with
  | zero => intro u h; rw [dd_small (by simpa using h)]; simp
  | succ k ih =>
    intro u h
    by_cases h1 : u < 10
    · rw [dd_small h1]; simp
    · rw [dd_big h1, List.length_append]
      have := ih (u / 10) (by rw [Nat.pow_succ] at h; omega)
      simp; omega
theorem decFrom_snoc (l : List UInt8) (b : UInt8) : ∀ acc, decFrom acc (l ++ [b]) = (decFrom acc l).bind fun n => (digitVal b).map fun d => n * 10 + d := by
  induction l with
  | nil => intro acc; simp only [List.nil_append, decFrom]; cases digitVal b <;> rfl
  | cons c l ih =>
    intro acc
    simp only [List.cons_append, decFrom]
    cases digitVal c with
    | none => rfl
    | some d => exact ih _
theorem digitVal_of {n : Nat} (h : n < 10) : digitVal (UInt8.ofNat (48 + n)) = some n := by
  unfold digitVal
  rw [u8_of h, if_pos (by omega)]
  congr 1; omega
theorem dd_dec (u : Nat) : decFrom 0 (decDigits u) = some u := by
  refine dd_ind (P := fun u l => decFrom 0 l = some u) ?_ ?_ u
  · intro u h
    show (match digitVal (UInt8.ofNat (48 + u)) with | some d => decFrom (0 * 10 + d) [] | none => none) = some u
    rw [digitVal_of h]
    simp [decFrom]
  · intro u h ih
    rw [decFrom_snoc, ih, digitVal_of (show u % 10 < 10 by omega)]
    simp; omega
theorem dd_atoi (u : Nat) : atoi (decDigits u) = some (u : Int) := by
  cases hd : decDigits u with
  | nil => exact absurd hd (dd_ne u)
  | cons b r =>
    have hb := dd_digit u b (by rw [hd]; simp)
    have h1 : (b == 45) = false := by
      cases h : b == 45 with
      | false => rfl
      | true => rw [beq_iff_eq] at h; subst h; simp at hb
    have h2 : (b == 43) = false := by
      cases h : b == 43 with
      | false => rfl
      | true => rw [beq_iff_eq] at h; subst h; simp at hb
    simp only [atoi, h1, h2, Bool.false_eq_true, if_false]
    unfold decNat
    rw [← hd, dd_dec]
    simp [hd]
def tenDigits : List UInt8 := [48, 49, 50, 51, 52, 53, 54, 55, 56, 57]
theorem digit_in {b : UInt8} (h : 48 ≤ b.toNat ∧ b.toNat ≤ 57) : tenDigits.contains b = true := by
  have hb : b = UInt8.ofNat b.toNat := by simp
  have : b.toNat = 48 ∨ b.toNat = 49 ∨ b.toNat = 50 ∨ b.toNat = 51 ∨ b.toNat = 52 ∨ b.toNat = 53 ∨ b.toNat = 54 ∨ b.toNat = 55 ∨ b.toNat = 56 ∨ b.toNat = 57 := by omega
  rcases this with g | g | g | g | g | g | g | g | g | g <;> (rw [g] at hb; rw [hb]; decide)
theorem dropWhile_all {p : UInt8 → Bool} : ∀ {l : List UInt8}, (∀ b ∈ l, p b = true) → l.dropWhile p = []
  | [], _ => rfl
  | b :: l, h => by rw [List.dropWhile_cons_of_pos (h b (by simp))]; exact dropWhile_all (fun x hx => h x (List.mem_cons_of_mem _ hx))
theorem dd_trim (u : Nat) : trimS (decDigits u) tenDigits = [] := by
  have h : trimRightS (decDigits u) tenDigits = [] := by
    unfold trimRightS
    rw [dropWhile_all (fun b hb => digit_in (dd_digit u b (List.mem_reverse.1 hb)))]
    rfl
  unfold trimS
  rw [h]; rfl
theorem index_at : ∀ (l r : List UInt8), (∀ b ∈ l, b.toNat ≠ 64) → index (l ++ 64 :: r) [64] = (l.length : Int)
  | [], r, _ => by simp [index]
  | b :: l, r, h => by
    have hb : (b == 64) = false := by
      cases g : b == 64 with
      | false => rfl
      | true => rw [beq_iff_eq] at g; exact absurd (by rw [g]; rfl) (h b (by simp))
    have ih := index_at l r (fun x hx => h x (List.mem_cons_of_mem _ hx))
    have h64 : ((64 : UInt8) == b) = false := by rw [beq_eq_false_iff_ne] at hb ⊢; exact fun e => hb e.symm
    simp only [List.cons_append, index, List.isPrefixOf, h64, Bool.false_and, Bool.false_eq_true, if_false, ih]
    rw [if_neg (by simp <;> omega)]
    simp
theorem name_cut (u a : Nat) : cut (decDigits u ++ 64 :: decDigits a) [64] = (decDigits u, decDigits a, true) := by
  have h := index_at (decDigits u) (decDigits a) (fun b hb => by have := dd_digit u b hb; omega)
  unfold cut
  rw [h, if_pos (by omega)]
  simp
end Go.Proofs.YtpeckpiidgkgoaaGreatDoor
