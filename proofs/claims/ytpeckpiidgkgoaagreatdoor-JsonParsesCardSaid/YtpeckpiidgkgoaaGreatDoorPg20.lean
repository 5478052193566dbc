/- RefUnq, RefQuoted. -/
import Derived.Test.YtpeckpiidgkgoaaGreatDoorPg6
import Derived.Test.YtpeckpiidgkgoaaGreatDoorPg19
import Derived.Test.YtpeckpiidgkgoaaGreatDoorPg7
import Derived.Deep.RegionHeld3
import Derived.Deep.RegionWith
import Derived.Deep.RegionLaw
/- bookref1.digit, bookref1.Unquote: contracts. -/
namespace Go.Proofs.YtpeckpiidgkgoaaGreatDoor
open Go.RowKit
set_option linter.unusedVariables false
set_option linter.unusedSimpArgs false

set_option maxRecDepth 100000 in
set_option maxHeartbeats 1000000 in
theorem rdigit_any (c : Nat) (hc : c < 256) (w : World) : Calls Tryz.prog 53 #[.int .u8 c] w fun e w' => e = .returned (.int .i64 (hexD c)) ∧ w' = w := by
  by_cases h1 : 48 ≤ c
  · have h1i : (48 : Int) ≤ (c : Int) := by omega
    by_cases h2 : c ≤ 57
    · have h2i : (c : Int) ≤ 57 := by omega
      rw [show hexD c = (c : Int) - 48 from if_pos ⟨h1, h2⟩]
      go_enter Tryz.func53, Tryz.ntmps53
      go_wp2_with fail
      go_ret
      exact ⟨rfl, rfl⟩
    · have h2i : ¬ (c : Int) ≤ 57 := by omega
      by_cases h3 : 97 ≤ c
      · have h3i : (97 : Int) ≤ (c : Int) := by omega
        by_cases h4 : c ≤ 102
        · have h4i : (c : Int) ≤ 102 := by omega
          rw [show hexD c = (c : Int) - 87 from by unfold hexD; rw [if_neg (by omega), if_pos ⟨h3, h4⟩]]
          go_enter Tryz.func53, Tryz.ntmps53
          go_wp2_with fail
          go_ret
          exact ⟨rfl, rfl⟩
        · have h4i : ¬ (c : Int) ≤ 102 := by omega
          rw [show hexD c = -1 from by unfold hexD; rw [if_neg (by omega), if_neg (by omega)]]
          go_enter Tryz.func53, Tryz.ntmps53
          go_wp2_with fail
          go_ret
          exact ⟨rfl, rfl⟩
      · have h3i : ¬ (97 : Int) ≤ (c : Int) := by omega
        rw [show hexD c = -1 from by unfold hexD; rw [if_neg (by omega), if_neg (by omega)]]
        go_enter Tryz.func53, Tryz.ntmps53
        go_wp2_with fail
        go_ret
        exact ⟨rfl, rfl⟩
  · have h1i : ¬ (48 : Int) ≤ (c : Int) := by omega
    have h3i : ¬ (97 : Int) ≤ (c : Int) := by omega
    rw [show hexD c = -1 from by unfold hexD; rw [if_neg (by omega), if_neg (by omega)]]
    go_enter Tryz.func53, Tryz.ntmps53
    go_wp2_with fail
    go_ret
    exact ⟨rfl, rfl⟩
/-- What the reference's Unquote answers. -/
def runqV (s : ByteArray) : Value := match unq (toN s) with
  | some (b, n) => .tuple #[.string (ofN b), .int .i64 n, .bool true]
  | none => .tuple #[.string ⟨#[]⟩, .int .i64 0, .bool false]
theorem runqV_none {s : ByteArray} (h : unq (toN s) = none) : runqV s = .tuple #[.string ⟨#[]⟩, .int .i64 0, .bool false] := by unfold runqV; rw [h]
theorem runqV_some {s : ByteArray} {b : List Nat} {n : Nat} (h : unq (toN s) = some (b, n)) : runqV s = .tuple #[.string (ofN b), .int .i64 n, .bool true] := by unfold runqV; rw [h]
set_option maxRecDepth 100000 in
set_option maxHeartbeats 4000000 in
theorem runquote_any (s : ByteArray) (hs : s.size ≤ 60000) (w : World) :
    Calls Tryz.prog 30 #[.string s] w fun e w' => e = .returned (runqV s) ∧ Below w.heap.size w w' := by
  have HN := Lib.hid (toN_len s)
  go_enter Tryz.func30, Tryz.ntmps30
  by_cases h0 : s.size = 0
  · have he : s = ⟨#[]⟩ := by
      cases s with
      | mk d => rw [Array.eq_empty_of_size_eq_zero h0]
    subst he
    have HU := Lib.hid (runqV_none (s := ⟨#[]⟩) rfl)
    go_wp2_with fail
    go_ret3
    exact ⟨by rw [HU.out]; rfl, Below.refl _ _⟩
  have h0' : 0 < s.size := by omega
  have hem : s.toList.isEmpty = false := by
    rw [ByteArray.toList_eq]
    cases hd : s.data.toList with
    | nil => exact absurd (by have := congrArg List.length hd; simpa using this) h0
    | cons c l => rfl
  have hem2 : ¬ s.toList = [] := by intro e; rw [e] at hem; cases hem
  have hat := toN_at h0'
  obtain ⟨n0, hn0⟩ : ∃ n0, (s[0]'h0').toNat = n0 := ⟨_, rfl⟩
  rw [hn0] at hat
  have hcell0 : ∀ h, ((s[0]'h).toNat : Int) = (n0 : Int) := by intro h; rw [hn0]
  by_cases h1 : n0 = 34
  case neg =>
    have h1' : ((n0 : Int) == 34) = false := by simp; omega
    have HU := Lib.hid (runqV_none (s := s) (by
      cases hl : toN s with
      | nil => rfl
      | cons c r => rw [hl] at hat; simp at hat; subst hat; rw [unq, if_neg h1]))
    clear hat
    go_wp2_with fail
    go_ret3
    exact ⟨by rw [HU.out]; rfl, Below.refl _ _⟩
  replace hcell0 : ∀ h, ((s[0]'h).toNat : Int) = 34 := by intro h; rw [hcell0, h1]; rfl
  subst h1
  have HS := Lib.hid (UqAt.start hat)
  have HE := Lib.hid h0'
  clear hat h0 hn0 h0'
  go_wp2_with fail
  clear hem hem2 hcell0
  go_loopw [5, 6] (fun v m wr => ∃ (i : Nat) (bs : List UInt8) (A : Option Addr) (c : Nat), m = .int .i64 i ∧ 1 ≤ i ∧ i ≤ s.size ∧ v = .slice A bs.length c ∧ bs.length ≤ i ∧ UqAt (toN s) i (bs.map UInt8.toNat) ∧ UQ w A c bs wr)
    (fun _ m _ => s.size - (intOf m).toNat)
  case atStart => exact ⟨1, [], none, 0, by go_num, by omega, HE.out, rfl, by simp, HS.out, World.ownsRow_nil _ _ _ _, Below.refl _ _⟩
  case round =>
    clear HS HE
    obtain ⟨i, bs, A, cA, rfl, hi1, hi, rfl, hlen, hU, HQ⟩ := hrel
    have hbs := HQ.bel.size
    replace HQ := Lib.hid HQ
    by_cases hlt : i < s.size
    case neg =>
      have hlt1 : ¬ (i : Int) < (s.size : Int) := by omega
      have HU := Lib.hid (runqV_none (hU.none (by rw [HN.out]; omega)))
      clear hU
      go_wp2_with fail
      go_ret3
      exact ⟨by rw [HU.out]; rfl, HQ.out.bel⟩
    have hlt1 : (i : Int) < (s.size : Int) := by omega
    have hat := toN_at hlt
    obtain ⟨c, hc⟩ : ∃ c : UInt8, s[i]'hlt = c := ⟨_, rfl⟩
    rw [hc] at hat
    obtain ⟨n, hn⟩ : ∃ n, n = c.toNat := ⟨_, rfl⟩
    have hn2 : n < 256 := by rw [hn]; exact c.toNat_lt
    have hcell : ∀ h, ((s[i]'h).toNat : Int) = (n : Int) := by intro h; rw [hc, hn]
    rw [← hn] at hat
    clear hc
    by_cases g1 : n = 34
    · have HU := Lib.hid (runqV_some (hU.quote (by rw [hat, g1])))
      replace hcell : ∀ h, ((s[i]'h).toNat : Int) = 34 := by intro h; rw [hcell, g1]; rfl
      have hconv := conv_row (P := Tryz.prog) HQ.out.own Tryz.underlying99 Tryz.underlying5 Tryz.underlying9
      clear hat hU hn hn2 g1
      go_wp2_with fail
      go_ret3
      exact ⟨by rw [HU.out, ofN_map]; rfl, HQ.out.bel⟩
    have e1 : (((n : Nat) : Int) == 34) = false := by simp; omega
    by_cases g2 : n < 32
    · have HU := Lib.hid (runqV_none (hU.bad hat g1 (.inl g2)))
      have e3 : ((n : Nat) : Int) < 32 := by omega
      clear hat hU hn g1
      go_wp2_with fail
      go_ret3
      exact ⟨by rw [HU.out]; rfl, HQ.out.bel⟩
    have e3 : ¬ ((n : Nat) : Int) < 32 := by omega
    by_cases g3 : 126 < n
    · have HU := Lib.hid (runqV_none (hU.bad hat g1 (.inr g3)))
      have e4 : (126 : Int) < ((n : Nat) : Int) := by omega
      clear hat hU hn g1 g2
      go_wp2_with fail
      go_ret3
      exact ⟨by rw [HU.out]; rfl, HQ.out.bel⟩
    have e4 : ¬ (126 : Int) < ((n : Nat) : Int) := by omega
    by_cases g4 : n = 92
    case neg =>
      have e5 : (((n : Nat) : Int) == 92) = false := by simp; omega
      have HU := Lib.hid (hU.plain hat g1 (by omega) g4)
      have HC := Lib.hid hn
      clear hat hU hn g1 g2 g3 g4
      go_wp2_with (at_builtin; refine wpList_pushN _ rfl (.tmp 39) (.tmp 41) _ rfl w.heap.size 5 Tryz.underlying99 infoB rfl (by decide) (by decide) _ _ (Lib.byteCells bs) rfl HQ.out.own 1 (by omega) _ rfl rfl ?_ (by omega) hbs ?_)
      · first | rfl | exact ⟨rfl, rfl⟩ | exact ⟨rfl, rfl, rfl⟩
      intro A2 c2 w2 hown2 hg2
      rw [HC.out] at hown2
      have HN2 := Lib.hid (HQ.out.next (l := [c]) hown2 rfl hg2)
      refine wpList_at (UQ w A2 c2 (bs ++ [c])) HN2.out ?_
      clear hown2 hg2 HN2 HQ
      intro w3 HN2
      replace HN2 := Lib.hid HN2
      go_wp2_with fail
      go_roundw
      case rel => exact ⟨i + 1, bs ++ [c], A2, c2, by go_num, by omega, by omega, by simp, by simp; omega, by have := HU.out; rw [HC.out] at this; simpa using this, HN2.out⟩
      case measure => simp [intOf]; omega
    replace hcell : ∀ h, ((s[i]'h).toNat : Int) = 92 := by intro h; rw [hcell, g4]; rfl
    rw [g4] at hat
    clear hn hn2 g1 e1 g2 e3 g3 e4 g4
    by_cases k1 : s.size = i + 1
    · have HU := Lib.hid (runqV_none (hU.end1 hat (by rw [HN.out]; omega)))
      have k2 : ¬ (i : Int) + 1 < (s.size : Int) := by omega
      have k3 : (s.size : Int) ≤ (i : Int) + 2 := by omega
      clear hU hat k1
      go_wp2_with fail
      go_ret3
      exact ⟨by rw [HU.out]; rfl, HQ.out.bel⟩
    have hlt2 : i + 1 < s.size := by omega
    have hlt2i : (i : Int) + 1 < (s.size : Int) := by omega
    have hatd := toN_at hlt2
    obtain ⟨dd, hdd⟩ : ∃ dd : UInt8, s[i + 1]'hlt2 = dd := ⟨_, rfl⟩
    rw [hdd] at hatd
    obtain ⟨d, hd⟩ : ∃ d, d = dd.toNat := ⟨_, rfl⟩
    have hd2 : d < 256 := by rw [hd]; exact dd.toNat_lt
    have hcd1 : ∀ h, ((s[i + 1]'h).toNat : Int) = (d : Int) := by intro h; rw [hdd, hd]
    rw [← hd] at hatd
    clear hdd
    by_cases k2 : d = 34 ∨ d = 92
    · have HU := Lib.hid (hU.esc hat hatd k2)
      have HD := Lib.hid hd
      have k3 : (d : Int) = 34 ∨ (d : Int) = 92 := by omega
      clear hU hat hatd hd k1 k2
      rcases k3 with k3 | k3
      all_goals
        rw [k3] at hcd1
        go_wp2_with (at_builtin; refine wpList_pushN _ rfl (.tmp 64) (.tmp 69) _ rfl w.heap.size 5 Tryz.underlying99 infoB rfl (by decide) (by decide) _ _ (Lib.byteCells bs) rfl HQ.out.own 1 (by omega) _ rfl rfl ?_ (by omega) hbs ?_)
        · first | rfl | exact ⟨rfl, rfl⟩ | exact ⟨rfl, rfl, rfl⟩
        intro A2 c2 w2 hown2 hg2
        rw [← k3, HD.out] at hown2
        have HN2 := Lib.hid (HQ.out.next (l := [dd]) hown2 rfl hg2)
        refine wpList_at (UQ w A2 c2 (bs ++ [dd])) HN2.out ?_
        clear hown2 hg2 HN2 HQ
        intro w3 HN2
        replace HN2 := Lib.hid HN2
        go_wp2_with fail
        go_roundw
        case rel => exact ⟨i + 2, bs ++ [dd], A2, c2, by go_num, by omega, by omega, by simp, by simp; omega, by have := HU.out; rw [HD.out] at this; simpa using this, HN2.out⟩
        case measure => simp [intOf]; omega
    have k3 : ((d : Int) == 34) = false := by simp; omega
    have k4 : ((d : Int) == 92) = false := by simp; omega
    have k3n : ¬ (d : Int) = 34 := by omega
    have k4n : ¬ (d : Int) = 92 := by omega
    by_cases k5 : s.size = i + 2
    · have HU := Lib.hid (runqV_none (hU.end2 hat hatd k2 (by rw [HN.out]; omega)))
      have k6 : (s.size : Int) ≤ (i : Int) + 2 := by omega
      clear hU hat k1 k2 k5 hatd hd
      go_wp2_with fail
      go_ret3
      exact ⟨by rw [HU.out]; rfl, HQ.out.bel⟩
    have hlt3 : i + 2 < s.size := by omega
    have hlt3i : ¬ (s.size : Int) ≤ (i : Int) + 2 := by omega
    have hlt3j : (i : Int) + 2 < (s.size : Int) := by omega
    have hate := toN_at hlt3
    obtain ⟨ee, hee⟩ : ∃ ee : UInt8, s[i + 2]'hlt3 = ee := ⟨_, rfl⟩
    rw [hee] at hate
    obtain ⟨e, he⟩ : ∃ e, e = ee.toNat := ⟨_, rfl⟩
    have he2 : e < 256 := by rw [he]; exact ee.toNat_lt
    have hce1 : ∀ h, ((s[i + 2]'h).toNat : Int) = (e : Int) := by intro h; rw [hee, he]
    rw [← he] at hate
    clear hee
    have hbd := hexD_le d
    have hbe := hexD_le e
    have hDD := fun wx => rdigit_any d hd2 wx
    have hDE := fun wx => rdigit_any e he2 wx
    obtain ⟨hi_, hhi⟩ : ∃ x, x = hexD d := ⟨_, rfl⟩
    obtain ⟨lo_, hlo⟩ : ∃ x, x = hexD e := ⟨_, rfl⟩
    rw [← hhi] at hbd hDD
    rw [← hlo] at hbe hDE
    have HDD := Lib.hid hDD
    have HDE := Lib.hid hDE
    have HH := Lib.hid (And.intro hhi hlo)
    have HU := Lib.hid (And.intro hU (And.intro hat (And.intro hatd (And.intro hate k2))))
    obtain ⟨x0, hx0⟩ : ∃ x0 : Int, hi_ * 16 + lo_ = x0 := ⟨_, rfl⟩
    have hx0b : -17 ≤ x0 ∧ x0 ≤ 255 := by omega
    have HX0 := Lib.hid hx0
    clear hhi hlo hU hat hatd hate k1 k2 k5 hd he hDD hDE
    have hx0 := HX0.out
    by_cases m1 : hi_ < 0
    · have HV := Lib.hid (runqV_none (HU.out.1.hexBad HU.out.2.1 HU.out.2.2.1 HU.out.2.2.2.1 HU.out.2.2.2.2 (by unfold hexBad; rw [← HH.out.1, decide_eq_true m1]; rfl)))
      go_wp2_with (go_at_call 53; first | ((with_reducible refine (HDD.out _).mono ?_); rintro e1 w1 ⟨rfl, rfl⟩) | ((with_reducible refine (HDE.out _).mono ?_); rintro e1 w1 ⟨rfl, rfl⟩))
      go_ret3
      exact ⟨by rw [HV.out]; rfl, HQ.out.bel⟩
    by_cases m2 : lo_ < 0
    · have HV := Lib.hid (runqV_none (HU.out.1.hexBad HU.out.2.1 HU.out.2.2.1 HU.out.2.2.2.1 HU.out.2.2.2.2 (by unfold hexBad; rw [← HH.out.2, decide_eq_true m2]; simp)))
      go_wp2_with (go_at_call 53; first | ((with_reducible refine (HDD.out _).mono ?_); rintro e1 w1 ⟨rfl, rfl⟩) | ((with_reducible refine (HDE.out _).mono ?_); rintro e1 w1 ⟨rfl, rfl⟩))
      go_ret3
      exact ⟨by rw [HV.out]; rfl, HQ.out.bel⟩
    by_cases m3 : 32 ≤ x0 ∧ x0 ≤ 126
    · have HV := Lib.hid (runqV_none (HU.out.1.hexBad HU.out.2.1 HU.out.2.2.1 HU.out.2.2.2.1 HU.out.2.2.2.2 (by unfold hexBad; rw [← HH.out.1, ← HH.out.2, HX0.out, decide_eq_true m3.1, decide_eq_true m3.2]; simp)))
      obtain ⟨m4, m5⟩ := m3
      go_wp2_with (go_at_call 53; first | ((with_reducible refine (HDD.out _).mono ?_); rintro e1 w1 ⟨rfl, rfl⟩) | ((with_reducible refine (HDE.out _).mono ?_); rintro e1 w1 ⟨rfl, rfl⟩))
      go_ret3
      exact ⟨by rw [HV.out]; rfl, HQ.out.bel⟩
    have HV := Lib.hid (HU.out.1.hex HU.out.2.1 HU.out.2.2.1 HU.out.2.2.2.1 HU.out.2.2.2.2 (by
      unfold hexBad
      rw [← HH.out.1, ← HH.out.2, HX0.out]
      simp only [Bool.or_eq_false_iff, Bool.and_eq_false_iff, decide_eq_false_iff_not]
      exact ⟨m1, m2, by omega⟩))
    rw [← HH.out.1, ← HH.out.2, HX0.out] at HV
    obtain ⟨m, hm⟩ : ∃ m : Nat, x0 = (m : Int) := ⟨x0.toNat, by omega⟩
    have hm2 : m < 256 := by omega
    subst hm
    rw [Int.toNat_natCast] at HV
    have hmod : (m : Int) % 256 = m := by omega
    have hwm : IntKind.u8.wrap (m : Int) = m := by
      have : IntKind.u8.wrap (m : Int) = (m : Int) % 256 := rfl
      omega
    have hmb : (UInt8.ofNat m).toNat = m := by rw [UInt8.toNat_ofNat']; omega
    have HMB := Lib.hid hmb
    clear hmb
    rcases (show (m : Int) < 32 ∨ (126 : Int) < m by omega) with m4 | m4
    all_goals
      clear m3
      have m5 : ¬ (32 : Int) ≤ m ∨ ¬ (m : Int) ≤ 126 := by omega
      go_wp2_with (first
        | (go_at_call 53; first | ((with_reducible refine (HDD.out _).mono ?_); rintro e1 w1 ⟨rfl, rfl⟩) | ((with_reducible refine (HDE.out _).mono ?_); rintro e1 w1 ⟨rfl, rfl⟩))
        | (at_builtin; refine wpList_pushN _ rfl (.tmp 106) (.tmp 109) _ rfl w.heap.size 5 Tryz.underlying99 infoB rfl (by decide) (by decide) _ _ (Lib.byteCells bs) rfl HQ.out.own 1 (by omega) _ rfl rfl ?_ (by omega) hbs ?_))
      · first | rfl | exact ⟨rfl, rfl⟩ | exact ⟨rfl, rfl, rfl⟩
      intro A2 c2 w2 hown2 hg2
      have HN2 := Lib.hid (HQ.out.next (l := [UInt8.ofNat m]) (by rw [show Lib.byteCells [UInt8.ofNat m] = [.int .u8 m] from by simp only [Lib.byteCells, List.map_cons, List.map_nil]; rw [HMB.out]]; exact hown2) rfl hg2)
      refine wpList_at (UQ w A2 c2 (bs ++ [UInt8.ofNat m])) HN2.out ?_
      clear hown2 hg2 HN2 HQ
      intro w3 HN2
      replace HN2 := Lib.hid HN2
      go_wp2_with fail
      go_roundw
      case rel => exact ⟨i + 3, bs ++ [UInt8.ofNat m], A2, c2, by go_num, by omega, by omega, by simp, by simp; omega, by have := HV.out; rw [← HMB.out] at this; simpa using this, HN2.out⟩
      case measure => simp [intOf]; omega
end Go.Proofs.YtpeckpiidgkgoaaGreatDoor
/- The reference's reader: a quoted text. -/
namespace Go.Proofs.YtpeckpiidgkgoaaGreatDoor
open Go.RowKit
set_option linter.unusedVariables false
set_option linter.unusedSimpArgs false

/-- What quoted answers. -/
def RQuotedQ (w : World) (pb : Nat) (s : ByteArray) (at_ : Nat) (tr : Int) (m : Nat) (e : Ending) (w' : World) : Prop :=
  ((∃ (k : ByteArray) (n : Nat), txtF m ((toN s).drop at_) = some (k, n) ∧ at_ + n ≤ s.size ∧ k.size ≤ m ∧ e = .returned (.string k) ∧ Rp w' pb s (at_ + n) tr 0 0) ∨ (txtF m ((toN s).drop at_) = none ∧ e = .returned (.string ⟨#[]⟩) ∧ Rp w' pb s at_ tr at_ 2)) ∧ Only (fun k => k = pb) w w'
theorem rquoted_cases (s : ByteArray) (at_ m : Nat) (hat : at_ ≤ s.size) :
    (runqV (s.extract at_ s.size) = .tuple #[.string ⟨#[]⟩, .int .i64 0, .bool false] ∧ txtF m ((toN s).drop at_) = none) ∨
    (∃ (k : ByteArray) (n : Nat), runqV (s.extract at_ s.size) = .tuple #[.string k, .int .i64 (n : Nat), .bool true] ∧ at_ + n ≤ s.size ∧ ¬ m < k.size ∧ txtF m ((toN s).drop at_) = some (k, n) ∧ True) ∨
    (∃ (k : ByteArray) (n : Nat), runqV (s.extract at_ s.size) = .tuple #[.string k, .int .i64 (n : Nat), .bool true] ∧ at_ + n ≤ s.size ∧ m < k.size ∧ txtF m ((toN s).drop at_) = none ∧ True) := by
  have e := toN_extract s at_
  cases hu : unq (toN (s.extract at_ s.size)) with
  | none =>
    left
    refine ⟨runqV_none hu, ?_⟩
    rw [e] at hu
    unfold txtF
    rw [hu]
  | some p =>
    obtain ⟨b, n⟩ := p
    right
    have hl := (unq_len hu).2
    have hz : (ofN b).size = b.length := by unfold ofN; simp [ByteArray.size]
    have hn : at_ + n ≤ s.size := by
      rw [e, List.length_drop, toN_len] at hl
      simp only at hl
      omega
    have hr := runqV_some hu
    rw [e] at hu
    by_cases hm : b.length ≤ m
    · left
      refine ⟨ofN b, n, hr, hn, by rw [hz]; omega, ?_, trivial⟩
      unfold txtF
      rw [hu]
      exact if_pos hm
    · right
      refine ⟨ofN b, n, hr, hn, by rw [hz]; omega, ?_, trivial⟩
      unfold txtF
      rw [hu]
      exact if_neg hm
set_option maxRecDepth 100000 in
set_option maxHeartbeats 1000000 in
theorem rquoted_any (w : World) (pb : Nat) (s : ByteArray) (hs : s.size ≤ 60000) (at_ : Nat) (hat : at_ ≤ s.size) (tr : Int) (m : Nat) (hm : m ≤ 60) (h : Rp w pb s at_ tr 0 0) :
    Calls Tryz.prog 16 #[.pointer (some ⟨pb, 0, none⟩), .int .i64 m] w (RQuotedQ w pb s at_ tr m) := by
  obtain ⟨h0, h1, h2, h3, h4, hz⟩ := h.cells
  have hU := fun wx => runquote_any (s.extract at_ s.size) (by simp; omega) wx
  have HR := Lib.hid h
  have hat1 : (at_ : Int) ≤ (s.size : Int) := by omega
  have hm' : (m : Int) ≤ 60 := by omega
  rcases rquoted_cases s at_ m hat with ⟨q1, q2⟩ | ⟨k, n, q1, q2, q3, q4, q5⟩ | ⟨k, n, q1, q2, q3, q4, q5⟩
  all_goals
    rw [q1] at hU
    have HU := Lib.hid hU
    have HQ := Lib.hid q2
    clear h hU q1
    go_enter Tryz.func16, Tryz.ntmps16
    go_wp2_with fail
    go_region_with (go_at_call 30; refine (HU.out _).mono ?_; rintro e w3 ⟨rfl, hb3⟩; have hr3 : Rp w3 pb s at_ tr 0 0 := (show Rp w.drew pb s at_ tr 0 0 from HR.out).below hb3; obtain ⟨j0, j1, j2, j3, j4, jz⟩ := hr3.cells; have HR3 := Lib.hid hr3; have HO3 := Lib.hid (Only.of_below (S := fun k => k = pb) (show Below w.heap.size w w3 from ⟨hb3.os, hb3.tape, hb3.output, hb3.size, hb3.block⟩)); clear hb3 hr3)
    go_wp2_with (go_at_call 8; refine (rfail_any _ pb s at_ tr 0 0 at_ 2 HR3.out).mono ?_; rintro e w4 ⟨rfl, hr4, ho4⟩; have HR4 := Lib.hid hr4; have HO4 := Lib.hid ho4; clear hr4 ho4)
    all_goals first
      | (exfalso; omega)
      | (go_ret; exact ⟨.inr ⟨HQ.out, rfl, HR4.out⟩, HO3.out.trans HO4.out⟩)
      | (go_ret; exact ⟨.inr ⟨q4, rfl, HR4.out⟩, HO3.out.trans HO4.out⟩)
      | (go_ret; exact ⟨.inl ⟨k, n, q4, q2, by omega, rfl, HR3.out.at⟩, Only.setCell (S := fun k => k = pb) (p := ⟨pb, 1, none⟩) HO3.out rfl _⟩)
end Go.Proofs.YtpeckpiidgkgoaaGreatDoor
