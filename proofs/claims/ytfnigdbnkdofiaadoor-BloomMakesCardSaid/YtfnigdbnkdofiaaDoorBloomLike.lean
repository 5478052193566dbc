/- bloom.Places, Make, Has: what they give, and their errors, at every input. -/
import Derived.Test.YtfnigdbnkdofiaaDoorBloomHas
import Derived.Test.YtfnigdbnkdofiaaDoorBloomPlain
import Derived.Test.YtfnigdbnkdofiaaDoorErrIs
namespace Go.Proofs.YtfnigdbnkdofiaaDoor
open Go.RowKit
set_option linter.unusedVariables false
set_option linter.unusedSimpArgs false

def plE (r : Int × Int) (n : Int) : Int := if refB r.1 r.2 && manyB n then 0 else 1
def plL (r : Int × Int) (n : Int) : List Int := if refB r.1 r.2 && manyB n then bplaces (r.1 * 1000003 + r.2) n 3 else []
theorem places_like (r : Int × Int) (n : Int) (w : World) :
    Calls Tryd.prog 12 #[.agg #[.int .i64 r.1, .int .i64 r.2], .int .i64 n] w fun e w' => ∃ A c ev, e = .returned (.tuple #[.slice A (plL r n).length c, ev]) ∧ ErrIs ev (plE r n) ∧ SlAt w' A (ints (plL r n)) ∧ Below w.heap.size w w' := by
  cases h : refB r.1 r.2 && manyB n with
  | true =>
    have h1 : refB r.1 r.2 = true ∧ manyB n = true := by simpa using h
    refine (places_ok r.1 r.2 n h1.1 h1.2 w).mono ?_
    rintro e w' ⟨A, c, rfl, hA, hb⟩
    refine ⟨A, c, .nilIface, ?_, .inl ⟨rfl, by simp [plE, h]⟩, ?_, hb⟩
    · simp [plL, h, bplaces_len]
    · simp only [plL, h, if_true]
      exact SlAt.of_owns hA
  | false =>
    refine (places_no r.1 r.2 n h w).mono ?_
    rintro e w' ⟨rfl, hb⟩
    refine ⟨none, 0, .iface 57 (.int .i64 1), ?_, .inr ⟨by simp [plE, h], by simp only [plE, h]; unfold I64; decide⟩, ?_, hb⟩
    · simp [plL, h]
    · simp [plL, h, ints]
      exact .inl rfl

/-- What is wrong with the bits and the number of refs, ahead of the refs. -/
def mk2 (n : Int) (l : List (Int × Int)) : Int := if manyB n then (if 400 < l.length then 4 else 0) else 1
def mkE (n : Int) (l : List (Int × Int)) : Int := if mk2 n l = 0 then (if allOk l then 0 else 1) else mk2 n l
def mkL (n : Int) (l : List (Int × Int)) : List Int := if mkE n l = 0 then makeBits n l else []
theorem make_like (A : Option Addr) (c : Nat) (l : List (Int × Int)) (n : Int) (w : World) (hA : SlAt w A (refs l)) :
    Calls Tryd.prog 14 #[.slice A l.length c, .int .i64 n] w fun e w' => ∃ A' c' ev, e = .returned (.tuple #[.slice A' (mkL n l).length c', ev]) ∧ ErrIs ev (mkE n l) ∧ SlAt w' A' (u8s (mkL n l)) ∧ Below w.heap.size w w' := by
  cases hm : manyB n with
  | false =>
    have h2 : mk2 n l = 1 := by simp [mk2, hm]
    have hE : mkE n l = 1 := by simp [mkE, h2]
    have hL : mkL n l = [] := by simp [mkL, hE]
    refine (make_no1 A c l n hm w).mono ?_
    rintro e w' ⟨rfl, hb⟩
    exact ⟨none, 0, _, by rw [hL]; rfl, .inr ⟨by rw [hE], by rw [hE]; unfold I64; decide⟩, by rw [hL]; exact .inl rfl, hb⟩
  | true =>
    by_cases hl : 400 < l.length
    · have h2 : mk2 n l = 4 := by simp [mk2, hm, hl]
      have hE : mkE n l = 4 := by simp [mkE, h2]
      have hL : mkL n l = [] := by simp [mkL, hE]
      refine (make_no4 A c l n hm hl w).mono ?_
      rintro e w' ⟨rfl, hb⟩
      exact ⟨none, 0, _, by rw [hL]; rfl, .inr ⟨by rw [hE], by rw [hE]; unfold I64; decide⟩, by rw [hL]; exact .inl rfl, hb⟩
    · have h2 : mk2 n l = 0 := by simp [mk2, hm, hl]
      refine (make_ok A c l n hm (by omega) w hA).mono ?_
      rintro e w' (⟨ha, g, rfl, hg, hb⟩ | ⟨ha, rfl, hb⟩)
      · have hE : mkE n l = 0 := by simp [mkE, h2, ha]
        have hL : mkL n l = makeBits n l := by simp [mkL, hE]
        refine ⟨some ⟨g, 0, none⟩, (n / 8).toNat, .nilIface, ?_, .inl ⟨rfl, hE⟩, by rw [hL]; exact hg, hb⟩
        rw [hL, (make_has hm l).1]
      · have hE : mkE n l = 1 := by simp [mkE, h2, ha]
        have hL : mkL n l = [] := by simp [mkL, hE]
        exact ⟨none, 0, _, by rw [hL]; rfl, .inr ⟨by rw [hE], by rw [hE]; unfold I64; decide⟩, by rw [hL]; exact .inl rfl, hb⟩

def hsE (b : List Int) (r : Int × Int) : Int := if b.length = 0 ∨ 512 < b.length then 3 else if refB r.1 r.2 then 0 else 1
def hsB (b : List Int) (r : Int × Int) : Bool := if hsE b r = 0 then hasBits b (bplaces (r.1 * 1000003 + r.2) (8 * b.length) 3) else false
theorem has_like (A : Option Addr) (c : Nat) (b : List Int) (r : Int × Int) (w : World) (hA : SlAt w A (u8s b)) :
    Calls Tryd.prog 15 #[.slice A b.length c, .agg #[.int .i64 r.1, .int .i64 r.2]] w fun e w' => ∃ ev, e = .returned (.tuple #[.bool (hsB b r), ev]) ∧ ErrIs ev (hsE b r) ∧ Below w.heap.size w w' := by
  by_cases h3 : b.length = 0 ∨ 512 < b.length
  · have hE : hsE b r = 3 := by simp only [hsE, if_pos h3]
    have hB : hsB b r = false := by simp [hsB, hE]
    refine (has_no3 A c b.length r.1 r.2 h3 w).mono ?_
    rintro e w' ⟨rfl, hb⟩
    exact ⟨_, by rw [hB], .inr ⟨by rw [hE], by rw [hE]; unfold I64; decide⟩, hb⟩
  · cases hr : refB r.1 r.2 with
    | false =>
      have hE : hsE b r = 1 := by simp only [hsE, if_neg h3, hr]; rfl
      have hB : hsB b r = false := by simp [hsB, hE]
      refine (has_no1 A c b.length r.1 r.2 hr (by omega) (by omega) w).mono ?_
      rintro e w' ⟨rfl, hb⟩
      exact ⟨_, by rw [hB], .inr ⟨by rw [hE], by rw [hE]; unfold I64; decide⟩, hb⟩
    | true =>
      have hE : hsE b r = 0 := by simp only [hsE, if_neg h3, hr]; rfl
      have hB : hsB b r = hasBits b (bplaces (r.1 * 1000003 + r.2) (8 * b.length) 3) := by simp [hsB, hE]
      refine (has_ok A c b r.1 r.2 hr (by omega) (by omega) w hA).mono ?_
      rintro e w' ⟨rfl, hb⟩
      exact ⟨.nilIface, by rw [hB], .inl ⟨rfl, hE⟩, hb⟩
end Go.Proofs.YtfnigdbnkdofiaaDoor
