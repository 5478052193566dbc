/- What two hands that put values at one key come to: plain. -/
import Derived.Test.YthimkpkoimfkiaaGreatCg40
namespace Go.Proofs.YthimkpkoimfkiaaGreat
open Go.RowKit Go.Maps Go.Sort
set_option linter.unusedVariables false
set_option linter.unusedSimpArgs false

def jn (x : Int) : JV := ⟨2, x, ⟨#[]⟩, 0, 0⟩
def opK (x : Int) : OpV := putOp (0, 0) ⟨#[107]⟩ (jn x)
def opZ (z : Int) : OpV := { opK z with preds := [(3, 1), (3, 2)] }
def chA (x : Int) : Ch := ⟨1, 2, 3, [(1, 1)], [opK x]⟩
def chB (y : Int) : Ch := ⟨2, 1, 3, [(1, 1)], [opK y]⟩
def chC (z : Int) : Ch := ⟨1, 3, 4, [(1, 2), (2, 1)], [opZ z]⟩
theorem plain_jn (x : Int) : plainE (jn x) = 0 := by kernel_rfl
theorem all_A (x : Int) : allV [chOne, chA x] = [chOne, chA x] := by rw [allV_is (L := [chOne, chA x]) (rs := [(1, 1), (1, 2)]) (sortR_is (List.Perm.refl _) (by decide))]; kernel_rfl
theorem all_B (y : Int) : allV [chOne, chB y] = [chOne, chB y] := by rw [allV_is (L := [chOne, chB y]) (rs := [(1, 1), (2, 1)]) (sortR_is (List.Perm.refl _) (by decide))]; kernel_rfl
theorem all_AB (x y : Int) : allV [chOne, chA x, chB y] = [chOne, chA x, chB y] := by rw [allV_is (L := [chOne, chA x, chB y]) (rs := [(1, 1), (1, 2), (2, 1)]) (sortR_is (List.Perm.refl _) (by decide))]; kernel_rfl
theorem all_BA (x y : Int) : allV [chOne, chB y, chA x] = [chOne, chA x, chB y] := by rw [allV_is (L := [chOne, chB y, chA x]) (rs := [(1, 1), (1, 2), (2, 1)]) (sortR_is (List.Perm.cons _ (List.Perm.swap _ _ _)) (by decide))]; kernel_rfl
theorem all_ABC (x y z : Int) : allV [chOne, chA x, chB y, chC z] = [chOne, chA x, chB y, chC z] := by rw [allV_is (L := [chOne, chA x, chB y, chC z]) (rs := [(1, 1), (1, 2), (1, 3), (2, 1)]) (sortR_is (List.Perm.cons _ (List.Perm.cons _ (List.Perm.swap _ _ _))) (by decide))]; kernel_rfl
theorem all_BAC (x y z : Int) : allV [chOne, chB y, chA x, chC z] = [chOne, chA x, chB y, chC z] := by rw [allV_is (L := [chOne, chB y, chA x, chC z]) (rs := [(1, 1), (1, 2), (1, 3), (2, 1)]) (sortR_is (List.Perm.cons _ ((List.Perm.swap _ _ _).trans (List.Perm.cons _ (List.Perm.swap _ _ _)))) (by decide))]; kernel_rfl
theorem heads_One : headsR [chOne] = [(1, 1)] := by rw [headsR_is (L := [chOne]) (rs := [(1, 1)]) (sortR_one _)]; kernel_rfl
theorem heads_AB (x y : Int) : headsR [chOne, chA x, chB y] = [(1, 2), (2, 1)] := by rw [headsR_is (L := [chOne, chA x, chB y]) (rs := [(1, 1), (1, 2), (2, 1)]) (sortR_is (List.Perm.refl _) (by decide))]; kernel_rfl
theorem conf_put (a x : Int) (r : Int × (Int × Int) × List OpV) (h : OnKeyR (hand1 a []) (putOp (0, 0) ⟨#[107]⟩ (jn x)) (plainE (jn x)) r) : r.1 = 0 ∧ r.2.2 = [opK x] := by
  rw [plain_jn] at h
  have := onKeyR_ok h (hand1_all a []) (by kernel_rfl) (f := fun _ => none) (by kernel_rfl) (l := []) (fun ids => idsOf_none) (s := 3) (by kernel_rfl) (ps := []) sortC_nil (by show (1 : Int) ≠ 3; decide) (fun e => absurd (show (1 : Int) = 4 from e) (by decide)) ⟨by show (0 : Nat) < 40; decide, by decide, by show (3 : Int) + ((0 : Nat) : Int) ≤ 1000000; decide, by show (1 : Nat) + 0 < 120; decide⟩
  rw [this]
  exact ⟨rfl, rfl⟩
theorem conf_commitA (x n : Int) (r : Int × Int) (D' : DocV) (h : CommitR (hand1 1 [opK x]) n r D') : n = 0 ∧ D' = ⟨1, [chOne, chA x], [], []⟩ :=
  commitR_ok h (hand1_all _ _) (s1 := 3) (s2 := 2) (by kernel_rfl) (hs := [(1, 1)]) heads_One (by simp [hand1]) rfl (by decide) (by show (1 : Nat) < 120; decide) (by kernel_rfl) (by kernel_rfl) (by kernel_rfl) (by kernel_rfl)
theorem conf_commitB (y n : Int) (r : Int × Int) (D' : DocV) (h : CommitR (hand1 2 [opK y]) n r D') : n = 0 ∧ D' = ⟨2, [chOne, chB y], [], []⟩ :=
  commitR_ok h (hand1_all _ _) (s1 := 3) (s2 := 1) (by kernel_rfl) (hs := [(1, 1)]) heads_One (by simp [hand1]) rfl (by decide) (by show (1 : Nat) < 120; decide) (by kernel_rfl) (by kernel_rfl) (by kernel_rfl) (by kernel_rfl)
theorem conf_mergeA (x y : Int) (n e : Int) (L' W' : List Ch) (h : MergeR [chOne, chA x] [] 0 (allV [chOne, chB y]) n e L' W') : e = 0 ∧ L' = [chOne, chA x, chB y] ∧ W' = [] := by
  rw [all_B] at h
  have h2 := merge_nil (merge_new (merge_skip h (by show chOne.ref ∈ [(1, 1), (1, 2)]; decide)) (by show ((2 : Int), (1 : Int)) ∉ [(1, 1), (1, 2)]; decide) (by kernel_rfl) (by show (2 : Nat) < 120; decide) (by kernel_rfl) (by kernel_rfl))
  exact ⟨h2.2.1, h2.2.2.1, h2.2.2.2⟩
theorem conf_mergeB (x y : Int) (n e : Int) (L' W' : List Ch) (h : MergeR [chOne, chB y] [] 0 (allV [chOne, chA x, chB y]) n e L' W') : e = 0 ∧ L' = [chOne, chB y, chA x] ∧ W' = [] := by
  rw [all_AB] at h
  have h2 := merge_nil (merge_skip (merge_new (merge_skip h (by show chOne.ref ∈ [(1, 1), (2, 1)]; decide)) (by show ((1 : Int), (2 : Int)) ∉ [(1, 1), (2, 1)]; decide) (by kernel_rfl) (by show (2 : Nat) < 120; decide) (by kernel_rfl) (by kernel_rfl)) (by show ((2 : Int), (1 : Int)) ∈ [(1, 1), (2, 1), (1, 2)]; decide))
  exact ⟨h2.2.1, h2.2.2.1, h2.2.2.2⟩
theorem conf_mergeC (x y z : Int) (n e : Int) (L' W' : List Ch) (h : MergeR [chOne, chB y, chA x] [] 0 (allV [chOne, chA x, chB y, chC z]) n e L' W') : e = 0 ∧ L' = [chOne, chB y, chA x, chC z] ∧ W' = [] := by
  rw [all_ABC] at h
  have h2 := merge_nil (merge_new (merge_skip (merge_skip (merge_skip h (by show chOne.ref ∈ [(1, 1), (2, 1), (1, 2)]; decide)) (by show ((1 : Int), (2 : Int)) ∈ [(1, 1), (2, 1), (1, 2)]; decide)) (by show ((2 : Int), (1 : Int)) ∈ [(1, 1), (2, 1), (1, 2)]; decide)) (by show ((1 : Int), (3 : Int)) ∉ [(1, 1), (2, 1), (1, 2)]; decide) (by kernel_rfl) (by show (3 : Nat) < 120; decide) (by kernel_rfl) (by kernel_rfl))
  exact ⟨h2.2.1, h2.2.2.1, h2.2.2.2⟩
/-- The place's values, as they stand then. -/
def vmAB (x y : Int) : Vm := upd (upd (fun _ => none) (3, 1) (some (jn x))) (3, 2) (some (jn y))
theorem mv_AB (a x y : Int) : (doOps (doChs stNew [chOne, chA x, chB y]) a (startV a [chOne, chA x, chB y]).1 []).mv ((0, 0), ⟨#[107]⟩, (0, 0)) = vmAB x y := by kernel_rfl
theorem i2_p (a b : Int) (h : 0 ≤ a ∧ a ≤ 1000 ∧ 0 ≤ b ∧ b ≤ 1000) : I2 (a, b) := ⟨⟨by show (-9223372036854775808 : Int) ≤ a; omega, by show a ≤ 9223372036854775807; omega⟩, ⟨by show (-9223372036854775808 : Int) ≤ b; omega, by show b ≤ 9223372036854775807; omega⟩⟩
theorem ids_AB (x y : Int) (ids : List (Int × Int)) (h : IdsOf (vmAB x y) ids) : ids = [(3, 2), (3, 1)] := idsOf_two h (i2_p 3 1 (by omega)) (i2_p 3 2 (by omega)) (by decide) (by decide)
theorem conf_putC (x y z : Int) (r : Int × (Int × Int) × List OpV) (h : OnKeyR ⟨1, [chOne, chA x, chB y], [], []⟩ (putOp (0, 0) ⟨#[107]⟩ (jn z)) (plainE (jn z)) r) : r.1 = 0 ∧ r.2.2 = [opZ z] := by
  rw [plain_jn] at h
  have := onKeyR_ok h (all_AB x y) (by kernel_rfl) (mv_AB 1 x y) (ids_AB x y) (s := 4) (by kernel_rfl) (ps := [(3, 1), (3, 2)]) (show sortR [(3, 2), (3, 1)] = _ from sortR_is (List.Perm.swap _ _ _) (by decide)) (by show (1 : Int) ≠ 3; decide) (fun e => absurd (show (1 : Int) = 4 from e) (by decide)) ⟨by show (0 : Nat) < 40; decide, by decide, by show (4 : Int) + ((0 : Nat) : Int) ≤ 1000000; decide, by show (3 : Nat) + 0 < 120; decide⟩
  rw [this]
  exact ⟨rfl, rfl⟩
theorem conf_commitC (x y z n : Int) (r : Int × Int) (D' : DocV) (h : CommitR ⟨1, [chOne, chA x, chB y], [], [opZ z]⟩ n r D') : n = 0 ∧ D' = ⟨1, [chOne, chA x, chB y, chC z], [], []⟩ :=
  commitR_ok h (all_AB x y) (s1 := 4) (s2 := 3) (by kernel_rfl) (hs := [(1, 2), (2, 1)]) (heads_AB x y) (by simp) rfl (by decide) (by show (3 : Nat) < 120; decide) (by kernel_rfl) (by kernel_rfl) (by kernel_rfl) (by kernel_rfl)
def vmC (x y z : Int) : Vm := upd (upd (upd (vmAB x y) (3, 1) none) (3, 2) none) (4, 1) (some (jn z))
theorem mv_C (a x y z : Int) : (doOps (doChs stNew [chOne, chA x, chB y, chC z]) a (startV a [chOne, chA x, chB y, chC z]).1 []).mv ((0, 0), ⟨#[107]⟩, (0, 0)) = vmC x y z := by kernel_rfl
theorem ids_C (x y z : Int) (ids : List (Int × Int)) (h : IdsOf (vmC x y z) ids) : ids = [(4, 1)] := by
  refine h.is (fun n hn => by rw [List.mem_singleton] at hn; rw [hn]; exact i2_p 4 1 (by omega)) (by simp) (fun n => ?_) (by simp)
  unfold vmC vmAB upd
  by_cases e4 : n = (4, 1)
  · simp [e4]
  · by_cases e2 : n = (3, 2)
    · simp [e2]
    · by_cases e1 : n = (3, 1)
      · simp [e1]
      · simp [e1, e2, e4]
end Go.Proofs.YthimkpkoimfkiaaGreat
