/- What two hands that add numbers to one count come to: plain. -/
import Derived.Test.YthimkpkoimfkiaaGreatCg40
namespace Go.Proofs.YthimkpkoimfkiaaGreat
open Go.RowKit Go.Maps Go.Sort
set_option linter.unusedVariables false
set_option linter.unusedSimpArgs false

def opI (n : Int) : OpV := { incOp (0, 0) ⟨#[110]⟩ n with preds := [(2, 1)] }
def incs (l : List Int) : List OpV := l.map opI
def pN : Wh := ((0, 0), ⟨#[110]⟩, (0, 0))
def jc (t : Int) : JV := ⟨4, t, ⟨#[]⟩, 0, 0⟩
def vmN (t : Int) : Vm := upd (fun _ => none) (2, 1) (some (jc t))
def addW (t n : Int) : Int := IntKind.i64.wrap (t + n)
def sumW (t : Int) (l : List Int) : Int := l.foldl addW t
/-- What holds of a state while numbers are added. -/
def CountS (s : Sta) (t : Int) : Prop := s.mv pN = vmN t ∧ s.kinds (0, 0) = some 5
theorem countS_do {s : Sta} {t n : Int} {m : Int × Int} (h : CountS s t) : CountS (s.do_ (opI n) m) (addW t n) := by
  obtain ⟨h1, h2⟩ := h
  refine ⟨?_, ?_⟩
  · have e1 : (s.do_ (opI n) m).mv pN = doV (opI n) m (s.mv pN) := by
      unfold Sta.mv
      show (upd s.vals pN (some (doV (opI n) m (s.mv pN))) pN).getD _ = _
      rw [upd_same]
      rfl
    rw [e1, h1]
    show predDo (opI n) (vmN t) (2, 1) = _
    unfold predDo
    rw [if_pos (show (opI n).kind = 4 from rfl), show vmN t (2, 1) = some (jc t) from upd_same _ _ _]
    show upd (upd _ _ _) _ _ = _
    rw [upd_upd]
    rfl
  · show (if (4 : Int) = 2 then upd s.kinds m (some 2) else s.kinds) (0, 0) = some 5
    rw [if_neg (by decide)]
    exact h2
theorem countS_ops {a : Int} : ∀ (l : List Int) (s : Sta) (t k : Int), CountS s t → CountS (doOps s a k (incs l)) (sumW t l)
  | [], s, t, k, h => h
  | n :: l, s, t, k, h => countS_ops l _ _ _ (countS_do h)
theorem countS_one : CountS (doChs stNew [chOne]) 0 := ⟨by kernel_rfl, by kernel_rfl⟩
theorem ids_N (t : Int) (ids : List (Int × Int)) (h : IdsOf (vmN t) ids) : ids = [(2, 1)] := idsOf_one h ⟨⟨by decide, by decide⟩, ⟨by decide, by decide⟩⟩
theorem countS_keyed {s : Sta} {t : Int} (h : CountS s t) : keyedE s (0, 0) ⟨#[110]⟩ = 0 := by
  unfold keyedE
  rw [h.2]
  kernel_rfl
theorem count_inc (a n : Int) (l : List Int) (hl : l.length < 30) (r : Int × (Int × Int) × List OpV) (h : OnKeyR (hand1 a (incs l)) (incOp (0, 0) ⟨#[110]⟩ n) 0 r) : r.1 = 0 ∧ r.2.2 = incs (l ++ [n]) := by
  have hc : CountS (doOps (doChs stNew [chOne]) a (startV a [chOne]).1 (incs l)) (sumW 0 l) := countS_ops l _ _ _ countS_one
  have hlen : (hand1 a (incs l)).pend.length = l.length := by show (incs l).length = _; unfold incs; rw [List.length_map]
  have := onKeyR_ok h (hand1_all a _) (countS_keyed hc) hc.1 (ids_N _) (s := 3) (by kernel_rfl) (ps := [(2, 1)]) (show sortC cmpId [(2, 1)] = _ from sortR_one _) (by show (4 : Int) ≠ 3; decide) (fun _ => by show [((2 : Int), (1 : Int))] ≠ []; simp) ⟨by rw [hlen]; omega, by decide, by rw [hlen]; omega, by show (1 : Nat) + 0 < 120; decide⟩
  rw [this]
  refine ⟨rfl, ?_⟩
  show incs l ++ [opI n] = _
  unfold incs
  rw [List.map_append]
  rfl
/-- Changes of added numbers. -/
def chX (l : List Int) : Ch := ⟨1, 2, 3, [(1, 1)], incs l⟩
def chY (l : List Int) : Ch := ⟨2, 1, 3, [(1, 1)], incs l⟩
theorem firstF_zeros : ∀ l : List Int, firstF ((incs l).map opE) = 0
  | [] => rfl
  | n :: l => by
    show firstF (opE (opI n) :: (incs l).map opE) = 0
    have h : opE (opI n) = 0 := by kernel_rfl
    rw [firstF, if_pos h]
    exact firstF_zeros l
theorem chE_inc {c : Ch} {l : List Int} (h1 : chE1 c = 0) (h2 : c.ops = incs l) (hs : c.start = 3) (hl : l.length ≤ 30) : chE c = 0 := by
  have hlen : c.ops.length = l.length := by rw [h2]; unfold incs; rw [List.length_map]
  unfold chE chE2
  rw [if_pos h1, hlen, hs, if_neg (by omega), if_neg (by omega), h2]
  exact firstF_zeros l
/-- What is known does not change what may be added. -/
theorem may_inc {f : Int × Int → Option OpV} (n : Int) (m : Int × Int) (h : f (2, 1) = some opN) : mayF f (opI n) m = true := by
  rw [mayF_some (show kindIn f (opI n).obj = some 5 from rfl)]
  have h1 : predOk f (opI n) m (2, 1) = true := by
    unfold predOk
    rw [h]
    kernel_rfl
  show (((5 : Int) == 5) == !(opI n).key.toList.isEmpty && elemOk f (opI n) && (predOk f (opI n) m (2, 1) && true)) = true
  rw [h1]
  kernel_rfl
theorem mayAll_inc (a : Int) : ∀ (l : List Int) (f : Int × Int → Option OpV) (k : Int), 3 ≤ k → f (2, 1) = some opN → mayAll f a k (incs l) = true
  | [], f, k, _, _ => rfl
  | n :: l, f, k, hk, h => by
    show (mayF f (opI n) (k, a) && mayAll (updF f (k, a) (opI n)) a (k + 1) (incs l)) = true
    rw [may_inc n _ h, mayAll_inc a l _ (k + 1) (by omega) (by
      unfold updF
      rw [if_neg (fun e => by
        have : (2 : Int) = k := congrArg Prod.fst e
        omega)]
      exact h)]
    rfl
theorem fits_X (l : List Int) : fitsB [chOne] (chX l) = true := (show fitsB [chOne] (chX l) = mayAll (knownF [chOne] [(1, 1)]) 1 3 (incs l) by kernel_rfl).trans (mayAll_inc 1 l _ 3 (by decide) (by kernel_rfl))
theorem fits_Y (l : List Int) : fitsB [chOne] (chY l) = true := (show fitsB [chOne] (chY l) = mayAll (knownF [chOne] [(1, 1)]) 2 3 (incs l) by kernel_rfl).trans (mayAll_inc 2 l _ 3 (by decide) (by kernel_rfl))
theorem fits_XY (l m : List Int) : fitsB [chOne, chX l] (chY m) = true := (show fitsB [chOne, chX l] (chY m) = mayAll (knownF [chOne, chX l] [(1, 1)]) 2 3 (incs m) by kernel_rfl).trans (mayAll_inc 2 m _ 3 (by decide) (by kernel_rfl))
theorem fits_YX (l m : List Int) : fitsB [chOne, chY m] (chX l) = true := (show fitsB [chOne, chY m] (chX l) = mayAll (knownF [chOne, chY m] [(1, 1)]) 1 3 (incs l) by kernel_rfl).trans (mayAll_inc 1 l _ 3 (by decide) (by kernel_rfl))
def LX (l : List Int) : List Ch := if l = [] then [] else [chX l]
def LY (l : List Int) : List Ch := if l = [] then [] else [chY l]
theorem LX_nil : LX [] = [] := rfl
theorem LY_nil : LY [] = [] := rfl
theorem LX_ne {l : List Int} (h : l ≠ []) : LX l = [chX l] := if_neg h
theorem LY_ne {l : List Int} (h : l ≠ []) : LY l = [chY l] := if_neg h
theorem heads_OneC : headsR [chOne] = [(1, 1)] := by rw [headsR_is (L := [chOne]) (rs := [(1, 1)]) (sortR_one _)]; kernel_rfl
theorem count_commitX (l : List Int) (hl : l.length ≤ 30) (n : Int) (r : Int × Int) (D' : DocV) (h : CommitR (hand1 1 (incs l)) n r D') : D' = ⟨1, [chOne] ++ LX l, [], []⟩ := by
  by_cases h0 : l = []
  · subst h0
    unfold CommitR at h
    rw [if_pos (show (hand1 1 (incs [])).pend = [] from rfl)] at h
    exact h.2.2
  · have hne : (hand1 1 (incs l)).pend ≠ [] := by show incs l ≠ []; unfold incs; simpa using h0
    rw [LX_ne h0]
    exact (commitR_ok h (hand1_all _ _) (s1 := 3) (s2 := 2) (by kernel_rfl) (hs := [(1, 1)]) heads_OneC hne rfl (by decide) (by show (1 : Nat) < 120; decide) (chE_inc (c := chX l) (by kernel_rfl) rfl rfl hl) (by kernel_rfl) (by kernel_rfl) (fits_X l)).2
theorem count_commitY (l : List Int) (hl : l.length ≤ 30) (n : Int) (r : Int × Int) (D' : DocV) (h : CommitR (hand1 2 (incs l)) n r D') : D' = ⟨2, [chOne] ++ LY l, [], []⟩ := by
  by_cases h0 : l = []
  · subst h0
    unfold CommitR at h
    rw [if_pos (show (hand1 2 (incs [])).pend = [] from rfl)] at h
    exact h.2.2
  · have hne : (hand1 2 (incs l)).pend ≠ [] := by show incs l ≠ []; unfold incs; simpa using h0
    rw [LY_ne h0]
    exact (commitR_ok h (hand1_all _ _) (s1 := 3) (s2 := 1) (by kernel_rfl) (hs := [(1, 1)]) heads_OneC hne rfl (by decide) (by show (1 : Nat) < 120; decide) (chE_inc (c := chY l) (by kernel_rfl) rfl rfl hl) (by kernel_rfl) (by kernel_rfl) (fits_Y l)).2
theorem all_X (l : List Int) : allV [chOne, chX l] = [chOne, chX l] := by rw [allV_is (L := [chOne, chX l]) (rs := [(1, 1), (1, 2)]) (sortR_is (List.Perm.refl _) (by decide))]; kernel_rfl
theorem all_Y (l : List Int) : allV [chOne, chY l] = [chOne, chY l] := by rw [allV_is (L := [chOne, chY l]) (rs := [(1, 1), (2, 1)]) (sortR_is (List.Perm.refl _) (by decide))]; kernel_rfl
theorem all_XY (l m : List Int) : allV [chOne, chX l, chY m] = [chOne, chX l, chY m] := by rw [allV_is (L := [chOne, chX l, chY m]) (rs := [(1, 1), (1, 2), (2, 1)]) (sortR_is (List.Perm.refl _) (by decide))]; kernel_rfl
theorem all_YX (l m : List Int) : allV [chOne, chY m, chX l] = [chOne, chX l, chY m] := by rw [allV_is (L := [chOne, chY m, chX l]) (rs := [(1, 1), (1, 2), (2, 1)]) (sortR_is (List.Perm.cons _ (List.Perm.swap _ _ _)) (by decide))]; kernel_rfl
/-- The changes in their order, in each case. -/
theorem all_LX (l : List Int) : allV ([chOne] ++ LX l) = [chOne] ++ LX l := by
  by_cases h : l = []
  · subst h; exact allV_chOne
  · rw [LX_ne h]; exact all_X l
theorem all_LY (l : List Int) : allV ([chOne] ++ LY l) = [chOne] ++ LY l := by
  by_cases h : l = []
  · subst h; exact allV_chOne
  · rw [LY_ne h]; exact all_Y l
theorem all_LXY (l m : List Int) : allV ([chOne] ++ LX l ++ LY m) = [chOne] ++ LX l ++ LY m := by
  by_cases h : l = []
  · subst h
    exact all_LY m
  · by_cases k : m = []
    · subst k
      rw [LY_nil, List.append_nil]
      exact all_LX l
    · rw [LX_ne h, LY_ne k]; exact all_XY l m
theorem all_LYX (l m : List Int) : allV ([chOne] ++ LY m ++ LX l) = [chOne] ++ LX l ++ LY m := by
  by_cases h : l = []
  · subst h
    rw [LX_nil, List.append_nil, List.append_nil]
    exact all_LY m
  · by_cases k : m = []
    · subst k
      rw [LY_nil, List.append_nil, List.append_nil]
      exact all_LX l
    · rw [LX_ne h, LY_ne k]; exact all_YX l m
theorem count_mergeX (l m : List Int) (hm : m.length ≤ 30) (n e : Int) (L' W' : List Ch) (h : MergeR ([chOne] ++ LX l) [] 0 (allV ([chOne] ++ LY m)) n e L' W') : e = 0 ∧ L' = [chOne] ++ LX l ++ LY m ∧ W' = [] := by
  rw [all_LY] at h
  have h1 := merge_skip (c := chOne) (l := LY m) h (by simp)
  by_cases k : m = []
  · subst k
    rw [LY_nil, List.append_nil]
    have h2 := merge_nil h1
    exact ⟨h2.2.1, h2.2.2.1, h2.2.2.2⟩
  · rw [LY_ne k] at h1 ⊢
    by_cases k2 : l = []
    · subst k2
      have h2 := merge_nil (merge_new (L := [chOne]) h1 (by show ((2 : Int), (1 : Int)) ∉ [((1 : Int), (1 : Int))]; decide) (chE_inc (c := chY m) (by kernel_rfl) rfl rfl hm) (by show (1 : Nat) < 120; decide) (by kernel_rfl) (fits_Y m))
      exact ⟨h2.2.1, h2.2.2.1, h2.2.2.2⟩
    · rw [LX_ne k2] at h1 ⊢
      have h2 := merge_nil (merge_new (L := [chOne, chX l]) h1 (by show ((2 : Int), (1 : Int)) ∉ [((1 : Int), (1 : Int)), (1, 2)]; decide) (chE_inc (c := chY m) (by kernel_rfl) rfl rfl hm) (by show (2 : Nat) < 120; decide) (by kernel_rfl) (fits_XY l m))
      exact ⟨h2.2.1, h2.2.2.1, h2.2.2.2⟩
theorem count_mergeY (l m : List Int) (hl : l.length ≤ 30) (n e : Int) (L' W' : List Ch) (h : MergeR ([chOne] ++ LY m) [] 0 (allV ([chOne] ++ LX l ++ LY m)) n e L' W') : e = 0 ∧ L' = [chOne] ++ LY m ++ LX l ∧ W' = [] := by
  rw [all_LXY] at h
  have h1 := merge_skip (c := chOne) (l := LX l ++ LY m) h (by simp)
  by_cases k : l = []
  · subst k
    rw [LX_nil, List.nil_append] at h1
    rw [LX_nil, List.append_nil]
    by_cases k2 : m = []
    · subst k2
      have h2 := merge_nil h1
      exact ⟨h2.2.1, h2.2.2.1, h2.2.2.2⟩
    · rw [LY_ne k2] at h1 ⊢
      have h2 := merge_nil (merge_skip (L := [chOne, chY m]) h1 (by show ((2 : Int), (1 : Int)) ∈ [((1 : Int), (1 : Int)), (2, 1)]; decide))
      exact ⟨h2.2.1, h2.2.2.1, h2.2.2.2⟩
  · rw [LX_ne k] at h1 ⊢
    by_cases k2 : m = []
    · subst k2
      have h2 := merge_nil (merge_new (L := [chOne]) h1 (by show ((1 : Int), (2 : Int)) ∉ [((1 : Int), (1 : Int))]; decide) (chE_inc (c := chX l) (by kernel_rfl) rfl rfl hl) (by show (1 : Nat) < 120; decide) (by kernel_rfl) (fits_X l))
      exact ⟨h2.2.1, h2.2.2.1, h2.2.2.2⟩
    · rw [LY_ne k2] at h1 ⊢
      have h2 := merge_nil (merge_skip (merge_new (L := [chOne, chY m]) h1 (by show ((1 : Int), (2 : Int)) ∉ [((1 : Int), (1 : Int)), (2, 1)]; decide) (chE_inc (c := chX l) (by kernel_rfl) rfl rfl hl) (by show (2 : Nat) < 120; decide) (by kernel_rfl) (fits_YX l m)) (by show ((2 : Int), (1 : Int)) ∈ [((1 : Int), (1 : Int)), (2, 1), (1, 2)]; decide))
      exact ⟨h2.2.1, h2.2.2.1, h2.2.2.2⟩
theorem doChs_append (s : Sta) : ∀ (a b : List Ch), doChs s (a ++ b) = doChs (doChs s a) b
  | [], b => rfl
  | c :: a, b => doChs_append _ a b
theorem countS_LX {s : Sta} {t : Int} (l : List Int) (h : CountS s t) : CountS (doChs s (LX l)) (sumW t l) := by
  by_cases k : l = []
  · subst k; exact h
  · rw [LX_ne k]; exact countS_ops l _ _ _ h
theorem countS_LY {s : Sta} {t : Int} (l : List Int) (h : CountS s t) : CountS (doChs s (LY l)) (sumW t l) := by
  by_cases k : l = []
  · subst k; exact h
  · rw [LY_ne k]; exact countS_ops l _ _ _ h
theorem countS_all (a : Int) (l m : List Int) : CountS (doOps (doChs stNew ([chOne] ++ LX l ++ LY m)) a (startV a ([chOne] ++ LX l ++ LY m)).1 []) (sumW (sumW 0 l) m) := by
  show CountS (doChs stNew ([chOne] ++ LX l ++ LY m)) _
  rw [doChs_append, doChs_append]
  exact countS_LY m (countS_LX l countS_one)
end Go.Proofs.YthimkpkoimfkiaaGreat
