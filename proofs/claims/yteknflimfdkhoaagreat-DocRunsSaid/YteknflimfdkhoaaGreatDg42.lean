/- What two hands that write one thing behind the other come to: plain. The lists of two hands that write one thing behind the other: plain. -/
import Derived.Test.YteknflimfdkhoaaGreatDg41
namespace Go.Proofs.YteknflimfdkhoaaGreat
open Go.RowKit Go.Maps Go.Sort
set_option linter.unusedVariables false
set_option linter.unusedSimpArgs false

def jI (v : Int) : JV := ⟨2, v, ⟨#[]⟩, 0, 0⟩
/-- The op of a hand that puts a value in behind its own last one. -/
def insOp (A v : Int) (i : Nat) : OpV := { kind := 1, obj := (1, 1), key := ⟨#[]⟩, elem := if i = 0 then (0, 0) else (2 + (i : Int), A), ins := true, val := jI v, preds := [] }
def runL (A v : Int) : Nat → Nat → List OpV
  | i, 0 => []
  | i, m + 1 => insOp A v i :: runL A v (i + 1) m
theorem runL_len (A v : Int) : ∀ (m i : Nat), (runL A v i m).length = m
  | 0, i => rfl
  | m + 1, i => by show (runL A v (i + 1) m).length + 1 = _; rw [runL_len A v m]
theorem runL_snoc (A v : Int) : ∀ (m i : Nat), runL A v i (m + 1) = runL A v i m ++ [insOp A v (i + m)]
  | 0, i => rfl
  | m + 1, i => by
    show insOp A v i :: runL A v (i + 1) (m + 1) = insOp A v i :: (runL A v (i + 1) m ++ [insOp A v (i + (m + 1))])
    rw [runL_snoc A v m (i + 1), show i + 1 + m = i + (m + 1) by omega]
theorem runL_ne (A v : Int) (m i : Nat) (h : m ≠ 0) : runL A v i m ≠ [] := fun e => h (by rw [← runL_len A v m i, e]; rfl)
/-- May it be? -/
theorem may_ins {f : Int × Int → Option OpV} (A v : Int) (i : Nat) (n : Int × Int) (hk : f (1, 1) = some opL) (he : i ≠ 0 → f (2 + (i : Int), A) = some (insOp A v (i - 1))) : mayF f (insOp A v i) n = true := by
  rw [mayF_some (k := 6) (show kindIn f (1, 1) = some 6 by
    unfold kindIn
    rw [if_neg (by decide), hk]
    kernel_rfl)]
  have h1 : elemOk f (insOp A v i) = true := by
    unfold elemOk
    by_cases h0 : i = 0
    · subst h0; rfl
    · rw [show (insOp A v i).elem = (2 + (i : Int), A) from if_neg h0, he h0, if_neg (fun e => by
        have := congrArg Prod.fst (zId_iff.1 e)
        have this : 2 + (i : Int) = 0 := this
        omega)]
      show (true && decide (((1 : Int), (1 : Int)) = (1, 1))) = true
      decide
  rw [h1]
  show (((6 : Int) == 5) == !(insOp A v i).key.toList.isEmpty && true && true) = true
  kernel_rfl
theorem mayAll_ins (A v : Int) : ∀ (m i : Nat) (f : Int × Int → Option OpV) (k : Int), k = 3 + (i : Int) → f (1, 1) = some opL → (i ≠ 0 → f (2 + (i : Int), A) = some (insOp A v (i - 1))) → mayAll f A k (runL A v i m) = true
  | 0, i, f, k, _, _, _ => rfl
  | m + 1, i, f, k, hk, h1, he => by
    show (mayF f (insOp A v i) (k, A) && mayAll (updF f (k, A) (insOp A v i)) A (k + 1) (runL A v (i + 1) m)) = true
    rw [may_ins A v i _ h1 he, mayAll_ins A v m (i + 1) _ (k + 1) (by push_cast; omega) (by
      unfold updF
      rw [if_neg (fun e => by
        have : (1 : Int) = k := congrArg Prod.fst e
        omega)]
      exact h1) (fun _ => by
      unfold updF
      rw [if_pos (by rw [hk]; push_cast; congr 1; omega)]
      rfl)]
    rfl
theorem opE_ins : ∀ (i : Nat), i ≤ 40 → opE (insOp 1 1 i) = 0 ∧ opE (insOp 2 2 i) = 0 := by
  have h : (List.range 41).all (fun i => opE (insOp 1 1 i) == 0 && opE (insOp 2 2 i) == 0) = true := by kernel_rfl
  intro i hi
  have := List.all_eq_true.1 h i (List.mem_range.2 (by omega))
  simpa using this
theorem firstF_ins (A v : Int) (h : ∀ i, i ≤ 40 → opE (insOp A v i) = 0) : ∀ (m i : Nat), i + m ≤ 41 → firstF ((runL A v i m).map opE) = 0
  | 0, i, _ => rfl
  | m + 1, i, hm => by
    show firstF (opE (insOp A v i) :: (runL A v (i + 1) m).map opE) = 0
    rw [firstF, if_pos (h i (by omega))]
    exact firstF_ins A v h m (i + 1) (by omega)
theorem chE_ins {c : Ch} {A v : Int} {x : Nat} (h : ∀ i, i ≤ 40 → opE (insOp A v i) = 0) (h1 : chE1 c = 0) (h2 : c.ops = runL A v 0 x) (hs : c.start = 3) (hx : x ≤ 30) : chE c = 0 := by
  have hlen : c.ops.length = x := by rw [h2, runL_len]
  unfold chE chE2
  rw [if_pos h1, hlen, hs, if_neg (by omega), if_neg (by omega), h2]
  exact firstF_ins A v h x 0 (by omega)
/-- The changes. -/
def ciX (x : Nat) : Ch := ⟨1, 2, 3, [(1, 1)], runL 1 1 0 x⟩
def ciY (y : Nat) : Ch := ⟨2, 1, 3, [(1, 1)], runL 2 2 0 y⟩
theorem chE_X (x : Nat) (hx : x ≤ 30) : chE (ciX x) = 0 := chE_ins (fun i hi => (opE_ins i hi).1) (by kernel_rfl) rfl rfl hx
theorem chE_Y (y : Nat) (hy : y ≤ 30) : chE (ciY y) = 0 := chE_ins (fun i hi => (opE_ins i hi).2) (by kernel_rfl) rfl rfl hy
theorem fiX (x : Nat) : fitsB [chOne] (ciX x) = true := (show fitsB [chOne] (ciX x) = mayAll (knownF [chOne] [(1, 1)]) 1 3 (runL 1 1 0 x) by kernel_rfl).trans (mayAll_ins 1 1 x 0 _ 3 rfl (by kernel_rfl) (fun h => absurd rfl h))
theorem fiY (y : Nat) : fitsB [chOne] (ciY y) = true := (show fitsB [chOne] (ciY y) = mayAll (knownF [chOne] [(1, 1)]) 2 3 (runL 2 2 0 y) by kernel_rfl).trans (mayAll_ins 2 2 y 0 _ 3 rfl (by kernel_rfl) (fun h => absurd rfl h))
theorem fiXY (x y : Nat) : fitsB [chOne, ciX x] (ciY y) = true := (show fitsB [chOne, ciX x] (ciY y) = mayAll (knownF [chOne, ciX x] [(1, 1)]) 2 3 (runL 2 2 0 y) by kernel_rfl).trans (mayAll_ins 2 2 y 0 _ 3 rfl (by kernel_rfl) (fun h => absurd rfl h))
def LiX (x : Nat) : List Ch := if x = 0 then [] else [ciX x]
def LiY (y : Nat) : List Ch := if y = 0 then [] else [ciY y]
theorem LiX_nil : LiX 0 = [] := rfl
theorem LiY_nil : LiY 0 = [] := rfl
theorem LiX_ne {x : Nat} (h : x ≠ 0) : LiX x = [ciX x] := if_neg h
theorem LiY_ne {y : Nat} (h : y ≠ 0) : LiY y = [ciY y] := if_neg h
theorem heads_OneI : headsR [chOne] = [(1, 1)] := by rw [headsR_is (L := [chOne]) (rs := [(1, 1)]) (sortR_one _)]; kernel_rfl
theorem runs_commitX (x : Nat) (hx : x ≤ 30) (n : Int) (r : Int × Int) (D' : DocV) (h : CommitR (hand1 1 (runL 1 1 0 x)) n r D') : D' = ⟨1, [chOne] ++ LiX x, [], []⟩ := by
  by_cases h0 : x = 0
  · subst h0
    unfold CommitR at h
    rw [if_pos (show (hand1 1 (runL 1 1 0 0)).pend = [] from rfl)] at h
    exact h.2.2
  · rw [LiX_ne h0]
    exact (commitR_ok h (hand1_all _ _) (s1 := 3) (s2 := 2) (by kernel_rfl) (hs := [(1, 1)]) heads_OneI (runL_ne 1 1 x 0 h0) rfl (by decide) (by show (1 : Nat) < 120; decide) (chE_X x hx) (by kernel_rfl) (by kernel_rfl) (fiX x)).2
theorem runs_commitY (y : Nat) (hy : y ≤ 30) (n : Int) (r : Int × Int) (D' : DocV) (h : CommitR (hand1 2 (runL 2 2 0 y)) n r D') : D' = ⟨2, [chOne] ++ LiY y, [], []⟩ := by
  by_cases h0 : y = 0
  · subst h0
    unfold CommitR at h
    rw [if_pos (show (hand1 2 (runL 2 2 0 0)).pend = [] from rfl)] at h
    exact h.2.2
  · rw [LiY_ne h0]
    exact (commitR_ok h (hand1_all _ _) (s1 := 3) (s2 := 1) (by kernel_rfl) (hs := [(1, 1)]) heads_OneI (runL_ne 2 2 y 0 h0) rfl (by decide) (by show (1 : Nat) < 120; decide) (chE_Y y hy) (by kernel_rfl) (by kernel_rfl) (fiY y)).2
theorem ai_X (x : Nat) : allV ([chOne] ++ LiX x) = [chOne] ++ LiX x := by
  by_cases h : x = 0
  · subst h; exact allV_chOne
  · rw [LiX_ne h]
    show allV [chOne, ciX x] = [chOne, ciX x]
    rw [allV_is (L := [chOne, ciX x]) (rs := [(1, 1), (1, 2)]) (sortR_is (List.Perm.refl _) (by decide))]; kernel_rfl
theorem ai_Y (y : Nat) : allV ([chOne] ++ LiY y) = [chOne] ++ LiY y := by
  by_cases h : y = 0
  · subst h; exact allV_chOne
  · rw [LiY_ne h]
    show allV [chOne, ciY y] = [chOne, ciY y]
    rw [allV_is (L := [chOne, ciY y]) (rs := [(1, 1), (2, 1)]) (sortR_is (List.Perm.refl _) (by decide))]; kernel_rfl
theorem ai_XY (x y : Nat) : allV ([chOne] ++ LiX x ++ LiY y) = [chOne] ++ LiX x ++ LiY y := by
  by_cases h : x = 0
  · subst h; exact ai_Y y
  · by_cases k : y = 0
    · subst k
      rw [LiY_nil, List.append_nil]
      exact ai_X x
    · rw [LiX_ne h, LiY_ne k]
      show allV [chOne, ciX x, ciY y] = [chOne, ciX x, ciY y]
      rw [allV_is (L := [chOne, ciX x, ciY y]) (rs := [(1, 1), (1, 2), (2, 1)]) (sortR_is (List.Perm.refl _) (by decide))]; kernel_rfl
theorem runs_mergeX (x y : Nat) (hy : y ≤ 30) (n e : Int) (L' W' : List Ch) (h : MergeR ([chOne] ++ LiX x) [] 0 (allV ([chOne] ++ LiY y)) n e L' W') : e = 0 ∧ L' = [chOne] ++ LiX x ++ LiY y ∧ W' = [] := by
  rw [ai_Y] at h
  have h1 := merge_skip (c := chOne) (l := LiY y) h (by simp)
  by_cases k : y = 0
  · subst k
    rw [LiY_nil, List.append_nil]
    have h2 := merge_nil h1
    exact ⟨h2.2.1, h2.2.2.1, h2.2.2.2⟩
  · rw [LiY_ne k] at h1 ⊢
    by_cases k2 : x = 0
    · subst k2
      have h2 := merge_nil (merge_new (L := [chOne]) h1 (by show ((2 : Int), (1 : Int)) ∉ [((1 : Int), (1 : Int))]; decide) (chE_Y y hy) (by show (1 : Nat) < 120; decide) (by kernel_rfl) (fiY y))
      exact ⟨h2.2.1, h2.2.2.1, h2.2.2.2⟩
    · rw [LiX_ne k2] at h1 ⊢
      have h2 := merge_nil (merge_new (L := [chOne, ciX x]) h1 (by show ((2 : Int), (1 : Int)) ∉ [((1 : Int), (1 : Int)), (1, 2)]; decide) (chE_Y y hy) (by show (2 : Nat) < 120; decide) (by kernel_rfl) (fiXY x y))
      exact ⟨h2.2.1, h2.2.2.1, h2.2.2.2⟩
theorem doChs_app (s : Sta) : ∀ (a b : List Ch), doChs s (a ++ b) = doChs (doChs s a) b
  | [], b => rfl
  | c :: a, b => doChs_app _ a b
end Go.Proofs.YteknflimfdkhoaaGreat
namespace Go.Proofs.YteknflimfdkhoaaGreat
open Go.RowKit Go.Maps Go.Sort
set_option linter.unusedVariables false
set_option linter.unusedSimpArgs false

def wE (n : Int × Int) : Wh := ((1, 1), ⟨#[]⟩, n)
theorem wE_inj {a b : Int × Int} (h : wE a = wE b) : a = b := by
  unfold wE at h
  injection h with _ h
  injection h with _ h
def rootL (s : Sta) : List (Int × Int) := (s.kids (wE (0, 0))).getD []
/-- A hand's row stands in the state. -/
structure RunA (s : Sta) (A v : Int) (x : Nat) : Prop where
  k : ∀ i : Nat, (s.kids (wE (3 + (i : Int), A))).getD [] = if i + 1 < x then [(4 + (i : Int), A)] else []
  m : ∀ i : Nat, i < x → s.mv (wE (3 + (i : Int), A)) = upd (fun _ => none) (3 + (i : Int), A) (some (jI v))
  f : ∀ i : Nat, x ≤ i → s.mv (wE (3 + (i : Int), A)) = fun _ => none
theorem do_kids (s : Sta) (A v : Int) (x : Nat) (k : Int) (n : Int × Int) : ((s.do_ (insOp A v x) (k, A)).kids (wE n)).getD [] = if n = (insOp A v x).elem then (s.kids (wE n)).getD [] ++ [(k, A)] else (s.kids (wE n)).getD [] := by
  show ((upd s.kids (wE (insOp A v x).elem) (some ((s.kids (wE (insOp A v x).elem)).getD [] ++ [(k, A)])) (wE n)).getD []) = _
  by_cases h : n = (insOp A v x).elem
  · rw [if_pos h, h, upd_same]; rfl
  · rw [if_neg h, upd_other _ _ (fun e => h (wE_inj e))]
theorem do_mv (s : Sta) (A v : Int) (x : Nat) (k : Int) (n : Int × Int) : (s.do_ (insOp A v x) (k, A)).mv (wE n) = if n = (k, A) then upd (s.mv (wE (k, A))) (k, A) (some (jI v)) else s.mv (wE n) := by
  unfold Sta.mv
  show (upd s.vals (wE (k, A)) (some (upd ((s.vals (wE (k, A))).getD (fun _ => none)) (k, A) (some (jI v)))) (wE n)).getD _ = _
  by_cases h : n = (k, A)
  · rw [if_pos h, h, upd_same]; rfl
  · rw [if_neg h, upd_other _ _ (fun e => h (wE_inj e))]
theorem elem_zero (A v : Int) : (insOp A v 0).elem = (0, 0) := rfl
theorem elem_ne (A v : Int) {x : Nat} (h : x ≠ 0) : (insOp A v x).elem = (2 + (x : Int), A) := if_neg h
theorem RunA.step {s : Sta} {A v : Int} {x : Nat} (h : RunA s A v x) : RunA (s.do_ (insOp A v x) (3 + (x : Int), A)) A v (x + 1) := by
  refine ⟨fun i => ?_, fun i hi => ?_, fun i hi => ?_⟩
  · rw [do_kids, h.k i]
    by_cases h0 : x = 0
    · subst h0
      rw [elem_zero, if_neg (fun e => by have := congrArg Prod.fst e; have this : 3 + (i : Int) = 0 := this; omega), if_neg (by omega), if_neg (by omega)]
    · rw [elem_ne A v h0]
      by_cases hi : i + 1 = x
      · rw [if_pos (by rw [← hi]; push_cast; congr 1; omega), if_neg (by omega), if_pos (by omega), ← hi]
        push_cast
        rw [List.nil_append, show (3 : Int) + (i + 1) = 4 + i by omega]
      · rw [if_neg (fun e => by have := congrArg Prod.fst e; have this : 3 + (i : Int) = 2 + (x : Int) := this; omega)]
        by_cases hl : i + 1 < x
        · rw [if_pos hl, if_pos (by omega)]
        · rw [if_neg hl, if_neg (by omega)]
  · rw [do_mv]
    by_cases e : i = x
    · subst e
      rw [if_pos rfl, h.f i (Nat.le_refl _)]
    · rw [if_neg (fun e2 => by have := congrArg Prod.fst e2; have this : 3 + (i : Int) = 3 + (x : Int) := this; omega)]
      exact h.m i (by omega)
  · rw [do_mv, if_neg (fun e2 => by have := congrArg Prod.fst e2; have this : 3 + (i : Int) = 3 + (x : Int) := this; omega)]
    exact h.f i (by omega)
theorem RunA.other {s : Sta} {A v B u : Int} {x y : Nat} (h : RunA s B u y) (hne : A ≠ B) (k : Int) : RunA (s.do_ (insOp A v x) (k, A)) B u y := by
  have he : ∀ i : Nat, ¬ ((3 + (i : Int), B) = (insOp A v x).elem) := fun i e => by
    by_cases h0 : x = 0
    · subst h0
      rw [elem_zero] at e
      have := congrArg Prod.fst e
      have this : 3 + (i : Int) = 0 := this
      omega
    · rw [elem_ne A v h0] at e
      exact hne (congrArg Prod.snd e).symm
  have hn : ∀ i : Nat, ¬ ((3 + (i : Int), B) = (k, A)) := fun i e => hne (congrArg Prod.snd e).symm
  refine ⟨fun i => ?_, fun i hi => ?_, fun i hi => ?_⟩
  · rw [do_kids, if_neg (he i)]; exact h.k i
  · rw [do_mv, if_neg (hn i)]; exact h.m i hi
  · rw [do_mv, if_neg (hn i)]; exact h.f i hi
theorem root_do (s : Sta) (A v : Int) (x : Nat) (k : Int) : rootL (s.do_ (insOp A v x) (k, A)) = if x = 0 then rootL s ++ [(k, A)] else rootL s := by
  unfold rootL
  rw [do_kids]
  by_cases h0 : x = 0
  · subst h0
    rw [elem_zero, if_pos rfl, if_pos rfl]
  · rw [elem_ne A v h0, if_neg h0, if_neg (fun e => by have := congrArg Prod.fst e; have this : (0 : Int) = 2 + (x : Int) := this; omega)]
theorem run_ops (A v : Int) : ∀ (m i : Nat) (s : Sta) (k : Int), k = 3 + (i : Int) → RunA s A v i → RunA (doOps s A k (runL A v i m)) A v (i + m)
  | 0, i, s, k, _, h => h
  | m + 1, i, s, k, hk, h => by
    have := run_ops A v m (i + 1) (s.do_ (insOp A v i) (k, A)) (k + 1) (by push_cast; omega) (by rw [hk]; exact h.step)
    rw [show i + (m + 1) = i + 1 + m by omega]
    exact this
theorem run_other (A v : Int) {B u : Int} {y : Nat} (hne : A ≠ B) : ∀ (m i : Nat) (s : Sta) (k : Int), RunA s B u y → RunA (doOps s A k (runL A v i m)) B u y
  | 0, i, s, k, h => h
  | m + 1, i, s, k, h => run_other A v hne m (i + 1) _ (k + 1) (h.other hne k)
theorem run_root1 (A v : Int) : ∀ (m i : Nat) (s : Sta) (k : Int), i ≠ 0 → rootL (doOps s A k (runL A v i m)) = rootL s
  | 0, i, s, k, _ => rfl
  | m + 1, i, s, k, hi => by
    show rootL (doOps (s.do_ (insOp A v i) (k, A)) A (k + 1) (runL A v (i + 1) m)) = _
    rw [run_root1 A v m (i + 1) _ _ (by omega), root_do, if_neg hi]
theorem run_root (A v : Int) (m : Nat) (s : Sta) (k : Int) : rootL (doOps s A k (runL A v 0 m)) = rootL s ++ (if m = 0 then [] else [(k, A)]) := by
  cases m with
  | zero => show rootL s = _; simp
  | succ m =>
    show rootL (doOps (s.do_ (insOp A v 0) (k, A)) A (k + 1) (runL A v 1 m)) = _
    rw [run_root1 A v m 1 _ _ (by omega), root_do, if_pos rfl, if_neg (by omega)]
theorem run_kind (A v : Int) : ∀ (m i : Nat) (s : Sta) (k : Int), (doOps s A k (runL A v i m)).kinds = s.kinds
  | 0, i, s, k => rfl
  | m + 1, i, s, k => by
    show (doOps (s.do_ (insOp A v i) (k, A)) A (k + 1) (runL A v (i + 1) m)).kinds = _
    rw [run_kind A v m (i + 1)]
    rfl
/-- A hand's ids, from one on. -/
def seqE (A : Int) : Nat → Nat → List (Int × Int)
  | i, 0 => []
  | i, m + 1 => (3 + (i : Int), A) :: seqE A (i + 1) m
theorem seqE_len (A : Int) : ∀ (m i : Nat), (seqE A i m).length = m
  | 0, i => rfl
  | m + 1, i => by show (seqE A (i + 1) m).length + 1 = _; rw [seqE_len A m]
theorem seqE_get (A : Int) : ∀ (m i j : Nat), j < m → (seqE A i m)[j]? = some (3 + ((i + j : Nat) : Int), A)
  | 0, i, j, h => by omega
  | m + 1, i, 0, h => rfl
  | m + 1, i, j + 1, h => by
    show (seqE A (i + 1) m)[j]? = _
    rw [seqE_get A m (i + 1) j (by omega), show i + 1 + j = i + (j + 1) by omega]
theorem sortI_nil : sortC cmpId [] = [] := sortR_is (a := []) (b := []) (List.Perm.refl _) List.Pairwise.nil
theorem sortI_one (r : Int × Int) : sortC cmpId [r] = [r] := sortR_one r
theorem elems_run {s : Sta} {A v : Int} {x : Nat} (h : RunA s A v x) : ∀ (m i k : Nat) (rest : List (Int × Int)), i + (m + 1) = x → elemsF s (1, 1) (m + 1 + k) ((3 + (i : Int), A) :: rest) = seqE A i (m + 1) ++ elemsF s (1, 1) k rest ∧ (doneE s (1, 1) k rest → doneE s (1, 1) (m + 1 + k) ((3 + (i : Int), A) :: rest))
  | 0, i, k, rest, e => by
    have hk : kidsOf s (1, 1) (3 + (i : Int), A) = [] := by
      show sortC cmpId ((s.kids (wE (3 + (i : Int), A))).getD []) = []
      rw [h.k i, if_neg (by omega), sortI_nil]
    rw [show 0 + 1 + k = k + 1 by omega]
    refine ⟨?_, fun hd => ?_⟩
    · show (if (3 + (i : Int), A) = (0, 0) then [] else [(3 + (i : Int), A)]) ++ elemsF s (1, 1) k ((kidsOf s (1, 1) (3 + (i : Int), A)).reverse ++ rest) = _
      rw [hk, if_neg (fun e => by have := congrArg Prod.fst e; have this : 3 + (i : Int) = 0 := this; omega)]
      rfl
    · show doneE s (1, 1) k ((kidsOf s (1, 1) (3 + (i : Int), A)).reverse ++ rest)
      rw [hk]
      exact hd
  | m + 1, i, k, rest, e => by
    have hk : kidsOf s (1, 1) (3 + (i : Int), A) = [(3 + ((i + 1 : Nat) : Int), A)] := by
      show sortC cmpId ((s.kids (wE (3 + (i : Int), A))).getD []) = _
      rw [h.k i, if_pos (by omega), sortI_one]
      push_cast
      rw [show (4 : Int) + i = 3 + (i + 1) by omega]
    obtain ⟨h1, h2⟩ := elems_run h m (i + 1) k rest (by omega)
    rw [show m + 1 + 1 + k = m + 1 + k + 1 by omega]
    refine ⟨?_, fun hd => ?_⟩
    · show (if (3 + (i : Int), A) = (0, 0) then [] else [(3 + (i : Int), A)]) ++ elemsF s (1, 1) (m + 1 + k) ((kidsOf s (1, 1) (3 + (i : Int), A)).reverse ++ rest) = _
      rw [hk, if_neg (fun e => by have := congrArg Prod.fst e; have this : 3 + (i : Int) = 0 := this; omega)]
      show (3 + (i : Int), A) :: elemsF s (1, 1) (m + 1 + k) ((3 + ((i + 1 : Nat) : Int), A) :: rest) = _
      rw [h1]
      rfl
    · show doneE s (1, 1) (m + 1 + k) ((kidsOf s (1, 1) (3 + (i : Int), A)).reverse ++ rest)
      rw [hk]
      exact h2 hd
/-- Both rows, and all there is. -/
structure RunS (s : Sta) (x y : Nat) : Prop where
  a : RunA s 1 1 x
  b : RunA s 2 2 y
  root : rootL s = (if x = 0 then [] else [(3, 1)]) ++ (if y = 0 then [] else [(3, 2)])
  kind : s.kinds (1, 1) = some 6
theorem elems_two {s : Sta} {x y : Nat} (h : RunS s x y) : elemsF s (1, 1) (y + x + 1) [(0, 0)] = seqE 2 0 y ++ seqE 1 0 x ∧ doneE s (1, 1) (y + x + 1) [(0, 0)] := by
  have hk : kidsOf s (1, 1) (0, 0) = (if x = 0 then [] else [(3, 1)]) ++ (if y = 0 then [] else [(3, 2)]) := by
    show sortC cmpId (rootL s) = _
    rw [h.root]
    by_cases hx : x = 0 <;> by_cases hy : y = 0
    · rw [if_pos hx, if_pos hy]; exact sortI_nil
    · rw [if_pos hx, if_neg hy]; exact sortI_one _
    · rw [if_neg hx, if_pos hy]; exact sortI_one _
    · rw [if_neg hx, if_neg hy]; exact sortR_is (a := [(3, 1), (3, 2)]) (List.Perm.refl _) (by decide)
  have hA : ∀ k rest, elemsF s (1, 1) (x + k) ((if x = 0 then [] else [((3 : Int), (1 : Int))]) ++ rest) = seqE 1 0 x ++ elemsF s (1, 1) k rest ∧ (doneE s (1, 1) k rest → doneE s (1, 1) (x + k) ((if x = 0 then [] else [((3 : Int), (1 : Int))]) ++ rest)) := fun k rest => by
    cases x with
    | zero => rw [Nat.zero_add]; exact ⟨rfl, id⟩
    | succ m => exact elems_run h.a m 0 k rest (by omega)
  have hB : ∀ k rest, elemsF s (1, 1) (y + k) ((if y = 0 then [] else [((3 : Int), (2 : Int))]) ++ rest) = seqE 2 0 y ++ elemsF s (1, 1) k rest ∧ (doneE s (1, 1) k rest → doneE s (1, 1) (y + k) ((if y = 0 then [] else [((3 : Int), (2 : Int))]) ++ rest)) := fun k rest => by
    cases y with
    | zero => rw [Nat.zero_add]; exact ⟨rfl, id⟩
    | succ m => exact elems_run h.b m 0 k rest (by omega)
  have hr : (kidsOf s (1, 1) (0, 0)).reverse = (if y = 0 then [] else [((3 : Int), (2 : Int))]) ++ ((if x = 0 then [] else [((3 : Int), (1 : Int))]) ++ []) := by
    rw [hk]
    by_cases hx : x = 0 <;> by_cases hy : y = 0 <;> simp [hx, hy]
  have hA0 := hA 0 []
  have hB0 := hB (x + 0) ((if x = 0 then [] else [((3 : Int), (1 : Int))]) ++ [])
  refine ⟨?_, ?_⟩
  · show elemsF s (1, 1) (y + (x + 0)) ((kidsOf s (1, 1) (0, 0)).reverse ++ []) = _
    rw [List.append_nil, hr, hB0.1, hA0.1, elemsF_nil, List.append_nil]
  · show doneE s (1, 1) (y + (x + 0)) ((kidsOf s (1, 1) (0, 0)).reverse ++ [])
    rw [List.append_nil, hr]
    exact hB0.2 (hA0.2 (by trivial))
theorem runS_one : RunS (doChs stNew [chOne]) 0 0 := by
  have hk : ∀ n, (doChs stNew [chOne]).kids (wE n) = none := fun n => by kernel_rfl
  have hv : ∀ n, (doChs stNew [chOne]).vals (wE n) = none := fun n => by kernel_rfl
  have hm : ∀ n, (doChs stNew [chOne]).mv (wE n) = fun _ => none := fun n => by unfold Sta.mv; rw [hv n]; rfl
  refine ⟨⟨fun i => ?_, fun i hi => by omega, fun i _ => hm _⟩, ⟨fun i => ?_, fun i hi => by omega, fun i _ => hm _⟩, ?_, by kernel_rfl⟩
  · rw [hk, if_neg (by omega)]; rfl
  · rw [hk, if_neg (by omega)]; rfl
  · unfold rootL; rw [hk]; rfl
theorem runS_X {s : Sta} (h : RunS s 0 0) (x : Nat) : RunS (doOps s 1 3 (runL 1 1 0 x)) x 0 := by
  refine ⟨by have := run_ops 1 1 x 0 s 3 rfl h.a; rwa [Nat.zero_add] at this, run_other 1 1 (by decide) x 0 s 3 h.b, ?_, by rw [run_kind]; exact h.kind⟩
  rw [run_root, h.root]
  simp
theorem runS_Y {s : Sta} {x : Nat} (h : RunS s x 0) (y : Nat) : RunS (doOps s 2 3 (runL 2 2 0 y)) x y := by
  refine ⟨run_other 2 2 (by decide) y 0 s 3 h.a, by have := run_ops 2 2 y 0 s 3 rfl h.b; rwa [Nat.zero_add] at this, ?_, by rw [run_kind]; exact h.kind⟩
  rw [run_root, h.root]
  simp
theorem runS_LX (x : Nat) : RunS (doChs stNew ([chOne] ++ LiX x)) x 0 := by
  by_cases k : x = 0
  · subst k; exact runS_one
  · rw [LiX_ne k]; exact runS_X runS_one x
theorem runS_LXY (x y : Nat) : RunS (doChs stNew ([chOne] ++ LiX x ++ LiY y)) x y := by
  rw [doChs_app]
  by_cases k : y = 0
  · subst k; exact runS_LX x
  · rw [LiY_ne k]; exact runS_Y (runS_LX x) y
end Go.Proofs.YteknflimfdkhoaaGreat
