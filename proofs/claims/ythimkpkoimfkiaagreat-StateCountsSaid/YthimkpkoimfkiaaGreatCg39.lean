/- Steps of a hand, reckoned: plain. booklaw6.two: two hands, with a list and a count that both have. -/
import Derived.Test.YthimkpkoimfkiaaGreatCg32
import Derived.Test.YthimkpkoimfkiaaGreatCg36
import Derived.Test.YthimkpkoimfkiaaGreatCg38
namespace Go.Proofs.YthimkpkoimfkiaaGreat
open Go.RowKit Go.Maps Go.Sort
set_option linter.unusedVariables false
set_option linter.unusedSimpArgs false

theorem sortR_is {a b : List (Int × Int)} (hp : a.Perm b) (hb : b.Pairwise (fun x y => (!(ltOf cmpId) y x) = true)) : sortR a = b := by
  refine List.Perm.eq_of_pairwise (le := fun x y => (!(ltOf cmpId) y x) = true) ?_ ?_ hb ((sortR_perm a).trans hp)
  · intro x y _ _ h1 h2
    exact tot_refs x y (by simpa using h2) (by simpa using h1)
  · exact sortR_sorted a
theorem sortC_id (l : List (Int × Int)) : sortC cmpId l = sortR l := rfl
/-- The changes in their order, when the refs' order is known. -/
theorem allV_is {L : List Ch} {rs : List (Int × Int)} (h : sortR (L.map Ch.ref) = rs) : allV L = (rowR L L.length rs []).filterMap (findR L) := by unfold allV; rw [h]
theorem headsR_is {L : List Ch} {rs : List (Int × Int)} (h : sortR (L.map Ch.ref) = rs) : headsR L = rs.filter fun r => !(L.any fun c => decide (r ∈ c.deps)) := by unfold headsR; rw [h]
/-- The ids of a place, when they are known. -/
theorem IdsOf.is {f : Vm} {ids l : List (Int × Int)} (h : IdsOf f ids) (hi : ∀ n ∈ l, I2 n) (hn : l.Nodup) (hm : ∀ n, (f n).isSome = true ↔ n ∈ l) (hs : l.Pairwise (fun a b => (!(ltOf cmpDown) b a) = true)) : ids = l := by
  have hp : ids.Perm l := (List.perm_ext_iff_of_nodup h.nd hn).2 (fun n => by
    constructor
    · intro k
      exact (hm n).1 ((h.mem n (h.i2 n k)).1 k)
    · intro k
      exact (h.mem n (hi n k)).2 ((hm n).2 k))
  refine List.Perm.eq_of_pairwise (le := fun x y => (!(ltOf cmpDown) y x) = true) ?_ h.srt hs hp
  intro x y _ _ h1 h2
  exact tot_down x y (by simpa using h2) (by simpa using h1)
theorem idsOf_none {ids : List (Int × Int)} (h : IdsOf (fun _ => none) ids) : ids = [] := h.is (fun n hn => (by cases hn)) List.nodup_nil (fun n => by simp) List.Pairwise.nil
theorem idsOf_one {ids : List (Int × Int)} {n : Int × Int} {v : JV} (h : IdsOf (upd (fun _ => none) n (some v)) ids) (hi : I2 n) : ids = [n] := h.is (fun m hm => by rw [List.mem_singleton] at hm; rw [hm]; exact hi) (by simp) (fun m => by
  unfold upd
  by_cases e : m = n
  · simp [e]
  · simp [e]) (by simp)
theorem idsOf_two {ids : List (Int × Int)} {n m : Int × Int} {v u : JV} (h : IdsOf (upd (upd (fun _ => none) n (some v)) m (some u)) ids) (hn : I2 n) (hm : I2 m) (hne : m ≠ n) (hs : ltOf cmpDown n m = false) : ids = [m, n] := h.is (fun k hk => by
    rcases List.mem_cons.1 hk with e | hk
    · rw [e]; exact hm
    · rw [List.mem_singleton] at hk; rw [hk]; exact hn) (by simp [hne]) (fun k => by
  unfold upd
  by_cases e : k = m
  · simp [e]
  · by_cases e2 : k = n
    · subst e2
      simp [e]
    · simp [e, e2]) (by simp [hs])
/-- A new change that fits is taken. -/
theorem takes_new {L L' W' : List Ch} {c : Ch} {e : Int} (h : Takes L [] c e L' W') (h1 : chE c = 0) (h2 : findR L c.ref = none) (h3 : L.length < 120) (h4 : readyL L c = true) (h5 : fitsB L c = true) : e = 0 ∧ L' = L ++ [c] ∧ W' = [] := by
  unfold Takes at h
  rw [if_pos h1, h2] at h
  have h : if 120 ≤ L.length + 0 then e = 4 ∧ L' = L ∧ W' = [] else if readyL L c = true then (if fitsB L c = true then e = 0 ∧ Settles (L ++ [c]) [] L' W' else e = 7 ∧ L' = L ∧ W' = []) else e = 0 ∧ L' = L ∧ W' = [] ++ [c] := h
  rw [if_neg (by omega), if_pos h4, if_pos h5] at h
  exact ⟨h.1, h.2.none.1, h.2.none.2⟩
theorem merge_nil {L W L' W' : List Ch} {n n' e : Int} (h : MergeR L W n [] n' e L' W') : n' = n ∧ e = 0 ∧ L' = L ∧ W' = W := by
  cases h
  exact ⟨rfl, rfl, rfl, rfl⟩
theorem merge_skip {L W L' W' l : List Ch} {c : Ch} {n n' e : Int} (h : MergeR L W n (c :: l) n' e L' W') (hc : c.ref ∈ L.map Ch.ref) : MergeR L W n l n' e L' W' := by
  cases h with
  | skip _ h => exact h
  | fail k _ _ => exact absurd hc k
  | step k _ _ => exact absurd hc k
theorem merge_new {L L' W' l : List Ch} {c : Ch} {n n' e : Int} (h : MergeR L [] n (c :: l) n' e L' W') (hc : c.ref ∉ L.map Ch.ref) (h1 : chE c = 0) (h3 : L.length < 120) (h4 : readyL L c = true) (h5 : fitsB L c = true) : MergeR (L ++ [c]) [] (n + 1) l n' e L' W' := by
  have h2 : findR L c.ref = none := by
    cases hf : findR L c.ref with
    | none => rfl
    | some x =>
      have := findR_some hf
      exact absurd (List.mem_map.2 ⟨x, this.1, this.2⟩) hc
  cases h with
  | skip k _ => exact absurd k hc
  | fail _ k he => exact absurd (takes_new k h1 h2 h3 h4 h5).1 he
  | step _ k hr =>
    obtain ⟨_, e1, e2⟩ := takes_new k h1 h2 h3 h4 h5
    subst e1 e2
    exact hr
theorem takeAll_nil {L W L' W' : List Ch} {e : Int} (h : TakeAll L W [] e L' W') : e = 0 ∧ L' = L ∧ W' = W := by
  cases h
  exact ⟨rfl, rfl, rfl⟩
theorem takeAll_new {L L' W' l : List Ch} {c : Ch} {e : Int} (h : TakeAll L [] (c :: l) e L' W') (h1 : chE c = 0) (h2 : findR L c.ref = none) (h3 : L.length < 120) (h4 : readyL L c = true) (h5 : fitsB L c = true) : TakeAll (L ++ [c]) [] l e L' W' := by
  cases h with
  | fail k he => exact absurd (takes_new k h1 h2 h3 h4 h5).1 he
  | step k hr =>
    obtain ⟨_, e1, e2⟩ := takes_new k h1 h2 h3 h4 h5
    subst e1 e2
    exact hr
/-- What onKey comes to, when all is known. -/
theorem onKeyR_is {D : DocV} {o : OpV} {r : Int × (Int × Int) × List OpV} {al : List Ch} {f : Vm} {l : List (Int × Int)} (h : OnKeyR D o 0 r) (hal : D.all = al) (hE : keyedE (doOps (doChs stNew al) D.actor (startV D.actor al).1 D.pend) o.obj o.key = 0)
    (hf : (doOps (doChs stNew al) D.actor (startV D.actor al).1 D.pend).mv (o.obj, o.key, (0, 0)) = f) (hl : ∀ ids, IdsOf f ids → ids = l) : r = addV D o f l := by
  have hs : D.state = doOps (doChs stNew al) D.actor (startV D.actor al).1 D.pend := by
    unfold DocV.state DocV.start
    rw [hal]
  unfold OnKeyR at h
  rw [hs, hE, if_neg (by simp), if_neg (by simp)] at h
  obtain ⟨ids, h1, h2⟩ := h
  rw [hf] at h1 h2
  rw [h2, hl ids h1]
/-- .. and its op is added. -/
theorem onKeyR_ok {D : DocV} {o : OpV} {r : Int × (Int × Int) × List OpV} {al : List Ch} {f : Vm} {l ps : List (Int × Int)} {s : Int} (h : OnKeyR D o 0 r) (hal : D.all = al) (hE : keyedE (doOps (doChs stNew al) D.actor (startV D.actor al).1 D.pend) o.obj o.key = 0)
    (hf : (doOps (doChs stNew al) D.actor (startV D.actor al).1 D.pend).mv (o.obj, o.key, (0, 0)) = f) (hl : ∀ ids, IdsOf f ids → ids = l) (hs : (startV D.actor al).1 = s) (hp : sortC cmpId (predsV o f l) = ps) (h3 : o.kind ≠ 3) (h4 : o.kind = 4 → predsV o f l ≠ [])
    (hc : D.pend.length < 40 ∧ l.length ≤ 12 ∧ s + D.pend.length ≤ 1000000 ∧ D.L.length + D.W.length < 120) : r = (0, (s + D.pend.length, D.actor), D.pend ++ [{ o with preds := ps }]) := by
  have hst : D.start.1 = s := by unfold DocV.start; rw [hal]; exact hs
  rw [onKeyR_is h hal hE hf hl, addV_ok ⟨fun e => absurd e h3, h4⟩ (by rw [hst]; omega), hst, hp]
/-- What Commit comes to, when all is known. -/
theorem commitR_ok {D D' : DocV} {n : Int} {r : Int × Int} {al : List Ch} {hs : List (Int × Int)} {s1 s2 : Int} (h : CommitR D n r D') (hal : D.all = al) (hs1 : startV D.actor al = (s1, s2)) (hh : headsR D.L = hs) (hp : D.pend ≠ []) (hW : D.W = []) (hn : hs.length ≤ 12) (hl : D.L.length < 120)
    (h1 : chE ⟨D.actor, s2, s1, hs, D.pend⟩ = 0) (h2 : findR D.L (D.actor, s2) = none) (h4 : readyL D.L ⟨D.actor, s2, s1, hs, D.pend⟩ = true) (h5 : fitsB D.L ⟨D.actor, s2, s1, hs, D.pend⟩ = true) : n = 0 ∧ D' = ⟨D.actor, D.L ++ [⟨D.actor, s2, s1, hs, D.pend⟩], [], []⟩ := by
  have hst : D.start = (s1, s2) := by unfold DocV.start; rw [hal]; exact hs1
  unfold CommitR at h
  rw [if_neg hp, hh, hW, if_neg (by simp; omega), hst] at h
  obtain ⟨L', W', hT, hr⟩ := h
  obtain ⟨e1, e2, e3⟩ := takes_new hT h1 h2 hl h4 h5
  subst e1 e2 e3
  rw [if_neg (by simp)] at hr
  exact ⟨rfl, hr.2⟩
end Go.Proofs.YthimkpkoimfkiaaGreat
namespace Go.Proofs.YthimkpkoimfkiaaGreat
open Go.RowKit Go.Maps Go.Sort
set_option linter.unusedVariables false
set_option linter.unusedSimpArgs false

def opL : OpV := makeOp (0, 0) ⟨#[108]⟩ 6
def opN : OpV := putOp (0, 0) ⟨#[110]⟩ ⟨4, 0, ⟨#[]⟩, 0, 0⟩
def chOne : Ch := ⟨1, 1, 1, [], [opL, opN]⟩
theorem sortR_nil : sortR [] = [] := sortR_is (List.Perm.refl _) List.Pairwise.nil
theorem sortR_one (r : Int × Int) : sortR [r] = [r] := sortR_is (List.Perm.refl _) (by simp)
theorem allV_nil : allV [] = [] := by rw [allV_is (L := []) (rs := []) sortR_nil]; rfl
theorem allV_chOne : allV [chOne] = [chOne] := by rw [allV_is (L := [chOne]) (rs := [(1, 1)]) (sortR_one _)]; kernel_rfl
theorem heads_nil : headsR [] = [] := by rw [headsR_is (L := []) (rs := []) sortR_nil]; rfl
theorem sortC_nil : sortC cmpId [] = [] := sortR_nil
/-- A hand that has nothing. -/
def hand0 (pend : List OpV) : DocV := ⟨1, [], [], pend⟩
theorem hand0_all (pend : List OpV) : (hand0 pend).all = [] := allV_nil
theorem hand0_make {r : Int × (Int × Int) × List OpV} (h : OnKeyR (hand0 []) (makeOp (0, 0) ⟨#[108]⟩ 6) (objectE 6) r) : r = (0, (1, 1), [opL]) := by
  have h : OnKeyR (hand0 []) (makeOp (0, 0) ⟨#[108]⟩ 6) 0 r := h
  exact onKeyR_ok h (hand0_all _) (by kernel_rfl) (f := fun _ => none) (by kernel_rfl) (l := []) (fun ids => idsOf_none) (s := 1) (by kernel_rfl) (ps := []) sortC_nil (by decide) (fun e => absurd e (by decide)) ⟨by decide, by decide, by decide, by decide⟩
theorem hand0_put {r : Int × (Int × Int) × List OpV} (h : OnKeyR (hand0 [opL]) (putOp (0, 0) ⟨#[110]⟩ ⟨4, 0, ⟨#[]⟩, 0, 0⟩) (plainE ⟨4, 0, ⟨#[]⟩, 0, 0⟩) r) : r = (0, (2, 1), [opL, opN]) := by
  have h0 : plainE ⟨4, 0, ⟨#[]⟩, 0, 0⟩ = 0 := by kernel_rfl
  rw [h0] at h
  exact onKeyR_ok h (hand0_all _) (by kernel_rfl) (f := fun _ => none) (by kernel_rfl) (l := []) (fun ids => idsOf_none) (s := 1) (by kernel_rfl) (ps := []) sortC_nil (by decide) (fun e => absurd e (by decide)) ⟨by decide, by decide, by decide, by decide⟩
theorem hand0_commit {n : Int} {r : Int × Int} {D' : DocV} (h : CommitR (hand0 [opL, opN]) n r D') : n = 0 ∧ D' = ⟨1, [chOne], [], []⟩ :=
  commitR_ok h (hand0_all _) (s1 := 1) (s2 := 1) (by kernel_rfl) (hs := []) heads_nil (by simp [hand0]) rfl (by decide) (by decide) (by kernel_rfl) (by kernel_rfl) (by kernel_rfl) (by kernel_rfl)
/-- A hand that has the first change. -/
def hand1 (actor : Int) (pend : List OpV) : DocV := ⟨actor, [chOne], [], pend⟩
theorem hand1_all (actor : Int) (pend : List OpV) : (hand1 actor pend).all = [chOne] := allV_chOne
theorem fork_chOne {n : Int} {L' W' : List Ch} (h : TakeAll [] [] [chOne] n L' W') : n = 0 ∧ L' = [chOne] ∧ W' = [] :=
  takeAll_nil (takeAll_new h (by kernel_rfl) (by kernel_rfl) (by decide) (by kernel_rfl) (by kernel_rfl))
end Go.Proofs.YthimkpkoimfkiaaGreat
