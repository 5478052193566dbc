/- GetHead, PathsPlain. -/
import Derived.Test.YtmkebfclaehneaaDoorBg27
import Derived.Test.YtmkebfclaehneaaDoorBg17
import Derived.Test.YtmkebfclaehneaaDoorBg8
/- json.Get: what it and others share: the contract. -/
namespace Go.Proofs.YtmkebfclaehneaaDoor
open Go.RowKit
set_option linter.unusedVariables false
set_option linter.unusedSimpArgs false

/-- What Get gives. -/
def GetQ (w : World) (T : PT) (p : List St) (e : Ending) (w' : World) : Prop :=
  Below w.heap.size w w' ∧ ((checkV T.tree ≠ .nilIface ∧ e = .returned (.tuple #[zTree, checkV T.tree])) ∨
    (checkV T.tree = .nilIface ∧ ((T.tree.get p = none ∧ e = .returned (.tuple #[zTree, .iface 44 (.int .i64 6)])) ∨
      ∃ T' : PT, T.tree.get p = some T'.tree ∧ e = .returned (.tuple #[T'.value, .nilIface]) ∧ OwnJ 9 29 w' T' ∧ T'.own.Nodup ∧ ∀ b ∈ T'.own, w.heap.size ≤ b)))

end Go.Proofs.YtmkebfclaehneaaDoor
/- Where a value stands in a tree: plain. Over no program. -/
namespace Go.Proofs.YtmkebfclaehneaaDoor
open Go.RowKit
set_option linter.unusedVariables false
set_option linter.unusedSimpArgs false

def JV.same (a b : JV) : Bool := a.k == b.k && a.n == b.n && decide (a.s = b.s) && a.o == b.o && a.p == b.p
theorem JV.same_iff (a b : JV) : a.same b = true ↔ a = b := by
  obtain ⟨k, n, s, o, p⟩ := a
  obtain ⟨k', n', s', o', p'⟩ := b
  simp [JV.same, and_assoc]

/-- The step to kid i. -/
def stepAt (v : JV) (keys : List ByteArray) (i : Nat) : St := if v.k = 5 then ⟨keys[i]?.getD ⟨#[]⟩, 0⟩ else ⟨⟨#[]⟩, i⟩

def hitP (x v : JV) (p : List St) : List (List St) := if v.same x then [p] else []
mutual
def JT.paths (x : JV) : JT → List St → List (List St)
  | .node v keys kids, p => hitP x v p ++ JT.pathsL x v keys 0 kids p
def JT.pathsL (x : JV) (v : JV) (keys : List ByteArray) : Nat → List JT → List St → List (List St)
  | _, [], _ => []
  | i, k :: l, p => JT.paths x k (p ++ [stepAt v keys i]) ++ JT.pathsL x v keys (i + 1) l p
end
theorem JT.paths_eq (x : JV) (T : JT) (p : List St) : T.paths x p = hitP x T.val p ++ JT.pathsL x T.val T.keys 0 T.kids p := by
  cases T; simp [JT.paths, JT.val, JT.keys, JT.kids]
theorem JT.pathsL_snoc (x v : JV) (keys : List ByteArray) (p : List St) : ∀ (l : List JT) (i : Nat) (k : JT), JT.pathsL x v keys i (l ++ [k]) p = JT.pathsL x v keys i l p ++ k.paths x (p ++ [stepAt v keys (i + l.length)]) := by
  intro l
  induction l with
  | nil => intro i k; simp [JT.pathsL]
  | cons a l ih =>
    intro i k
    simp only [List.cons_append, JT.pathsL, ih, List.append_assoc, List.length_cons]
    rw [show i + 1 + l.length = i + (l.length + 1) from by omega]
theorem JT.pathsL_take (x v : JV) (keys : List ByteArray) (p : List St) {l : List JT} {i : Nat} {k : JT} (h : l[i]? = some k) : JT.pathsL x v keys 0 (l.take (i + 1)) p = JT.pathsL x v keys 0 (l.take i) p ++ k.paths x (p ++ [stepAt v keys i]) := by
  have hlt := (List.getElem?_eq_some_iff.1 h).1
  rw [List.take_add_one, h, Option.toList_some, JT.pathsL_snoc, Nat.zero_add, List.length_take, Nat.min_eq_left (by omega)]

/-- No more places than trees. -/
theorem JT.paths_len (x : JV) : ∀ (T : JT) (p : List St), (T.paths x p).length ≤ T.size := by
  intro T
  refine JT.ind (P := fun T => ∀ p, (T.paths x p).length ≤ T.size) ?_ T
  intro v keys kids ih p
  rw [JT.paths_eq, JT.size_eq]
  simp only [JT.val, JT.keys, JT.kids, List.length_append]
  have h1 : (hitP x v p).length ≤ 1 := by unfold hitP; split <;> simp
  have h2 : ∀ (l : List JT) (i : Nat), (∀ k ∈ l, ∀ p, (k.paths x p).length ≤ k.size) → (JT.pathsL x v keys i l p).length ≤ JT.sizeL l := by
    intro l
    induction l with
    | nil => intro i _; simp [JT.pathsL]
    | cons k l ihl =>
      intro i hk
      simp only [JT.pathsL, List.length_append, JT.sizeL]
      have a := hk k (by simp) (p ++ [stepAt v keys i])
      have b := ihl (i + 1) (fun k' h => hk k' (List.mem_cons_of_mem _ h))
      omega
  have := h2 kids 0 ih
  omega

theorem JT.pathsL_len (x v : JV) (keys : List ByteArray) (p : List St) : ∀ (l : List JT) (i : Nat), (JT.pathsL x v keys i l p).length ≤ JT.sizeL l := by
  intro l
  induction l with
  | nil => intro i; simp [JT.pathsL]
  | cons k l ihl =>
    intro i
    simp only [JT.pathsL, List.length_append, JT.sizeL]
    have a := JT.paths_len x k (p ++ [stepAt v keys i])
    have b := ihl (i + 1)
    omega
theorem hitP_len (x v : JV) (p : List St) : (hitP x v p).length ≤ 1 := by unfold hitP; split <;> simp

/-- A path in memory. -/
structure SP where
  A : Option Addr
  c : Nat
  p : List St
def SP.cell (s : SP) : Value := .slice s.A s.p.length s.c
end Go.Proofs.YtmkebfclaehneaaDoor
