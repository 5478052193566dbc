/- Two hands that share nothing: their steps. The elements of a list, in their order: plain. -/
import Derived.Test.YteknflimfdkhoaaGreatDg40
import Derived.Test.YteknflimfdkhoaaGreatDg5
import Derived.Test.YteknflimfdkhoaaGreatDg20
namespace Go.Proofs.YteknflimfdkhoaaGreat
open Go.RowKit Go.Maps Go.Sort
set_option linter.unusedVariables false
set_option linter.unusedSimpArgs false

/-- Two hands in memory from z on. -/
def Pair (z : Nat) (w : World) (a b : Nat) (Da Db : DocV) : Prop := ∃ Ka Kb, Two w Ka Kb a b Da Db ∧ (∀ i, Ka i ∨ Kb i → z ≤ i) ∧ z ≤ w.heap.size
def PairQ (z : Nat) (w : World) (a b : Nat) (Da Db : DocV) (V : Value → Prop) (e : Ending) (w' : World) : Prop := ∃ v, V v ∧ e = .returned v ∧ Pair z w' a b Da Db ∧ Below z w w'
/-- A step of one hand: what it answers is one of V. -/
def HandQ (w : World) (K : Nat → Prop) (db : Nat) (D : DocV) (V : Value → Prop) (e : Ending) (w' : World) : Prop := ∃ v, V v ∧ e = .returned v ∧ DocA w' (fun i => K i ∨ w.heap.size ≤ i) db D ∧ Only K w w'
theorem Pair.swap {z : Nat} {w : World} {a b : Nat} {Da Db : DocV} (h : Pair z w a b Da Db) : Pair z w b a Db Da := by
  obtain ⟨Ka, Kb, h1, h2, h3⟩ := h
  exact ⟨Kb, Ka, h1.swap, fun i hi => h2 i hi.symm, h3⟩
theorem Pair.below {z : Nat} {w w' : World} {a b : Nat} {Da Db : DocV} (h : Pair z w a b Da Db) (hb : Below w.heap.size w w') : Pair z w' a b Da Db := by
  obtain ⟨Ka, Kb, h1, h2, h3⟩ := h
  exact ⟨_, _, h1.below hb, fun i hi => h2 i (hi.imp And.left And.left), Nat.le_trans h3 hb.size⟩
theorem Pair.low {z : Nat} {w : World} {a b : Nat} {Da Db : DocV} (h : Pair z w a b Da Db) : z ≤ w.heap.size := by
  obtain ⟨Ka, Kb, h1, h2, h3⟩ := h
  exact h3
theorem Pair.step {z : Nat} {w : World} {a b : Nat} {Da Db D' : DocV} {V : Value → Prop} (h : Pair z w a b Da Db) {F : FuncId} {args : Array Value} (hc : ∀ K, DocA w K a Da → Calls Tryz.prog F args w (HandQ w K a D' V)) : Calls Tryz.prog F args w (PairQ z w a b D' Db V) := by
  obtain ⟨Ka, Kb, h1, h2, h3⟩ := h
  refine (hc Ka h1.fst).mono ?_
  rintro e w' ⟨v, hv, rfl, hD, ho⟩
  refine ⟨v, hv, rfl, ⟨_, _, h1.step hD ho, fun i hi => ?_, Nat.le_trans h3 ho.size⟩, ho.below h3 (fun k hk e => by have := h2 k (.inl e); omega)⟩
  rcases hi with (hi | hi) | hi
  · exact h2 i (.inl hi)
  · omega
  · exact h2 i (.inr hi.1)
/-- .. where the step looks at the other one too. -/
theorem Pair.step2 {z : Nat} {w : World} {a b : Nat} {Da Db D' : DocV} {V : Value → Prop} (h : Pair z w a b Da Db) {F : FuncId} {args : Array Value} (hc : ∀ K K2, DocA w K a Da → DocA w K2 b Db → Calls Tryz.prog F args w (HandQ w K a D' V)) : Calls Tryz.prog F args w (PairQ z w a b D' Db V) := by
  obtain ⟨Ka, Kb, h1, h2, h3⟩ := id h
  exact h.step (fun K hK => hc K Kb hK h1.snd)
theorem PairQ.swap {z : Nat} {w : World} {a b : Nat} {Da Db : DocV} {V : Value → Prop} {e : Ending} {w' : World} (h : PairQ z w a b Da Db V e w') : PairQ z w b a Db Da V e w' := by
  obtain ⟨v, h1, h2, h3, h4⟩ := h
  exact ⟨v, h1, h2, h3.swap, h4⟩
theorem Pair.stepS {z : Nat} {w : World} {a b : Nat} {Da Db D' : DocV} {V : Value → Prop} (h : Pair z w a b Da Db) {F : FuncId} {args : Array Value} (hc : ∀ K, DocA w K b Db → Calls Tryz.prog F args w (HandQ w K b D' V)) : Calls Tryz.prog F args w (PairQ z w a b Da D' V) :=
  (h.swap.step hc).mono (fun e w' k => k.swap)
theorem Pair.step2S {z : Nat} {w : World} {a b : Nat} {Da Db D' : DocV} {V : Value → Prop} (h : Pair z w a b Da Db) {F : FuncId} {args : Array Value} (hc : ∀ K K2, DocA w K b Db → DocA w K2 a Da → Calls Tryz.prog F args w (HandQ w K b D' V)) : Calls Tryz.prog F args w (PairQ z w a b Da D' V) :=
  (h.swap.step2 hc).mono (fun e w' k => k.swap)
/-- No error. -/
def VNil (v : Value) : Prop := v = .nilIface
/-- A ref, and no error. -/
def VRef (v : Value) : Prop := ∃ r1 r2 : Int, v = .tuple #[.agg #[.int .i64 r1, .int .i64 r2], .nilIface]
/-- A ref, and whatever error. -/
def VRefE (v : Value) : Prop := ∃ (r1 r2 : Int) (n : Int), v = .tuple #[.agg #[.int .i64 r1, .int .i64 r2], errC n]
/-- A number, and no error. -/
def VNum (v : Value) : Prop := ∃ n : Int, v = .tuple #[.int .i64 n, .nilIface]
/-- Put, where what it comes to is known. -/
theorem hand_put {w : World} {K : Nat → Prop} {db : Nat} {D : DocV} {key : ByteArray} {v : JV} {l : List OpV} (H : DocA w K db D) (hni : D.noIns) (hks : key.size ≤ maxLen) (hv : v.Fit) (hr : ∀ r, OnKeyR D (putOp (0, 0) key v) (plainE v) r → r.1 = 0 ∧ r.2.2 = l) :
    Calls Tryz.prog 12 #[.pointer (some ⟨db, 0, none⟩), .agg #[.int .i64 0, .int .i64 0], .string key, .agg #[.int .i64 v.k, .int .i64 v.n, .string v.s, .int .i64 v.o, .int .i64 v.p]] w (HandQ w K db { D with pend := l } VNil) := by
  refine (docPut_any K db D (0, 0) key v w H hni i2_00 hks hv).mono ?_
  rintro e w' ⟨r, h, rfl, hD, ho⟩
  obtain ⟨e1, e2⟩ := hr r h
  rw [e1]
  rw [e2] at hD
  exact ⟨_, rfl, rfl, hD, ho⟩
theorem hand_commit {w : World} {K : Nat → Prop} {db : Nat} {D D2 : DocV} (H : DocA w K db D) (hr : ∀ n r D', CommitR D n r D' → n = 0 ∧ D' = D2) : Calls Tryz.prog 6 #[.pointer (some ⟨db, 0, none⟩)] w (HandQ w K db D2 VRef) := by
  refine (docCommit_any K db D w H).mono ?_
  rintro e w' ⟨n, r, D', h, rfl, hD, ho⟩
  obtain ⟨rfl, rfl⟩ := hr n r D' h
  exact ⟨_, ⟨_, _, rfl⟩, rfl, hD, ho⟩
theorem hand_commitE {w : World} {K : Nat → Prop} {db : Nat} {D D2 : DocV} (H : DocA w K db D) (hr : ∀ n r D', CommitR D n r D' → D' = D2) : Calls Tryz.prog 6 #[.pointer (some ⟨db, 0, none⟩)] w (HandQ w K db D2 VRefE) := by
  refine (docCommit_any K db D w H).mono ?_
  rintro e w' ⟨n, r, D', h, rfl, hD, ho⟩
  obtain rfl := hr n r D' h
  exact ⟨_, ⟨_, _, n, rfl⟩, rfl, hD, ho⟩
theorem hand_merge {w : World} {K K2 : Nat → Prop} {db eb : Nat} {D E : DocV} {L2 : List Ch} (H : DocA w K db D) (HE : DocA w K2 eb E) (hp : D.pend = []) (hW : D.W = []) (hr : ∀ n e L' W', MergeR D.L [] 0 E.all n e L' W' → e = 0 ∧ L' = L2 ∧ W' = []) :
    Calls Tryz.prog 7 #[.pointer (some ⟨db, 0, none⟩), .pointer (some ⟨eb, 0, none⟩)] w (HandQ w K db ⟨D.actor, L2, [], []⟩ VNum) := by
  refine (docMerge_any K K2 db eb D E w H HE).mono ?_
  rintro e w' ⟨n, er, L', W', h, rfl, hD, ho⟩
  rw [if_pos hp, hW] at h
  obtain ⟨rfl, rfl, rfl⟩ := hr _ _ _ _ h
  rw [hp] at hD
  exact ⟨_, ⟨n, rfl⟩, rfl, hD, ho⟩
end Go.Proofs.YteknflimfdkhoaaGreat
namespace Go.Proofs.YteknflimfdkhoaaGreat
open Go.RowKit Go.Sort
set_option linter.unusedVariables false
set_option linter.unusedSimpArgs false

/-- What stands behind one, the least first. -/
def kidsOf (s : Sta) (obj n : Int × Int) : List (Int × Int) := sortC cmpId ((s.kids (obj, ⟨#[]⟩, n)).getD [])
/-- The elements behind those that stand on a stack (its top first). -/
def elemsF (s : Sta) (obj : Int × Int) : Nat → List (Int × Int) → List (Int × Int)
  | 0, _ => []
  | _, [] => []
  | k + 1, n :: r => (if n = (0, 0) then [] else [n]) ++ elemsF s obj k ((kidsOf s obj n).reverse ++ r)
/-- The stack is empty after so many turns. -/
def doneE (s : Sta) (obj : Int × Int) : Nat → List (Int × Int) → Prop
  | _, [] => True
  | 0, _ :: _ => False
  | k + 1, n :: r => doneE s obj k ((kidsOf s obj n).reverse ++ r)
theorem elemsF_nil (s : Sta) (obj : Int × Int) (k : Nat) : elemsF s obj k [] = [] := by cases k <;> rfl
theorem doneE_len (s : Sta) (obj : Int × Int) : ∀ (k : Nat) (l : List (Int × Int)), doneE s obj k l → l.length ≤ k
  | k, [], _ => Nat.zero_le _
  | 0, _ :: _, h => h.elim
  | k + 1, n :: r, h => by
    have := doneE_len s obj k _ h
    rw [List.length_append] at this
    show r.length + 1 ≤ k + 1
    omega
theorem elemsF_len (s : Sta) (obj : Int × Int) : ∀ (k : Nat) (l : List (Int × Int)), (elemsF s obj k l).length ≤ k
  | 0, _ => Nat.le_refl _
  | k + 1, [] => Nat.zero_le _
  | k + 1, n :: r => by
    have := elemsF_len s obj k ((kidsOf s obj n).reverse ++ r)
    show ((if n = (0, 0) then [] else [n]) ++ elemsF s obj k ((kidsOf s obj n).reverse ++ r)).length ≤ k + 1
    rw [List.length_append]
    split <;> simp <;> omega
end Go.Proofs.YteknflimfdkhoaaGreat
