/- doc.Doc.Get, where what it comes to is known. -/
import Derived.Test.YthimkpkoimfkiaaGreatCg40
namespace Go.Proofs.YthimkpkoimfkiaaGreat
open Go.RowKit Go.Maps Go.Sort
set_option linter.unusedVariables false
set_option linter.unusedSimpArgs false

/-- What Get answers, when all is known. -/
def GotQ (w : World) (f : Vm) (l : List (Int × Int)) (e : Ending) (w' : World) : Prop := ∃ (A : Option Addr) (c : Nat), e = .returned (.tuple #[.slice A l.length c, .nilIface]) ∧ SlAt w' A (valsCells f l) ∧ Below w.heap.size w w'
theorem hand_get {w : World} {K : Nat → Prop} {db : Nat} {D : DocV} {key : ByteArray} {al : List Ch} {f : Vm} {l : List (Int × Int)} (H : DocA w K db D) (hni : D.noIns) (hks : key.size ≤ maxLen) (hal : D.all = al) (hE : keyedE (doOps (doChs stNew al) D.actor (startV D.actor al).1 D.pend) (0, 0) key = 0)
    (hf : (doOps (doChs stNew al) D.actor (startV D.actor al).1 D.pend).mv ((0, 0), key, (0, 0)) = f) (hl : ∀ ids, IdsOf f ids → ids = l) :
    Calls Tryz.prog 9 #[.pointer (some ⟨db, 0, none⟩), .agg #[.int .i64 0, .int .i64 0], .string key] w (GotQ w f l) := by
  have hs : D.state = doOps (doChs stNew al) D.actor (startV D.actor al).1 D.pend := by
    unfold DocV.state DocV.start
    rw [hal]
  refine (docGet_any K db D (0, 0) key w H hni i2_00 hks).mono ?_
  rintro e w' ⟨hb, h⟩
  rw [hs, hE, if_neg (by simp)] at h
  obtain ⟨ids, A, c, h1, rfl, h2⟩ := h
  rw [hf] at h1 h2
  have := hl ids h1
  subst this
  exact ⟨A, c, rfl, h2, hb⟩
theorem Pair.get {z : Nat} {w : World} {a b : Nat} {Da Db : DocV} (h : Pair z w a b Da Db) {F : FuncId} {args : Array Value} {Q : Ending → World → Prop} (hc : ∀ K, DocA w K a Da → Calls Tryz.prog F args w Q) : Calls Tryz.prog F args w Q := by
  obtain ⟨Ka, Kb, h1, h2, h3⟩ := h
  exact hc Ka h1.fst
end Go.Proofs.YthimkpkoimfkiaaGreat
