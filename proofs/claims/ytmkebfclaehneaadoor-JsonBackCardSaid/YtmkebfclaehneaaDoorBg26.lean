/- JsonLead, IndexNo. -/
import Derived.Test.YtmkebfclaehneaaDoorBg13
import Derived.Test.YtmkebfclaehneaaDoorBg25
/- The way down a path, step by step. Over no program. -/
namespace Go.Proofs.YtmkebfclaehneaaDoor
open Go.RowKit
set_option linter.unusedVariables false
set_option linter.unusedSimpArgs false

/-- These steps lead, by these places, from one tree to another. -/
def Lead : PT → List St → List Nat → PT → Prop
  | T0, [], [], T => T0 = T
  | T0, s :: p, i :: is, T => T0.tree.idx s = some i ∧ ∃ K, T0.kids[i]? = some K ∧ Lead K p is T
  | _, _, _, _ => False
theorem Lead.snoc {s : St} {i : Nat} {T K : PT} (hs : T.tree.idx s = some i) (hk : T.kids[i]? = some K) : ∀ {p : List St} {is : List Nat} {T0 : PT}, Lead T0 p is T → Lead T0 (p ++ [s]) (is ++ [i]) K := by
  intro p
  induction p with
  | nil =>
    intro is T0 h
    cases is with
    | nil => simp only [Lead] at h; subst h; exact ⟨hs, K, hk, rfl⟩
    | cons j is => exact h.elim
  | cons r p ih =>
    intro is T0 h
    cases is with
    | nil => exact h.elim
    | cons j is =>
      obtain ⟨h1, L, h2, h3⟩ := h
      exact ⟨h1, L, h2, ih h3⟩
theorem Lead.sub {T : PT} : ∀ {p : List St} {is : List Nat} {T0 : PT}, Lead T0 p is T → T0.sub is = some T := by
  intro p
  induction p with
  | nil =>
    intro is T0 h
    cases is with
    | nil => simp only [Lead] at h; subst h; rfl
    | cons j is => exact h.elim
  | cons r p ih =>
    intro is T0 h
    cases is with
    | nil => exact h.elim
    | cons j is =>
      obtain ⟨h1, L, h2, h3⟩ := h
      rw [PT.sub, h2]
      exact ih h3
theorem Lead.inJ {w : World} {T : PT} : ∀ {p : List St} {is : List Nat} {T0 : PT}, Lead T0 p is T → InJ w T0 → InJ w T := by
  intro p
  induction p with
  | nil =>
    intro is T0 h hi
    cases is with
    | nil => simp only [Lead] at h; subst h; exact hi
    | cons j is => exact h.elim
  | cons r p ih =>
    intro is T0 h hi
    cases is with
    | nil => exact h.elim
    | cons j is =>
      obtain ⟨h1, L, h2, h3⟩ := h
      exact ih h3 (hi.kid h2)
theorem Lead.formed {T : PT} : ∀ {p : List St} {is : List Nat} {T0 : PT}, Lead T0 p is T → T0.tree.formed = true → T.tree.formed = true := by
  intro p
  induction p with
  | nil =>
    intro is T0 h hi
    cases is with
    | nil => simp only [Lead] at h; subst h; exact hi
    | cons j is => exact h.elim
  | cons r p ih =>
    intro is T0 h hi
    cases is with
    | nil => exact h.elim
    | cons j is =>
      obtain ⟨h1, L, h2, h3⟩ := h
      refine ih h3 (((JT.formed_iff _).1 hi).2 _ ?_)
      rw [PT.tree_kids]
      exact List.mem_map_of_mem (List.mem_of_getElem? h2)
theorem Lead.kid {T0 L : PT} {j : Nat} (h2 : T0.kids[j]? = some L) : T0.tree.kids[j]? = some L.tree := by
  rw [PT.tree_kids, List.getElem?_map, h2]; rfl
theorem Lead.get {T : PT} (q : List St) : ∀ {p : List St} {is : List Nat} {T0 : PT}, Lead T0 p is T → T0.tree.get (p ++ q) = T.tree.get q := by
  intro p
  induction p with
  | nil =>
    intro is T0 h
    cases is with
    | nil => simp only [Lead] at h; subst h; rfl
    | cons j is => exact h.elim
  | cons r p ih =>
    intro is T0 h
    cases is with
    | nil => exact h.elim
    | cons j is =>
      obtain ⟨h1, L, h2, h3⟩ := h
      rw [List.cons_append, JT.get, h1]
      simp only [Lead.kid h2]
      exact ih h3
theorem Lead.pat {T : PT} (kind : Int) (x : JT) {s : St} {q : List St} : ∀ {p : List St} {is : List Nat} {T0 : PT}, Lead T0 p is T →
    (JT.pat kind x T.tree (s :: q) = none → JT.pat kind x T0.tree (p ++ s :: q) = none) ∧ ∀ X' : PT, JT.pat kind x T.tree (s :: q) = some X'.tree → JT.pat kind x T0.tree (p ++ s :: q) = some (PT.repl X' T0 is).tree := by
  intro p
  induction p with
  | nil =>
    intro is T0 h
    cases is with
    | nil => simp only [Lead] at h; subst h; exact ⟨fun h => h, fun X' h => h⟩
    | cons j is => exact h.elim
  | cons r p ih =>
    intro is T0 h
    cases is with
    | nil => exact h.elim
    | cons j is =>
      obtain ⟨h1, L, h2, h3⟩ := h
      obtain ⟨g1, g2⟩ := ih h3
      obtain ⟨a, l, hl⟩ : ∃ a l, p ++ s :: q = a :: l := by
        cases hp : p ++ s :: q with
        | nil => simp at hp
        | cons a l => exact ⟨a, l, rfl⟩
      rw [List.cons_append]
      rw [hl] at g1 g2 ⊢
      simp only [JT.pat, h1, Lead.kid h2]
      refine ⟨fun hn => by rw [g1 hn], fun X' hX => ?_⟩
      rw [g2 X' hX, PT.repl, h2]
      simp only [PT.setKid_tree]
/-- No such step: no such place, and no patch behind it. -/
theorem Lead.stuck {T : PT} {s : St} (hs : T.tree.idx s = none) (q : List St) {p : List St} {is : List Nat} {T0 : PT} (h : Lead T0 p is T) :
    T0.tree.get (p ++ s :: q) = none ∧ ∀ kind x r, JT.pat kind x T0.tree (p ++ s :: r :: q) = none := by
  refine ⟨?_, fun kind x r => (Lead.pat kind x h).1 ?_⟩
  · rw [Lead.get _ h, JT.get, hs]
  · simp only [JT.pat, hs]
theorem Lead.addr {s : St} {i : Nat} {T K : PT} (hk : T.kids[i]? = some K) {p : List St} {is : List Nat} {T0 : PT} (a : Addr) (h : Lead T0 p is T) : T0.addr a (is ++ [i]) = slotOf T.cA i :=
  PT.addr_snoc h.sub hk
end Go.Proofs.YtmkebfclaehneaaDoor
/- json.index: lists; and where there is no such step. -/
namespace Go.Proofs.YtmkebfclaehneaaDoor
open Go.RowKit
set_option linter.unusedVariables false
set_option linter.unusedSimpArgs false

/-- Three answers, and nothing that was there has turned. -/
def IdxQ (w : World) (a : Int) (h m : Bool) (e : Ending) (w' : World) : Prop := e = .returned (.tuple #[.int .i64 a, .bool h, .bool m]) ∧ Below w.heap.size w w'
theorem below_drewN {w w1 : World} (h : Below w.heap.size w w1) (n : Nat) : Below w.heap.size w (w1.drewN n) := ⟨h.os, h.tape, h.output, h.size, h.block⟩

set_option maxRecDepth 100000 in
set_option maxHeartbeats 2000000 in
theorem index_list (A : Option Addr) (cc cn : Nat) (b o : Nat) (key : ByteArray) (at_ : Int) (w : World) (c0 : w.cell? ⟨b, o, none⟩ = some (.int .i64 6)) (c6 : w.cell? ⟨b, o + 6, none⟩ = some (.slice A cn cc)) (hbw : b < w.heap.size) (hcl : cn ≤ 9223372036854775807)
    (h1 : key.toList = []) (d1 : 0 ≤ at_) (d2 : at_ ≤ (cn : Int)) :
    Calls Tryd.prog 36 #[.pointer (some ⟨b, o, none⟩), .agg #[.string key, .int .i64 at_]] w (IdxQ w at_ (decide (at_ < (cn : Int))) true) := by
  have hb1 : Below w.heap.size w (w.alloc (.cells #[.string key, .int .i64 at_] 64)) := (Below.refl _ _).alloc (Nat.le_refl _) _
  obtain ⟨r, hr⟩ : ∃ r, decide (at_ < (cn : Int)) = r := ⟨_, rfl⟩
  rw [hr]
  cases r
  all_goals
    have d3 := hr
    clear hr
    simp only [decide_eq_true_eq, decide_eq_false_iff_not] at d3
    go_enter Tryd.func36, Tryd.ntmps36
    go_wp2_with fail
    go_quiet ((fail))
    go_wp2_with fail
    go_quiet ((fail))
    go_wp2_with fail
    go_ret3
    refine ⟨?_, below_drewN (below_drewN hb1 _) _⟩
    first | rfl | simp_all

set_option maxRecDepth 100000 in
set_option maxHeartbeats 2000000 in
theorem index_no_a (A : Option Addr) (cc cn : Nat) (b o : Nat) (key : ByteArray) (at_ : Int) (w : World) (c0 : w.cell? ⟨b, o, none⟩ = some (.int .i64 5)) (c6 : w.cell? ⟨b, o + 6, none⟩ = some (.slice A cn cc)) (hbw : b < w.heap.size) (hcl : cn ≤ 9223372036854775807)
    (h1 : key.toList = []) :
    Calls Tryd.prog 36 #[.pointer (some ⟨b, o, none⟩), .agg #[.string key, .int .i64 at_]] w (IdxQ w 0 false false) := by
  have hb1 : Below w.heap.size w (w.alloc (.cells #[.string key, .int .i64 at_] 64)) := (Below.refl _ _).alloc (Nat.le_refl _) _
  go_enter Tryd.func36, Tryd.ntmps36
  go_wp2_with fail
  go_quiet ((fail))
  go_wp2_with fail
  go_ret3
  exact ⟨rfl, below_drewN hb1 _⟩

set_option maxRecDepth 100000 in
set_option maxHeartbeats 2000000 in
theorem index_no_b (k : Int) (A : Option Addr) (cc cn : Nat) (b o : Nat) (key : ByteArray) (at_ : Int) (w : World) (c0 : w.cell? ⟨b, o, none⟩ = some (.int .i64 k)) (c6 : w.cell? ⟨b, o + 6, none⟩ = some (.slice A cn cc)) (hbw : b < w.heap.size) (hcl : cn ≤ 9223372036854775807)
    (h5 : (k == 5) = false) (h6 : (k == 6) = false) :
    Calls Tryd.prog 36 #[.pointer (some ⟨b, o, none⟩), .agg #[.string key, .int .i64 at_]] w (IdxQ w 0 false false) := by
  have hb1 : Below w.heap.size w (w.alloc (.cells #[.string key, .int .i64 at_] 64)) := (Below.refl _ _).alloc (Nat.le_refl _) _
  go_enter Tryd.func36, Tryd.ntmps36
  go_wp2_with fail
  go_quiet ((fail))
  go_wp2_with fail
  go_ret3
  exact ⟨rfl, below_drewN hb1 _⟩

set_option maxRecDepth 100000 in
set_option maxHeartbeats 2000000 in
theorem index_no_c (A : Option Addr) (cc cn : Nat) (b o : Nat) (key : ByteArray) (at_ : Int) (w : World) (c0 : w.cell? ⟨b, o, none⟩ = some (.int .i64 5)) (c6 : w.cell? ⟨b, o + 6, none⟩ = some (.slice A cn cc)) (hbw : b < w.heap.size) (hcl : cn ≤ 9223372036854775807)
    (h1 : (!key.toList.isEmpty) = true) (h0 : (at_ == 0) = false) :
    Calls Tryd.prog 36 #[.pointer (some ⟨b, o, none⟩), .agg #[.string key, .int .i64 at_]] w (IdxQ w 0 false false) := by
  have hb1 : Below w.heap.size w (w.alloc (.cells #[.string key, .int .i64 at_] 64)) := (Below.refl _ _).alloc (Nat.le_refl _) _
  go_enter Tryd.func36, Tryd.ntmps36
  go_wp2_with fail
  go_quiet ((fail))
  go_wp2_with fail
  go_ret3
  exact ⟨rfl, below_drewN hb1 _⟩

set_option maxRecDepth 100000 in
set_option maxHeartbeats 2000000 in
theorem index_no_d (A : Option Addr) (cc cn : Nat) (b o : Nat) (key : ByteArray) (at_ : Int) (w : World) (c0 : w.cell? ⟨b, o, none⟩ = some (.int .i64 6)) (c6 : w.cell? ⟨b, o + 6, none⟩ = some (.slice A cn cc)) (hbw : b < w.heap.size) (hcl : cn ≤ 9223372036854775807)
    (h1 : (!key.toList.isEmpty) = true) (h1' : key.toList.isEmpty = false) :
    Calls Tryd.prog 36 #[.pointer (some ⟨b, o, none⟩), .agg #[.string key, .int .i64 at_]] w (IdxQ w 0 false false) := by
  have hb1 : Below w.heap.size w (w.alloc (.cells #[.string key, .int .i64 at_] 64)) := (Below.refl _ _).alloc (Nat.le_refl _) _
  go_enter Tryd.func36, Tryd.ntmps36
  go_wp2_with fail
  go_quiet ((fail))
  go_wp2_with fail
  go_ret3
  exact ⟨rfl, below_drewN hb1 _⟩

set_option maxRecDepth 100000 in
set_option maxHeartbeats 2000000 in
theorem index_no_e (A : Option Addr) (cc cn : Nat) (b o : Nat) (key : ByteArray) (at_ : Int) (w : World) (c0 : w.cell? ⟨b, o, none⟩ = some (.int .i64 6)) (c6 : w.cell? ⟨b, o + 6, none⟩ = some (.slice A cn cc)) (hbw : b < w.heap.size) (hcl : cn ≤ 9223372036854775807)
    (h1 : key.toList = []) (d1 : decide (0 ≤ at_) = false) :
    Calls Tryd.prog 36 #[.pointer (some ⟨b, o, none⟩), .agg #[.string key, .int .i64 at_]] w (IdxQ w 0 false false) := by
  have hb1 : Below w.heap.size w (w.alloc (.cells #[.string key, .int .i64 at_] 64)) := (Below.refl _ _).alloc (Nat.le_refl _) _
  go_enter Tryd.func36, Tryd.ntmps36
  go_wp2_with fail
  go_quiet ((fail))
  go_wp2_with fail
  go_ret3
  exact ⟨rfl, below_drewN hb1 _⟩

set_option maxRecDepth 100000 in
set_option maxHeartbeats 2000000 in
theorem index_no_f (A : Option Addr) (cc cn : Nat) (b o : Nat) (key : ByteArray) (at_ : Int) (w : World) (c0 : w.cell? ⟨b, o, none⟩ = some (.int .i64 6)) (c6 : w.cell? ⟨b, o + 6, none⟩ = some (.slice A cn cc)) (hbw : b < w.heap.size) (hcl : cn ≤ 9223372036854775807)
    (h1 : key.toList = []) (d1 : decide (0 ≤ at_) = true) (d2 : decide (at_ ≤ (cn : Int)) = false) :
    Calls Tryd.prog 36 #[.pointer (some ⟨b, o, none⟩), .agg #[.string key, .int .i64 at_]] w (IdxQ w 0 false false) := by
  have hb1 : Below w.heap.size w (w.alloc (.cells #[.string key, .int .i64 at_] 64)) := (Below.refl _ _).alloc (Nat.le_refl _) _
  go_enter Tryd.func36, Tryd.ntmps36
  go_wp2_with fail
  go_quiet ((fail))
  go_wp2_with fail
  go_ret3
  exact ⟨rfl, below_drewN hb1 _⟩
end Go.Proofs.YtmkebfclaehneaaDoor
