/- What a tree reads as, printed: plain. -/
import Derived.Test.YtfnigdbnkdofiaaDoorJsonLaw
import Derived.Lib.ItoaNum
namespace Go.Proofs.YtfnigdbnkdofiaaDoor
set_option linter.unusedVariables false
set_option linter.unusedSimpArgs false

/-- A hexadecimal digit. -/
def hexU (n : Nat) : UInt8 := if n < 10 then UInt8.ofNat (48 + n) else UInt8.ofNat (87 + n)
/-- What one byte reads as between quotes. -/
def quoteB (c : UInt8) : List UInt8 := if c = 34 ∨ c = 92 then [92, c] else if c < 32 ∨ 126 < c then [92, hexU (c.toNat / 16), hexU (c.toNat % 16)] else [c]
/-- A text between quotes. -/
def quoteL (s : List UInt8) : List UInt8 := 34 :: (s.flatMap quoteB ++ [34])
theorem quoteB_len (c : UInt8) : (quoteB c).length ≤ 3 := by
  unfold quoteB
  split
  · simp
  · split <;> simp
theorem quoteL_len (s : List UInt8) : (quoteL s).length ≤ 3 * s.length + 2 := by
  have h : (s.flatMap quoteB).length ≤ 3 * s.length := by
    induction s with
    | nil => simp
    | cons c s ih =>
      have := quoteB_len c
      simp only [List.flatMap_cons, List.length_append, List.length_cons]
      omega
  simp only [quoteL, List.length_cons, List.length_append, List.length_nil]
  omega
/-- A plain value. -/
def showL (v : JV) : List UInt8 :=
  if v.k = 1 then (if v.n = 1 then [116, 114, 117, 101] else [102, 97, 108, 115, 101])
  else if v.k = 2 ∨ v.k = 4 then Go.Lib.itoa v.n
  else if v.k = 3 then quoteL v.s.data.toList
  else [110, 117, 108, 108]
theorem hexU_nat (n : Nat) (h : n < 16) : ((hexU n).toNat : Int) = if n < 10 then (n : Int) + 48 else (n : Int) + 87 := by
  unfold hexU
  split <;> simp [UInt8.toNat_ofNat] <;> omega
/-- What stands in the row ahead of byte i. -/
def quoteTo (L : List UInt8) (i : Nat) : List UInt8 := 34 :: (L.take i).flatMap quoteB
theorem quoteTo_zero (L : List UInt8) : quoteTo L 0 = [34] := rfl
theorem quoteTo_step {L : List UInt8} {i : Nat} {c : UInt8} (h : L[i]? = some c) : quoteTo L (i + 1) = quoteTo L i ++ quoteB c := by
  unfold quoteTo
  rw [List.take_add_one, h]
  simp
theorem quoteTo_end (L : List UInt8) {i : Nat} (h : L.length ≤ i) : quoteTo L i ++ [34] = quoteL L := by
  unfold quoteTo quoteL
  rw [List.take_of_length_le h]
  rfl
theorem quoteTo_len (L : List UInt8) (i : Nat) : (quoteTo L i).length ≤ 3 * L.length + 1 := by
  have h := quoteL_len (L.take i)
  have h2 : (L.take i).length ≤ L.length := by simp; omega
  simp only [quoteL, quoteTo, List.length_cons, List.length_append, List.length_nil] at *
  omega
/-- What kind of byte one is. -/
inductive QKind (c : UInt8) : Prop
  | esc (h : c = 34 ∨ c = 92) (q : quoteB c = [92, c])
  | hex (h1 : c ≠ 34) (h2 : c ≠ 92) (h : c.toNat < 32 ∨ 126 < c.toNat) (q : quoteB c = [92, hexU (c.toNat / 16), hexU (c.toNat % 16)])
  | plain (h1 : c ≠ 34) (h2 : c ≠ 92) (h : ¬ c.toNat < 32) (h' : ¬ 126 < c.toNat) (q : quoteB c = [c])
theorem qkind (c : UInt8) : QKind c := by
  by_cases h : c = 34 ∨ c = 92
  · exact .esc h (if_pos h)
  · by_cases h2 : c < 32 ∨ 126 < c
    · exact .hex (fun e => h (.inl e)) (fun e => h (.inr e)) h2 (by unfold quoteB; rw [if_neg h, if_pos h2])
    · exact .plain (fun e => h (.inl e)) (fun e => h (.inr e)) (fun e => h2 (.inl e)) (fun e => h2 (.inr e)) (by unfold quoteB; rw [if_neg h, if_neg h2])
mutual
/-- A tree. -/
def JT.text : JT → List UInt8
  | .node v keys kids => if v.k = 5 then 123 :: (JT.textL true true keys kids ++ [125]) else if v.k = 6 then 91 :: (JT.textL false true keys kids ++ [93]) else showL v
/-- Its kids: m: each behind its key; f: none is ahead. -/
def JT.textL : Bool → Bool → List ByteArray → List JT → List UInt8
  | _, _, _, [] => []
  | m, f, ks, k :: l => (if f then [] else [44]) ++ ((if m then quoteL (ks.headD ⟨#[]⟩).data.toList ++ [58] else []) ++ (k.text ++ JT.textL m false ks.tail l))
end
theorem JT.textL_snoc (m : Bool) (k : JT) : ∀ (l : List JT) (f : Bool) (ks : List ByteArray), JT.textL m f ks (l ++ [k]) = JT.textL m f ks l ++ ((if f = true ∧ l = [] then [] else [44]) ++ ((if m then quoteL ((ks.drop l.length).headD ⟨#[]⟩).data.toList ++ [58] else []) ++ k.text)) := by
  intro l
  induction l with
  | nil => intro f ks; cases f <;> simp [JT.textL]
  | cons x l ih =>
    intro f ks
    rw [List.cons_append, JT.textL, JT.textL, ih]
    simp [List.append_assoc]
end Go.Proofs.YtfnigdbnkdofiaaDoor
