/- How long a formed tree's text is: plain. -/
import Derived.Test.YtfnigdbnkdofiaaDoorTextPlain
import Derived.Test.YtfnigdbnkdofiaaDoorIdPlain
import Derived.Test.YtfnigdbnkdofiaaDoorFormMap
namespace Go.Proofs.YtfnigdbnkdofiaaDoor
set_option linter.unusedVariables false
set_option linter.unusedSimpArgs false

theorem itoa_len (n : Int) (h : I64 n) : (Go.Lib.itoa n).length ≤ 21 := by
  obtain ⟨h0, h1⟩ := h
  unfold Go.Lib.itoa
  split
  · have := dd_len 19 n.natAbs (by omega)
    simp only [List.length_cons]
    omega
  · have := dd_len 19 n.toNat (by omega)
    omega
theorem ok_text {v : JV} (h : v.ok = true) (hk : v.k = 3) : v.s.size ≤ 60 := by
  unfold JV.ok at h
  rw [hk] at h
  simp at h
  omega
theorem ok_kind {v : JV} (h : v.ok = true) : 0 ≤ v.k ∧ v.k ≤ 6 := by
  unfold JV.ok at h
  split at h
  · omega
  · split at h
    · omega
    · split at h
      · omega
      · split at h
        · omega
        · split at h
          · omega
          · split at h
            · omega
            · split at h
              · omega
              · cases h
theorem showL_len (v : JV) (hn : I64 v.n) (hs : v.k = 3 → v.s.size ≤ 60) : (showL v).length ≤ 182 := by
  unfold showL
  split
  · split <;> simp
  · split
    · have := itoa_len v.n hn; omega
    · split
      · rename_i h3
        have h1 := quoteL_len v.s.data.toList
        have h2 : v.s.data.toList.length = v.s.size := rfl
        have h4 := hs h3
        omega
      · simp
mutual
/-- Numbers that fit. -/
def JT.Num : JT → Prop
  | .node v _ kids => I64 v.n ∧ JT.NumL kids
def JT.NumL : List JT → Prop
  | [] => True
  | k :: l => k.Num ∧ JT.NumL l
end
theorem JT.NumL_iff (l : List JT) : JT.NumL l ↔ ∀ k ∈ l, k.Num := by
  induction l with
  | nil => simp [JT.NumL]
  | cons x l ih => simp [JT.NumL, ih]
theorem keyOk_len {s : ByteArray} (h : keyOk s = true) : s.size ≤ 20 := by
  unfold keyOk at h
  simp at h
  omega
theorem keysFrom_len : ∀ (l : List ByteArray) (o : Option ByteArray), keysFrom o l = true → ∀ s ∈ l, s.size ≤ 20 := by
  intro l
  induction l with
  | nil => intro o _ s hs; simp at hs
  | cons x l ih =>
    intro o h s hs
    simp only [keysFrom, Bool.and_eq_true] at h
    rcases List.mem_cons.1 hs with rfl | hs
    · exact keyOk_len h.1.1
    · exact ih _ h.2 s hs
theorem top_keys {t : JT} (h : t.top = true) : (t.val.k = 5 → t.keys.length = t.kids.length ∧ ∀ s ∈ t.keys, s.size ≤ 20) ∧ (t.val.k ≠ 5 → t.keys = []) ∧ t.val.head = true := by
  unfold JT.top at h
  rw [Bool.and_eq_true] at h
  refine ⟨?_, ?_, h.1⟩
  · intro hk
    have h2 := h.2
    rw [if_pos hk] at h2
    simp only [Bool.and_eq_true, beq_iff_eq] at h2
    exact ⟨h2.1, keysFrom_len _ _ h2.2⟩
  · intro hk
    have h2 := h.2
    rw [if_neg hk] at h2
    split at h2
    · exact List.eq_nil_of_length_eq_zero (by simpa using h2)
    · simp only [Bool.and_eq_true, beq_iff_eq] at h2
      exact List.eq_nil_of_length_eq_zero h2.1
theorem quote_key_len {s : ByteArray} (h : s.size ≤ 20) : (quoteL s.data.toList).length ≤ 62 := by
  have h1 := quoteL_len s.data.toList
  have h2 : s.data.toList.length = s.size := rfl
  omega
theorem textL_len (m : Bool) : ∀ (l : List JT) (f : Bool) (ks : List ByteArray), (∀ k ∈ l, k.text.length + 64 ≤ 250 * k.size) → (m = true → ∀ s ∈ ks, s.size ≤ 20) → (JT.textL m f ks l).length ≤ 250 * JT.sizeL l := by
  intro l
  induction l with
  | nil => intro f ks _ _; simp [JT.textL]
  | cons k l ih =>
    intro f ks hk hks
    have h1 := hk k (by simp)
    have h2 := ih false ks.tail (fun x hx => hk x (by simp [hx])) (fun hm s hs => hks hm s (List.mem_of_mem_tail hs))
    rw [JT.textL]
    simp only [List.length_append, JT.sizeL]
    have h3 : (if f = true then ([] : List UInt8) else [44]).length ≤ 1 := by split <;> simp
    have h4 : (if m = true then quoteL (ks.headD ⟨#[]⟩).data.toList ++ [58] else []).length ≤ 63 := by
      split
      · rename_i hm
        have : (ks.headD ⟨#[]⟩).size ≤ 20 := by
          cases ks with
          | nil => decide
          | cons s ks => exact hks hm s (by simp)
        have := quote_key_len this
        simp only [List.length_append, List.length_singleton]
        omega
      · simp
    omega
theorem JT.text_len : ∀ (t : JT), t.formed = true → t.Num → t.text.length + 64 ≤ 250 * t.size := by
  intro t
  refine JT.ind (P := fun t => t.formed = true → t.Num → t.text.length + 64 ≤ 250 * t.size) ?_ t
  intro v keys kids ih hf hn
  obtain ⟨htop, hkids⟩ := (JT.formed_iff _).1 hf
  have hn1 : I64 v.n := by simp only [JT.Num] at hn; exact hn.1
  have hn2 := (JT.NumL_iff kids).1 (by simp only [JT.Num] at hn; exact hn.2)
  have hall : ∀ k ∈ kids, k.text.length + 64 ≤ 250 * k.size := fun k hk => ih k hk (hkids k hk) (hn2 k hk)
  obtain ⟨h5, hn5, hhd⟩ := top_keys htop
  simp only [JT.val, JT.keys, JT.kids] at h5 hn5 hhd
  have hsz : (JT.node v keys kids).size = 1 + JT.sizeL kids := by rw [JT.size]
  rw [hsz, JT.text]
  split
  · rename_i hk
    have := textL_len true kids true keys hall (fun _ => (h5 hk).2)
    simp only [List.length_cons, List.length_append, List.length_nil]
    omega
  · split
    · have := textL_len false kids true keys hall (by simp)
      simp only [List.length_cons, List.length_append, List.length_nil]
      omega
    · have := showL_len v hn1 (fun hk => ok_text (head_parts hhd).1 hk)
      omega
/-- A beginning of the kids' texts. -/
theorem textL_take (m : Bool) (f : Bool) (ks : List ByteArray) (l : List JT) (i : Nat) : (JT.textL m f ks (l.take i)).length ≤ (JT.textL m f ks l).length := by
  revert i f ks
  induction l with
  | nil => intro f ks i; simp
  | cons x l ih =>
    intro f ks i
    cases i with
    | zero => simp [JT.textL]
    | succ i =>
      rw [List.take_succ_cons, JT.textL, JT.textL]
      have := ih false ks.tail i
      simp only [List.length_append]
      omega
theorem textL_succ (m : Bool) (ks : List ByteArray) (l : List JT) (i : Nat) (k : JT) (h : l[i]? = some k) : JT.textL m true ks (l.take (i + 1)) = JT.textL m true ks (l.take i) ++ ((if i = 0 then [] else [44]) ++ ((if m then quoteL ((ks.drop i).headD ⟨#[]⟩).data.toList ++ [58] else []) ++ k.text)) := by
  have hi := (List.getElem?_eq_some_iff.1 h).1
  have hk : l[i] = k := (List.getElem?_eq_some_iff.1 h).2
  rw [List.take_succ_eq_append_getElem hi, hk, JT.textL_snoc]
  have h1 : (l.take i).length = i := by simp; omega
  have h2 : (true = true ∧ l.take i = []) ↔ i = 0 := by
    constructor
    · intro e
      have := congrArg List.length e.2
      rw [h1] at this
      simpa using this
    · intro e; subst e; simp
  rw [h1]
  congr 2
  by_cases h0 : i = 0
  · rw [if_pos (h2.2 h0), if_pos h0]
  · rw [if_neg (fun e => h0 (h2.1 e)), if_neg h0]
end Go.Proofs.YtfnigdbnkdofiaaDoor
