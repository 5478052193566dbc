/- JsonLaw, TextPlain. -/
import Derived.Test.YtpeckpiidgkgoaaGreatDoorPg3
import Derived.Lib.ItoaNum
/- What holds of patches that set: over no program. -/
namespace Go.Proofs.YtpeckpiidgkgoaaGreatDoor
open Go.RowKit
set_option linter.unusedVariables false
set_option linter.unusedSimpArgs false

theorem JT.eta (T : JT) : JT.node T.val T.keys T.kids = T := by cases T; rfl
theorem JT.idx_setKid (t : JT) (i : Nat) (k : JT) (s : St) : (t.setKid i k).idx s = t.idx s := by
  simp [JT.idx, JT.setKid, JT.val, JT.keys, JT.kids]
theorem JT.idx_lt {t : JT} {s : St} {i : Nat} (h : t.idx s = some i) (hf : t.top = true) : i < t.kids.length := by
  unfold JT.idx idxO at h
  split at h
  · rename_i hm
    split at h
    · rename_i hk
      injection h with h
      subst h
      have h1 := (List.getElem?_eq_some_iff.1 hk).1
      have h5 : t.val.k = 5 := by unfold isMapStep at hm; simp at hm; exact hm.1.1
      unfold JT.top at hf
      rw [if_pos h5] at hf
      simp at hf
      omega
    · cases h
  · split at h
    · split at h
      · rename_i g; injection h with h; omega
      · cases h
    · cases h
theorem JT.setKid_kid {t : JT} {i : Nat} (h : i < t.kids.length) (k : JT) : (t.setKid i k).kids[i]? = some k := by
  simp [JT.setKid, JT.kids] at *
  simp [h]
theorem JT.setKid_setKid (t : JT) (i : Nat) (a b : JT) : (t.setKid i a).setKid i b = t.setKid i b := by
  simp [JT.setKid, JT.val, JT.keys, JT.kids]
theorem JT.setKid_self {t : JT} {i : Nat} {k : JT} (h : t.kids[i]? = some k) : t.setKid i k = t := by
  have hl := (List.getElem?_eq_some_iff.1 h)
  have : t.kids.set i k = t.kids := by
    obtain ⟨g1, g2⟩ := hl
    subst g2
    exact List.set_getElem_self g1
  rw [JT.setKid, this, JT.eta]

theorem JT.top_node (v : JV) (keys : List ByteArray) (kids : List JT) : (JT.node v keys kids).top = (v.head && (if v.k = 5 then (keys.length == kids.length) && keysOk keys else if v.k = 6 then keys.length == 0 else keys.length == 0 && kids.length == 0)) := rfl
theorem JT.top_setKid (t : JT) (i : Nat) (k : JT) : (t.setKid i k).top = t.top := by
  obtain ⟨v, ks, l⟩ := t
  simp only [JT.setKid, JT.val, JT.keys, JT.kids, JT.top_node, List.length_set]
theorem JT.formed_setKid {t : JT} {i : Nat} {k : JT} (h : t.formed = true) (hk : k.formed = true) : (t.setKid i k).formed = true := by
  rw [JT.formed_iff] at h ⊢
  rw [JT.top_setKid]
  refine ⟨h.1, fun x hx => ?_⟩
  have hx' : x ∈ t.kids.set i k := hx
  rcases List.mem_or_eq_of_mem_set hx' with g | g
  · exact h.2 x g
  · rw [g]; exact hk

theorem insAt_length {α : Type} (l : List α) (i : Nat) (x : α) (h : i ≤ l.length) : (insAt l i x).length = l.length + 1 := by
  simp [insAt]; omega
theorem insAt_mem {α : Type} {l : List α} {i : Nat} {x y : α} (h : y ∈ insAt l i x) : y = x ∨ y ∈ l := by
  simp [insAt] at h
  rcases h with h | h | h
  · exact .inr (List.mem_of_mem_take h)
  · exact .inl h
  · exact .inr (List.mem_of_mem_drop h)
theorem insAt_at {α : Type} {l : List α} {i : Nat} (x : α) (h : i ≤ l.length) : (insAt l i x)[i]? = some x := by
  simp only [insAt]
  rw [List.getElem?_append_right (by rw [List.length_take]; exact Nat.min_le_left _ _)]
  simp [Nat.min_eq_left h]

/-- A key that is new to a formed map. -/
theorem JT.new_key {t : JT} {s : St} (hm : isMapStep t.val s = true) (hi : t.idx s = none) : t.keys[plc t.keys s.key]? ≠ some s.key := by
  unfold JT.idx idxO at hi
  rw [if_pos hm] at hi
  intro h
  rw [if_pos h] at hi
  cases hi

theorem JT.formed_ins {t x : JT} {s : St} (h : t.formed = true) (hx : x.formed = true) (hs : s.key.size ≤ 20) (hm : isMapStep t.val s = true) (hi : t.idx s = none) :
    (JT.node t.val (insAt t.keys (plc t.keys s.key) s.key) (insAt t.kids (plc t.keys s.key) x)).formed = true := by
  rw [JT.formed_iff] at h ⊢
  have hn := JT.new_key hm hi
  obtain ⟨h1, h2⟩ := h
  have h5 : t.val.k = 5 := by unfold isMapStep at hm; simp at hm; exact hm.1.1
  have hne : s.key.toList.isEmpty = false := by unfold isMapStep at hm; simp at hm; simp [hm.1.2]
  rw [JT.top_node, if_pos h5]
  unfold JT.top at h1
  rw [if_pos h5] at h1
  simp only [Bool.and_eq_true, beq_iff_eq] at h1 ⊢
  obtain ⟨g1, g2, g3⟩ := h1
  obtain ⟨k1, k2⟩ := (keysOk_iff _).1 g3
  have hp := plc_le t.keys s.key
  refine ⟨⟨g1, ?_, (keysOk_iff _).2 ⟨?_, rise_ins k2 hn⟩⟩, ?_⟩
  · rw [insAt_length _ _ _ hp, insAt_length _ _ _ (by omega), g2]
  · intro k hk
    rcases insAt_mem hk with rfl | hk
    · unfold keyOk
      rw [hne]
      simp
      omega
    · exact k1 k hk
  · intro k hk
    rcases insAt_mem hk with rfl | hk
    · exact hx
    · exact h2 k hk

/-- What setting makes of a formed tree is formed; and the place has it. -/
theorem JT.pat_set {x : JT} (hx : x.formed = true) : ∀ (p : List St) (t u : JT), t.formed = true → (∀ s ∈ p, s.key.size ≤ 20) → JT.pat 1 x t p = some u → u.formed = true ∧ u.get p = some x := by
  intro p
  induction p with
  | nil => intro t u _ _ h; simp [JT.pat] at h
  | cons s p ih =>
    intro t u hf hs h
    have htop := ((JT.formed_iff t).1 hf).1
    have hkids := ((JT.formed_iff t).1 hf).2
    cases p with
    | nil =>
      simp only [JT.pat] at h
      unfold JT.pat1 at h
      rw [if_pos rfl] at h
      cases hi : t.idx s with
      | some i =>
        rw [hi] at h
        simp only at h
        injection h with h
        subst h
        have hlt := JT.idx_lt hi htop
        refine ⟨JT.formed_setKid hf hx, ?_⟩
        simp only [JT.get, JT.idx_setKid, hi, JT.setKid_kid hlt]
      | none =>
        rw [hi] at h
        simp only at h
        split at h
        · rename_i hm
          injection h with h
          subst h
          refine ⟨JT.formed_ins hf hx (hs s (by simp)) hm hi, ?_⟩
          have hn := JT.new_key hm hi
          have hp := plc_le t.keys s.key
          have h5 : t.val.k = 5 := by unfold isMapStep at hm; simp at hm; exact hm.1.1
          have hpi : plc (insAt t.keys (plc t.keys s.key) s.key) s.key = plc t.keys s.key := plc_ins t.keys s.key
          have hix : (JT.node t.val (insAt t.keys (plc t.keys s.key) s.key) (insAt t.kids (plc t.keys s.key) x)).idx s = some (plc t.keys s.key) := by
            show idxO t.val (insAt t.keys (plc t.keys s.key) s.key) _ s = _
            unfold idxO
            rw [if_pos hm, hpi, insAt_at _ hp, if_pos rfl]
          have hkl : plc t.keys s.key ≤ t.kids.length := by
            unfold JT.top at htop
            rw [if_pos h5] at htop
            simp only [Bool.and_eq_true, beq_iff_eq] at htop
            omega
          rw [JT.get, hix]
          show (match (insAt t.kids (plc t.keys s.key) x)[plc t.keys s.key]? with | none => none | some k => k.get []) = _
          rw [insAt_at _ hkl]
          rfl
        · cases h
    | cons r p =>
      simp only [JT.pat] at h
      cases hi : t.idx s with
      | none => rw [hi] at h; cases h
      | some i =>
        rw [hi] at h
        simp only at h
        have hlt := JT.idx_lt hi htop
        cases hk : t.kids[i]? with
        | none => rw [hk] at h; cases h
        | some k =>
          rw [hk] at h
          simp only at h
          cases hk' : JT.pat 1 x k (r :: p) with
          | none => rw [hk'] at h; cases h
          | some k' =>
            rw [hk'] at h
            simp only at h
            injection h with h
            subst h
            obtain ⟨g1, g2⟩ := ih k k' (hkids k (List.mem_of_getElem? hk)) (fun q hq => hs q (List.mem_cons_of_mem _ hq)) hk'
            refine ⟨JT.formed_setKid hf g1, ?_⟩
            rw [JT.get]
            simp only [JT.idx_setKid, hi, JT.setKid_kid hlt]
            exact g2

/-- What was there, set again, makes the tree what it was. -/
theorem JT.pat_back {x y : JT} : ∀ (p : List St) (t u : JT), t.formed = true → t.get p = some y → JT.pat 1 x t p = some u → JT.pat 1 y u p = some t := by
  intro p
  induction p with
  | nil => intro t u _ _ h; simp [JT.pat] at h
  | cons s p ih =>
    intro t u hf hg h
    have htop := ((JT.formed_iff t).1 hf).1
    have hkids := ((JT.formed_iff t).1 hf).2
    rw [JT.get] at hg
    cases hi : t.idx s with
    | none => rw [hi] at hg; cases hg
    | some i =>
      rw [hi] at hg
      simp only at hg
      have hlt := JT.idx_lt hi htop
      cases hk : t.kids[i]? with
      | none => rw [hk] at hg; cases hg
      | some k =>
        rw [hk] at hg
        simp only at hg
        cases p with
        | nil =>
          simp only [JT.get] at hg
          injection hg with hg
          subst hg
          simp only [JT.pat] at h ⊢
          unfold JT.pat1 at h ⊢
          rw [if_pos rfl] at h ⊢
          rw [hi] at h
          simp only at h
          injection h with h
          subst h
          simp only [JT.idx_setKid, hi, JT.setKid_setKid, JT.setKid_self hk]
        | cons r p =>
          simp only [JT.pat] at h ⊢
          rw [hi] at h
          simp only at h
          rw [hk] at h
          simp only at h
          cases hk' : JT.pat 1 x k (r :: p) with
          | none => rw [hk'] at h; cases h
          | some k' =>
            rw [hk'] at h
            simp only at h
            injection h with h
            subst h
            have := ih k k' (hkids k (List.mem_of_getElem? hk)) hg hk'
            simp only [JT.idx_setKid, hi, JT.setKid_kid hlt, this, JT.setKid_setKid, JT.setKid_self hk]

/-- A tree with a plain value is a leaf. -/
theorem JT.plain_leaf {t : JT} (h : t.formed = true) (hk : t.val.k ≤ 3) : t = JT.leaf t.val := by
  have h1 := ((JT.formed_iff t).1 h).1
  unfold JT.top at h1
  rw [if_neg (by omega), if_neg (by omega)] at h1
  simp only [Bool.and_eq_true, beq_iff_eq] at h1
  obtain ⟨v, keys, kids⟩ := t
  simp only [JT.keys, JT.kids, List.length_eq_zero_iff] at h1
  obtain ⟨_, rfl, rfl⟩ := h1
  rfl
theorem JT.get_formed {t x : JT} (h : t.formed = true) : ∀ (p : List St), t.get p = some x → x.formed = true := by
  intro p
  induction p generalizing t with
  | nil => intro g; simp only [JT.get] at g; injection g with g; subst g; exact h
  | cons s p ih =>
    intro g
    rw [JT.get] at g
    cases hi : t.idx s with
    | none => rw [hi] at g; cases g
    | some i =>
      rw [hi] at g
      simp only at g
      cases hk : t.kids[i]? with
      | none => rw [hk] at g; cases g
      | some k =>
        rw [hk] at g
        exact ih (((JT.formed_iff t).1 h).2 k (List.mem_of_getElem? hk)) g
end Go.Proofs.YtpeckpiidgkgoaaGreatDoor
/- What a tree reads as, printed: plain. -/
namespace Go.Proofs.YtpeckpiidgkgoaaGreatDoor
set_option linter.unusedVariables false
set_option linter.unusedSimpArgs false

/-- A hexadecimal digit. -/
def hexU (n : Nat) : UInt8 := if n < 10 then UInt8.ofNat (48 + n) else UInt8.ofNat (87 + n)
/-- What one byte reads as between quotes. -/
def quoteB (c : UInt8) : List UInt8 := if c = 34 ∨ c = 92 then [92, c] else if c < 32 ∨ 126 < c then [92, hexU (c.toNat / 16), hexU (c.toNat % 16)] else [c]
/-- A text between quotes. -/
def quoteL (s : List UInt8) : List UInt8 := 34 :: (s.flatMap quoteB ++ [34])
theorem quoteB_len (c : UInt8) : (quoteB c).length ≤ 3 := by
  unfold quoteB
  split
  · simp
  · split <;> simp
theorem quoteL_len (s : List UInt8) : (quoteL s).length ≤ 3 * s.length + 2 := by
  have h : (s.flatMap quoteB).length ≤ 3 * s.length := by
    induction s with
    | nil => simp
    | cons c s ih =>
      have := quoteB_len c
      simp only [List.flatMap_cons, List.length_append, List.length_cons]
      omega
  simp only [quoteL, List.length_cons, List.length_append, List.length_nil]
  omega
/-- A plain value. -/
def showL (v : JV) : List UInt8 :=
  if v.k = 1 then (if v.n = 1 then [116, 114, 117, 101] else [102, 97, 108, 115, 101])
  else if v.k = 2 ∨ v.k = 4 then Go.Lib.itoa v.n
  else if v.k = 3 then quoteL v.s.data.toList
  else [110, 117, 108, 108]
theorem hexU_nat (n : Nat) (h : n < 16) : ((hexU n).toNat : Int) = if n < 10 then (n : Int) + 48 else (n : Int) + 87 := by
  unfold hexU
  split <;> simp [UInt8.toNat_ofNat] <;> omega
/-- What stands in the row ahead of byte i. -/
def quoteTo (L : List UInt8) (i : Nat) : List UInt8 := 34 :: (L.take i).flatMap quoteB
theorem quoteTo_zero (L : List UInt8) : quoteTo L 0 = [34] := rfl
theorem quoteTo_step {L : List UInt8} {i : Nat} {c : UInt8} (h : L[i]? = some c) : quoteTo L (i + 1) = quoteTo L i ++ quoteB c := by
  unfold quoteTo
  rw [List.take_add_one, h]
  simp
theorem quoteTo_end (L : List UInt8) {i : Nat} (h : L.length ≤ i) : quoteTo L i ++ [34] = quoteL L := by
  unfold quoteTo quoteL
  rw [List.take_of_length_le h]
  rfl
theorem quoteTo_len (L : List UInt8) (i : Nat) : (quoteTo L i).length ≤ 3 * L.length + 1 := by
  have h := quoteL_len (L.take i)
  have h2 : (L.take i).length ≤ L.length := by simp; omega
  simp only [quoteL, quoteTo, List.length_cons, List.length_append, List.length_nil] at *
  omega
/-- What kind of byte one is. -/
inductive QKind (c : UInt8) : Prop
  | esc (h : c = 34 ∨ c = 92) (q : quoteB c = [92, c])
  | hex (h1 : c ≠ 34) (h2 : c ≠ 92) (h : c.toNat < 32 ∨ 126 < c.toNat) (q : quoteB c = [92, hexU (c.toNat / 16), hexU (c.toNat % 16)])
  | plain (h1 : c ≠ 34) (h2 : c ≠ 92) (h : ¬ c.toNat < 32) (h' : ¬ 126 < c.toNat) (q : quoteB c = [c])
theorem qkind (c : UInt8) : QKind c := by
  by_cases h : c = 34 ∨ c = 92
  · exact .esc h (if_pos h)
  · by_cases h2 : c < 32 ∨ 126 < c
    · exact .hex (fun e => h (.inl e)) (fun e => h (.inr e)) h2 (by unfold quoteB; rw [if_neg h, if_pos h2])
    · exact .plain (fun e => h (.inl e)) (fun e => h (.inr e)) (fun e => h2 (.inl e)) (fun e => h2 (.inr e)) (by unfold quoteB; rw [if_neg h, if_neg h2])
mutual
/-- A tree. -/
def JT.text : JT → List UInt8
  | .node v keys kids => if v.k = 5 then 123 :: (JT.textL true true keys kids ++ [125]) else if v.k = 6 then 91 :: (JT.textL false true keys kids ++ [93]) else showL v
/-- Its kids: m: each behind its key; f: none is ahead. -/
def JT.textL : Bool → Bool → List ByteArray → List JT → List UInt8
  | _, _, _, [] => []
  | m, f, ks, k :: l => (if f then [] else [44]) ++ ((if m then quoteL (ks.headD ⟨#[]⟩).data.toList ++ [58] else []) ++ (k.text ++ JT.textL m false ks.tail l))
end
theorem JT.textL_snoc (m : Bool) (k : JT) : ∀ (l : List JT) (f : Bool) (ks : List ByteArray), JT.textL m f ks (l ++ [k]) = JT.textL m f ks l ++ ((if f = true ∧ l = [] then [] else [44]) ++ ((if m then quoteL ((ks.drop l.length).headD ⟨#[]⟩).data.toList ++ [58] else []) ++ k.text)) := by
  intro l
  induction l with
  | nil => intro f ks; cases f <;> simp [JT.textL]
  | cons x l ih =>
    intro f ks
    rw [List.cons_append, JT.textL, JT.textL, ih]
    simp [List.append_assoc]
end Go.Proofs.YtpeckpiidgkgoaaGreatDoor
