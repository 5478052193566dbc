/- PrintBack, TreeDefs. -/
import Derived.Test.YtmkebfclaehneaaDoorBg9
import Derived.Test.YtmkebfclaehneaaDoorBg17
/- What is read is printed as the text that it was. Over no program. -/
namespace Go.Proofs.YtmkebfclaehneaaDoor
open Go.RowKit
set_option linter.unusedVariables false
set_option linter.unusedSimpArgs false

theorem bytes_list {l : List Nat} (h : Bytes l) : (l.map UInt8.ofNat).map UInt8.toNat = l := by
  rw [List.map_map]
  conv => rhs; rw [← List.map_id l]
  apply List.map_congr_left
  intro c hc
  have := h c hc
  simp
  omega
theorem bytes_drop {l : List Nat} (h : Bytes l) (p : Nat) : Bytes (l.drop p) := fun c hc => h c (List.mem_of_mem_drop hc)
theorem unq_text {l : List Nat} (hl : Bytes l) {b : List Nat} {n : Nat} (h : unq l = some (b, n)) : ∃ B : List UInt8, b = B.map UInt8.toNat ∧ n = (quoteL B).length ∧ ∃ r, l = (quoteL B).map UInt8.toNat ++ r := by
  rw [← bytes_list hl] at h
  obtain ⟨B, hB, ht⟩ := unq_back _ _ _ h
  have hn := unq_len h
  rw [List.length_map] at hn
  refine ⟨B, hB, ?_, l.drop n, ?_⟩
  · rw [← ht, List.length_take]
    omega
  · rw [← ht, List.map_take, bytes_list hl, List.take_append_drop]
theorem txtF_text {m : Nat} {l : List Nat} (hl : Bytes l) {k : ByteArray} {n : Nat} (h : txtF m l = some (k, n)) : k.size ≤ m ∧ n = (quoteL k.data.toList).length ∧ ∃ r, l = (quoteL k.data.toList).map UInt8.toNat ++ r := by
  unfold txtF at h
  split at h
  · rename_i b n' hu
    split at h
    · rename_i hb
      cases h
      obtain ⟨B, e, e2, r, e3⟩ := unq_text hl hu
      have : (ofN b).data.toList = B := by
        rw [e]
        unfold ofN
        simp only [List.map_map]
        have : (UInt8.ofNat ∘ UInt8.toNat) = id := by funext c; simp
        rw [this, List.map_id]
      have hsz : (ofN b).size = b.length := by unfold ofN; simp [ByteArray.size]
      rw [this]
      exact ⟨by omega, e2, r, e3⟩
    · cases h
  · cases h
/-- A tree that was read from there to there. -/
def ReadT (s : List Nat) (pos left : Nat) (T : JT) (a l : Nat) : Prop := T.formed = true ∧ T.NumFit ∧ l + T.size = left ∧ (∃ r, s.drop pos = T.text.map UInt8.toNat ++ r) ∧ a = pos + T.text.length
/-- Kids that were read, behind those that are there. -/
def ReadK (s : List Nat) (kind : Int) (endc : Nat) (m : Bool) (pos left : Nat) (keys : List ByteArray) (kids : List JT) (T : JT) (a l : Nat) : Prop :=
  ∃ ks k l', T = .node (kindV kind) (keys ++ ks) (kids ++ k :: l') ∧ (∀ x ∈ k :: l', x.formed = true ∧ x.NumFit) ∧ (if m then ks.length = l'.length + 1 ∧ keysFrom keys.getLast? ks = true else ks = []) ∧ l + JT.sizeL (k :: l') = left ∧ (∃ r, s.drop pos = (JT.textL m true ks (k :: l')).map UInt8.toNat ++ endc :: r) ∧ a = pos + (JT.textL m true ks (k :: l')).length + 1
def ReadV (s : List Nat) (kind : Int) (endc : Nat) (m : Bool) (pos left : Nat) (keys : List ByteArray) (kids : List JT) (T : JT) (a l : Nat) : Prop :=
  ∃ ks k l', T = .node (kindV kind) (keys ++ ks) (kids ++ k :: l') ∧ (∀ x ∈ k :: l', x.formed = true ∧ x.NumFit) ∧ (if m then ks.length = l'.length ∧ keysFrom keys.getLast? ks = true else ks = []) ∧ l + JT.sizeL (k :: l') = left ∧ (∃ r, s.drop pos = k.text.map UInt8.toNat ++ ((JT.textL m false ks l').map UInt8.toNat ++ endc :: r)) ∧ a = pos + k.text.length + (JT.textL m false ks l').length + 1
theorem keys_snoc (keys : List ByteArray) (x : ByteArray) (ks : List ByteArray) : keysFrom (keys ++ [x]).getLast? ks = keysFrom (some x) ks := by simp
theorem read_kids (N : List Nat → Option Int) (s : List Nat) (hs : Bytes s) (kind : Int) (m : Bool) (endc : Nat) (hm : (kind = 5 ∧ m = true ∧ endc = 125) ∨ (kind = 6 ∧ m = false ∧ endc = 93)) (f : Nat)
    (hV : ∀ pos left keys kids T a l, pV N s f kind endc pos left keys kids = .ok T a l → ReadV s kind endc m pos left keys kids T a l) :
    ∀ pos left keys kids T a l, pK N s (f + 1) kind endc pos left keys kids = .ok T a l → ReadK s kind endc m pos left keys kids T a l := by
  intro pos left keys kids T a l h
  rw [pK] at h
  rcases hm with ⟨e1, e2, e3⟩ | ⟨e1, e2, e3⟩
  · rw [if_pos e1] at h
    split at h
    · cases h
    · rename_i x n hx
      split at h
      · cases h
      · rename_i hka
        split at h
        · rename_i hc
          obtain ⟨ks, k, l', g1, g2, g3, g4, ⟨r, g5⟩, g6⟩ := hV _ _ _ _ _ _ _ h
          subst e2
          simp only [if_true] at g3
          obtain ⟨t1, t2, r0, t3⟩ := txtF_text (bytes_drop hs pos) hx
          have hka' : keyAfter keys x = true := by simpa using hka
          unfold keyAfter at hka'
          rw [Bool.and_eq_true] at hka'
          have hd2 := drop_more t3
          rw [List.length_map, ← t2] at hd2
          refine ⟨x :: ks, k, l', by rw [g1]; simp, g2, ?_, g4, ⟨r, ?_⟩, ?_⟩
          · simp only [if_true]
            refine ⟨by simp [g3.1], ?_⟩
            rw [keysFrom.eq_def]
            simp only [Bool.and_eq_true]
            refine ⟨⟨?_, hka'.2⟩, ?_⟩
            · unfold keyOk
              rw [Bool.and_eq_true]
              exact ⟨hka'.1, by simp; omega⟩
            · rw [← keys_snoc keys]; exact g3.2
          · rw [t3]
            rw [at_drop0, hd2] at hc
            rw [← List.drop_drop, hd2] at g5
            rw [JT.textL]
            cases r0 with
            | nil => simp at hc
            | cons c r0 =>
              simp at hc
              simp only [List.drop_succ_cons, List.drop_zero] at g5
              simp [g5, hc]
          · rw [g6, JT.textL, t2]
            simp
            omega
        · cases h
  · rw [if_neg (by omega)] at h
    obtain ⟨ks, k, l', g1, g2, g3, g4, ⟨r, g5⟩, g6⟩ := hV _ _ _ _ _ _ _ h
    subst e2
    simp only [Bool.false_eq_true, if_false] at g3
    subst g3
    refine ⟨[], k, l', g1, g2, by simp, g4, ⟨r, ?_⟩, ?_⟩
    · rw [g5, JT.textL]
      simp
    · rw [g6, JT.textL]
      simp
      omega
theorem read_val (N : List Nat → Option Int) (s : List Nat) (hs : Bytes s) (kind : Int) (m : Bool) (endc : Nat) (f : Nat)
    (hT : ∀ pos left T a l, pT N s f pos left = .ok T a l → ReadT s pos left T a l)
    (hK : ∀ pos left keys kids T a l, pK N s f kind endc pos left keys kids = .ok T a l → ReadK s kind endc m pos left keys kids T a l) :
    ∀ pos left keys kids T a l, pV N s (f + 1) kind endc pos left keys kids = .ok T a l → ReadV s kind endc m pos left keys kids T a l := by
  intro pos left keys kids T a l h
  rw [pV] at h
  split at h
  · cases h
  · rename_i t a0 l0 ht
    obtain ⟨t1, t2, t3, ⟨r0, t4⟩, t5⟩ := hT _ _ _ _ _ ht
    have hd := drop_more t4
    rw [List.length_map, ← t5] at hd
    split at h
    · rename_i hc
      rw [at_drop0, hd] at hc
      obtain ⟨ks, k, l', g1, g2, g3, g4, ⟨r, g5⟩, g6⟩ := hK _ _ _ _ _ _ _ h
      rw [← List.drop_drop, hd] at g5
      refine ⟨ks, t, k :: l', by rw [g1]; simp, ?_, ?_, ?_, ⟨r, ?_⟩, ?_⟩
      · intro x hx
        rcases List.mem_cons.1 hx with e | e
        · subst e; exact ⟨t1, t2⟩
        · exact g2 x e
      · simpa using g3
      · rw [JT.sizeL]; omega
      · rw [t4]
        cases r0 with
        | nil => simp at hc
        | cons c r0 =>
          simp at hc
          simp only [List.drop_succ_cons, List.drop_zero] at g5
          rw [textL_tail]
          simp [g5, hc]
      · rw [g6, textL_tail, t5]
        simp
        omega
    · split at h
      · rename_i hc
        cases h
        rw [at_drop0, hd] at hc
        refine ⟨[], t, [], by simp, ?_, ?_, ?_, ⟨r0.tail, ?_⟩, ?_⟩
        · intro x hx
          simp at hx
          subst hx
          exact ⟨t1, t2⟩
        · split <;> simp [keysFrom]
        · simp [JT.sizeL, t3]
        · cases r0 with
          | nil => simp at hc
          | cons c r0 =>
            simp at hc
            rw [t4, hc]
            simp [JT.textL]
        · rw [t5]; simp [JT.textL]
      · cases h
theorem leaf_read {s : List Nat} {pos left : Nat} {v : JV} {r : List Nat} (hh : v.head = true) (h5 : v.k ≠ 5) (h6 : v.k ≠ 6) (hn : I64 v.n) (hl : left ≠ 0) (h : s.drop pos = (showL v).map UInt8.toNat ++ r) : ReadT s pos left (leafT v) (pos + (showL v).length) (left - 1) := by
  have e : (leafT v).text = showL v := text_leaf h5 h6 [] []
  refine ⟨?_, .mk _ _ _ hn (by simp), ?_, ⟨r, by rw [e, h]⟩, by rw [e]⟩
  · rw [JT.formed_iff]
    refine ⟨?_, by intro k hk; simp [leafT, JT.kids] at hk⟩
    unfold JT.top leafT
    rw [Bool.and_eq_true]
    refine ⟨hh, ?_⟩
    show (if v.k = 5 then _ else if v.k = 6 then _ else _) = true
    rw [if_neg h5, if_neg h6]
    rfl
  · unfold leafT
    rw [JT.size, JT.sizeL]
    omega
theorem empty_toList : (⟨#[]⟩ : ByteArray).toList = [] := by rw [ByteArray.toList_eq]
theorem pref_of {w l : List Nat} (h : prefB w l = true) : ∃ r, l = w ++ r := by
  obtain ⟨r, e⟩ := List.isPrefixOf_iff_prefix.1 h
  exact ⟨r, e.symm⟩
theorem i64_small (n : Int) (h : n = 0 ∨ n = 1) : I64 n := by rcases h with e | e <;> subst e <;> unfold I64 <;> decide
theorem read_tree (N : List Nat → Option Int) (hN : NumOk N) (s : List Nat) (hs : Bytes s) (f : Nat)
    (hM : ∀ pos left keys kids T a l, pK N s f 5 125 pos left keys kids = .ok T a l → ReadK s 5 125 true pos left keys kids T a l)
    (hL : ∀ pos left keys kids T a l, pK N s f 6 93 pos left keys kids = .ok T a l → ReadK s 6 93 false pos left keys kids T a l) :
    ∀ pos left T a l, pT N s (f + 1) pos left = .ok T a l → ReadT s pos left T a l := by
  intro pos left T a l h
  rw [pT] at h
  split at h
  · cases h
  rename_i hl
  split at h
  · rename_i hp
    cases h
    obtain ⟨r, e⟩ := pref_of hp
    exact leaf_read (v := kindV 0) (by simp [JV.head, JV.ok, JV.bare, kindV, empty_toList]) (by decide) (by decide) (i64_small 0 (.inl rfl)) hl e
  split at h
  · rename_i hp
    cases h
    obtain ⟨r, e⟩ := pref_of hp
    exact leaf_read (v := ⟨1, 1, ⟨#[]⟩, 0, 0⟩) (by simp [JV.head, JV.ok, JV.bare, empty_toList]) (by decide) (by decide) (i64_small 1 (.inr rfl)) hl e
  split at h
  · rename_i hp
    cases h
    obtain ⟨r, e⟩ := pref_of hp
    exact leaf_read (v := kindV 1) (by simp [JV.head, JV.ok, JV.bare, kindV, empty_toList]) (by decide) (by decide) (i64_small 0 (.inl rfl)) hl e
  split at h
  · rename_i hp
    rw [at_drop0] at hp
    obtain ⟨r0, hr0⟩ : ∃ r0, s.drop pos = 123 :: r0 := by
      cases hd : s.drop pos with
      | nil => rw [hd] at hp; simp at hp
      | cons c r0 => rw [hd] at hp; simp at hp; exact ⟨r0, by rw [hp]⟩
    have hd1 : s.drop (pos + 1) = r0 := by rw [← List.drop_drop, hr0]; rfl
    split at h
    · rename_i hq
      cases h
      rw [at_drop0, hd1] at hq
      obtain ⟨r1, hr1⟩ : ∃ r1, r0 = 125 :: r1 := by
        cases r0 with
        | nil => simp at hq
        | cons c r1 => simp at hq; exact ⟨r1, by rw [hq]⟩
      have et : (leafT (kindV 5)).text = [123, 125] := by unfold leafT; rw [text_map]; rfl
      refine ⟨?_, .mk _ _ _ (i64_small 0 (.inl rfl)) (by simp), ?_, ⟨r1, by rw [et, hr0, hr1]; rfl⟩, by rw [et]; rfl⟩
      · rw [JT.formed_iff]
        refine ⟨?_, by intro k hk; simp [leafT, JT.kids] at hk⟩
        simp [JT.top, leafT, JT.val, JT.keys, JT.kids, JV.head, JV.ok, kindV, empty_toList, idOk, keysOk, keysFrom]
      · unfold leafT; rw [JT.size, JT.sizeL]; omega
    · obtain ⟨ks, k, l', g1, g2, g3, g4, ⟨r, g5⟩, g6⟩ := hM _ _ _ _ _ _ _ h
      simp only [if_true, List.getLast?_nil] at g3
      simp only [List.nil_append] at g1
      subst g1
      have hn : JT.NumFit (.node (kindV 5) ks (k :: l')) := .mk _ _ _ (i64_small 0 (.inl rfl)) (fun x hx => (g2 x hx).2)
      refine ⟨?_, hn, ?_, ⟨r, ?_⟩, ?_⟩
      · rw [JT.formed_iff]
        refine ⟨?_, fun x hx => (g2 x hx).1⟩
        simp [JT.top, JT.val, JT.keys, JT.kids, JV.head, JV.ok, kindV, empty_toList, idOk, keysOk, g3]
      · rw [JT.size]; omega
      · rw [hd1] at g5
        rw [text_map, hr0, g5]
        simp
      · rw [text_map, g6]; simp; omega
  split at h
  · rename_i hp
    rw [at_drop0] at hp
    obtain ⟨r0, hr0⟩ : ∃ r0, s.drop pos = 91 :: r0 := by
      cases hd : s.drop pos with
      | nil => rw [hd] at hp; simp at hp
      | cons c r0 => rw [hd] at hp; simp at hp; exact ⟨r0, by rw [hp]⟩
    have hd1 : s.drop (pos + 1) = r0 := by rw [← List.drop_drop, hr0]; rfl
    split at h
    · rename_i hq
      cases h
      rw [at_drop0, hd1] at hq
      obtain ⟨r1, hr1⟩ : ∃ r1, r0 = 93 :: r1 := by
        cases r0 with
        | nil => simp at hq
        | cons c r1 => simp at hq; exact ⟨r1, by rw [hq]⟩
      have et : (leafT (kindV 6)).text = [91, 93] := by unfold leafT; rw [text_list]; rfl
      refine ⟨?_, .mk _ _ _ (i64_small 0 (.inl rfl)) (by simp), ?_, ⟨r1, by rw [et, hr0, hr1]; rfl⟩, by rw [et]; rfl⟩
      · rw [JT.formed_iff]
        refine ⟨?_, by intro k hk; simp [leafT, JT.kids] at hk⟩
        simp [JT.top, leafT, JT.val, JT.keys, JT.kids, JV.head, JV.ok, kindV, empty_toList, idOk]
      · unfold leafT; rw [JT.size, JT.sizeL]; omega
    · obtain ⟨ks, k, l', g1, g2, g3, g4, ⟨r, g5⟩, g6⟩ := hL _ _ _ _ _ _ _ h
      simp only [Bool.false_eq_true, if_false] at g3
      subst g3
      simp only [List.nil_append] at g1
      subst g1
      have hn : JT.NumFit (.node (kindV 6) [] (k :: l')) := .mk _ _ _ (i64_small 0 (.inl rfl)) (fun x hx => (g2 x hx).2)
      refine ⟨?_, hn, ?_, ⟨r, ?_⟩, ?_⟩
      · rw [JT.formed_iff]
        refine ⟨?_, fun x hx => (g2 x hx).1⟩
        simp [JT.top, JT.val, JT.keys, JT.kids, JV.head, JV.ok, kindV, empty_toList, idOk]
      · rw [JT.size]; omega
      · rw [hd1] at g5
        rw [text_list, hr0, g5]
        simp
      · rw [text_list, g6]; simp; omega
  split at h
  · split at h
    · rename_i b n hx
      cases h
      obtain ⟨t1, t2, r0, t3⟩ := txtF_text (bytes_drop hs pos) hx
      rw [t2]
      exact leaf_read (v := ⟨3, 0, b, 0, 0⟩) (by simp [JV.head, JV.ok]; omega) (by simp) (by simp) (i64_small 0 (.inl rfl)) hl t3
    · cases h
  · split at h
    · rename_i x hx
      cases h
      obtain ⟨b1, b2⟩ := hN.back _ _ hx
      have hlen := congrArg List.length b2
      rw [List.length_map] at hlen
      rw [hlen]
      exact leaf_read (v := ⟨2, x, ⟨#[]⟩, 0, 0⟩) (r := (s.drop pos).dropWhile isNumC) (by simp [JV.head, JV.ok, JV.bare, empty_toList]) (by simp) (by simp) b1 hl (by rw [showL_num, ← b2]; exact (List.takeWhile_append_dropWhile).symm)
    · cases h
theorem read_all (N : List Nat → Option Int) (hN : NumOk N) (s : List Nat) (hs : Bytes s) : ∀ f, (∀ pos left T a l, pT N s f pos left = .ok T a l → ReadT s pos left T a l) ∧
    (∀ kind m endc, ((kind = 5 ∧ m = true ∧ endc = 125) ∨ (kind = 6 ∧ m = false ∧ endc = 93)) → ∀ pos left keys kids T a l, pK N s f kind endc pos left keys kids = .ok T a l → ReadK s kind endc m pos left keys kids T a l) ∧
    (∀ kind m endc, ((kind = 5 ∧ m = true ∧ endc = 125) ∨ (kind = 6 ∧ m = false ∧ endc = 93)) → ∀ pos left keys kids T a l, pV N s f kind endc pos left keys kids = .ok T a l → ReadV s kind endc m pos left keys kids T a l)
  | 0 => ⟨fun _ _ _ _ _ h => by simp [pT] at h, fun _ _ _ _ _ _ _ _ _ _ _ h => by simp [pK] at h, fun _ _ _ _ _ _ _ _ _ _ _ h => by simp [pV] at h⟩
  | f + 1 => by
    obtain ⟨h1, h2, h3⟩ := read_all N hN s hs f
    exact ⟨read_tree N hN s hs f (h2 5 true 125 (.inl ⟨rfl, rfl, rfl⟩)) (h2 6 false 93 (.inr ⟨rfl, rfl, rfl⟩)),
      fun kind m endc hm => read_kids N s hs kind m endc hm f (h3 kind m endc hm), fun kind m endc hm => read_val N s hs kind m endc f h1 (h2 kind m endc hm)⟩
/-- What a text is read as reads as it. -/
theorem text_parse (N : List Nat → Option Int) (hN : NumOk N) (s : List Nat) (hs : Bytes s) (T : JT) (h : parseF N s = .ok T) : T.formed = true ∧ T.NumFit ∧ T.size ≤ 400 ∧ T.text.map UInt8.toNat = s ∧ s.length ≤ 60000 := by
  unfold parseF at h
  split at h
  · cases h
  · rename_i hl
    split at h
    · cases h
    · rename_i t a l ht
      split at h
      · cases h
      · rename_i ha
        cases h
        obtain ⟨g1, g2, g3, ⟨r, g4⟩, g5⟩ := (read_all N hN s hs 2000).1 _ _ _ _ _ ht
        refine ⟨g1, g2, by omega, ?_, by omega⟩
        rw [List.drop_zero] at g4
        have hlen := congrArg List.length g4
        rw [List.length_append, List.length_map] at hlen
        have : r = [] := List.eq_nil_of_length_eq_zero (by omega)
        rw [g4, this, List.append_nil]
end Go.Proofs.YtmkebfclaehneaaDoor
/- reader.tree: what its walk leans on. -/
namespace Go.Proofs.YtmkebfclaehneaaDoor
open Go.RowKit
set_option linter.unusedVariables false
set_option linter.unusedSimpArgs false

theorem Rd.less {w : World} {rb : Nat} {s : ByteArray} {at_ : Nat} {left : Int} (h : Rd w rb s at_ left) (x : Int) : Rd (w.setCell ⟨rb, 2, none⟩ (.int .i64 x)) rb s at_ x := Blk.set_ h 2 (.int .i64 x)
theorem Rd.alloc {w : World} {rb : Nat} {s : ByteArray} {at_ : Nat} {left : Int} (h : Rd w rb s at_ left) (o : Obj) : Rd (w.alloc o) rb s at_ left := Blk.alloc h o
/-- The three words. -/
def kwK : Nat → Int | 0 => 0 | _ => 1
def kwX : Nat → Int | 1 => 1 | _ => 0
def kwP : Nat → List UInt8 | 0 => [110, 117, 108, 108] | 1 => [116, 114, 117, 101] | _ => [102, 97, 108, 115, 101]
def kwV (k : Nat) : JV := ⟨kwK k, kwX k, ⟨#[]⟩, 0, 0⟩
def kwCells : Array Value := #[.int .i64 0, .int .i64 0, .string ⟨#[]⟩, .int .i64 0, .int .i64 0, .int .i64 1, .int .i64 1, .string ⟨#[]⟩, .int .i64 0, .int .i64 0, .int .i64 1, .int .i64 0, .string ⟨#[]⟩, .int .i64 0, .int .i64 0]
theorem kw_show (k : Nat) : showL (kwV k) = kwP k := by
  match k with
  | 0 => rfl
  | 1 => rfl
  | k + 2 => rfl
def leafP (v : JV) : PT := .node v none 0 [] none 0 []
theorem leaf_own (w : World) (v : JV) (hv : v.Fit) : OwnJ 9 29 w (leafP v) :=
  OwnJ.mk_ ⟨hv, ⟨rfl, .inl ⟨rfl, rfl⟩⟩, ⟨rfl, .inl ⟨rfl, rfl⟩⟩, by intro s hs; cases hs⟩ (by intro k hk; cases hk)
theorem leaf_own_nil (v : JV) : (leafP v).own = [] := rfl
theorem leaf_tree (v : JV) : (leafP v).tree = leafT v := rfl
theorem leaf_value (v : JV) : (leafP v).value = .agg #[.int .i64 v.k, .int .i64 v.n, .string v.s, .int .i64 v.o, .int .i64 v.p, .slice none 0 0, .slice none 0 0] := rfl
def zero7 : Array Value := #[.int .i64 0, .int .i64 0, .string ⟨#[]⟩, .int .i64 0, .int .i64 0, .slice none 0 0, .slice none 0 0]
theorem res_cells {w : World} {g : Nat} {t : TypeId} {c0 c1 c2 c3 c4 c5 c6 : Value} (h : Blk w g t #[c0, c1, c2, c3, c4, c5, c6]) : w.cell? ⟨g, 0, none⟩ = some c0 ∧ w.cell? ⟨g, 1, none⟩ = some c1 ∧ w.cell? ⟨g, 2, none⟩ = some c2 ∧ w.cell? ⟨g, 3, none⟩ = some c3 ∧ w.cell? ⟨g, 4, none⟩ = some c4 ∧ w.cell? ⟨g, 5, none⟩ = some c5 ∧ w.cell? ⟨g, 6, none⟩ = some c6 ∧ ∀ i, w.frozen? ⟨g, i, none⟩ = false :=
  ⟨h.cell 0, h.cell 1, h.cell 2, h.cell 3, h.cell 4, h.cell 5, h.cell 6, h.frozen⟩
/-- What the loop over the three words holds. -/
structure TI (w : World) (rb : Nat) (s : ByteArray) (pos : Nat) (l : Int) (gb k : Nat) (wr : World) : Prop where
  rd : Rd wr rb s pos l
  res : Blk wr w.heap.size 29 #[.int .i64 0, .int .i64 0, .string ⟨#[]⟩, .int .i64 0, .int .i64 0, .slice none 0 0, .slice none 0 0]
  row : Blk wr gb 25 kwCells
  only : Only (fun k => k = rb) w wr
  no : ∀ j, j < k → prefB ((kwP j).map UInt8.toNat) ((toN s).drop pos) = false
theorem kw_at {k : Nat} (h : k < 3) : kwCells[k * 5]? = some (.int .i64 (kwK k)) ∧ kwCells[k * 5 + 1]? = some (.int .i64 (kwX k)) ∧ kwCells[k * 5 + 2]? = some (.string ⟨#[]⟩) ∧ kwCells[k * 5 + 3]? = some (.int .i64 0) ∧ kwCells[k * 5 + 4]? = some (.int .i64 0) := by
  match k, h with
  | 0, _ => exact ⟨rfl, rfl, rfl, rfl, rfl⟩
  | 1, _ => exact ⟨rfl, rfl, rfl, rfl, rfl⟩
  | 2, _ => exact ⟨rfl, rfl, rfl, rfl, rfl⟩
theorem kw_len {k : Nat} : (kwP k).length ≤ 5 := by
  match k with
  | 0 => decide
  | 1 => decide
  | k + 2 => show (5 : Nat) ≤ 5; decide
theorem kw_k (k : Nat) : 0 ≤ (kwV k).k ∧ (kwV k).k ≤ 4 := by
  match k with
  | 0 => decide
  | k + 1 => show (0 : Int) ≤ 1 ∧ (1 : Int) ≤ 4; decide
theorem kw_fit {k : Nat} : (kwV k).Fit := by
  match k with
  | 0 => exact ⟨i64_small _ (.inl rfl), i64_small _ (.inl rfl), by decide, i64_small _ (.inl rfl), i64_small _ (.inl rfl)⟩
  | 1 => exact ⟨i64_small _ (.inr rfl), i64_small _ (.inr rfl), by decide, i64_small _ (.inl rfl), i64_small _ (.inl rfl)⟩
  | k + 2 => exact ⟨i64_small _ (.inr rfl), i64_small _ (.inl rfl), Nat.zero_le _, i64_small _ (.inl rfl), i64_small _ (.inl rfl)⟩
theorem TI.below {w wr w' : World} {rb : Nat} {s : ByteArray} {pos : Nat} {l : Int} {gb k : Nat} (h : TI w rb s pos l gb k wr) (hb : Below wr.heap.size wr w') : TI w rb s pos l gb k w' :=
  ⟨h.rd.below hb, h.res.below hb h.res.lt, h.row.below hb h.row.lt, h.only.trans (Only.of_below hb), h.no⟩
theorem TI.next {w wr : World} {rb : Nat} {s : ByteArray} {pos : Nat} {l : Int} {gb k : Nat} (h : TI w rb s pos l gb k wr) (hn : prefB ((kwP k).map UInt8.toNat) ((toN s).drop pos) = false) : TI w rb s pos l gb (k + 1) wr :=
  ⟨h.rd, h.res, h.row, h.only, fun j hj => by
    by_cases e : j = k
    · subst e; exact hn
    · exact h.no j (by omega)⟩
/-- The reader and the result's place, at whatever place. -/
structure TS (w : World) (rb : Nat) (s : ByteArray) (a : Nat) (l : Int) (W : World) : Prop where
  rd : Rd W rb s a l
  res : Blk W w.heap.size 29 #[.int .i64 0, .int .i64 0, .string ⟨#[]⟩, .int .i64 0, .int .i64 0, .slice none 0 0, .slice none 0 0]
  only : Only (fun k => k = rb) w W
theorem TI.ts {w wr : World} {rb : Nat} {s : ByteArray} {pos : Nat} {l : Int} {gb k : Nat} (h : TI w rb s pos l gb k wr) : TS w rb s pos l wr := ⟨h.rd, h.res, h.only⟩
theorem TS.turn {w W W' : World} {rb : Nat} {s : ByteArray} {a a' : Nat} {l l' : Int} (h : TS w rb s a l W) (hrb : rb < w.heap.size) (hr : Rd W' rb s a' l') (ho : Only (fun k => k = rb) W W') : TS w rb s a' l' W' :=
  ⟨hr, h.res.only ho (by omega), h.only.trans ho⟩
theorem TS.moved {w W : World} {rb : Nat} {s : ByteArray} {a : Nat} {l : Int} (h : TS w rb s a l W) (hrb : rb < w.heap.size) (m : Nat) : TS w rb s (a + m) l (W.setCell ⟨rb, 1, none⟩ (.int .i64 ((a : Int) + m))) :=
  h.turn hrb h.rd.at (Only.setCell (S := fun k => k = rb) (Only.refl _ W) (p := ⟨rb, 1, none⟩) rfl _)
theorem TS.below {w W W' : World} {rb : Nat} {s : ByteArray} {a : Nat} {l : Int} (h : TS w rb s a l W) (hb : Below W.heap.size W W') : TS w rb s a l W' :=
  ⟨h.rd.below hb, h.res.below hb h.res.lt, h.only.trans (Only.of_below hb)⟩
theorem TS.drew {w W : World} {rb : Nat} {s : ByteArray} {a : Nat} {l : Int} (h : TS w rb s a l W) (n : Nat) : TS w rb s a l (W.drewN n) := ⟨h.rd.drew n, h.res.drewN n, h.only.drewN n⟩
theorem not_empty {R : ByteArray} (h : 0 < R.size) : ¬ R.toList = [] ∧ (!R.toList.isEmpty) = true := by
  have : R.toList.isEmpty = false := by
    cases hk : R.toList.isEmpty with
    | false => rfl
    | true => rw [empty_ba hk] at h; exact absurd h (by decide)
  exact ⟨(fun e => by rw [e] at this; cases this), (by rw [this]; rfl)⟩
theorem toList_neq {a b : ByteArray} (h : a ≠ b) : (a.toList == b.toList) = false ∧ (!a.toList == b.toList) = true := by
  have : (a.toList == b.toList) = false := by
    rw [beq_eq_false_iff_ne]
    intro e
    rw [ByteArray.toList_eq, ByteArray.toList_eq] at e
    apply h
    apply ByteArray.ext
    exact Array.toList_inj.1 e
  exact ⟨this, by rw [this]; rfl⟩
theorem is_empty {R : ByteArray} (h : R.size = 0) : R.toList = [] := by
  have : R = ⟨#[]⟩ := by
    obtain ⟨d⟩ := R
    simp [ByteArray.size] at h
    rw [h]
  rw [this, ByteArray.toList_eq]
/-- The end, at the result's place. -/
theorem tree_end {w W : World} {rb : Nat} {s : ByteArray} {a l : Nat} {li : Int} (hl : (l : Int) = li) {P : PR} (hts : TS w rb s a li W) (hrb : rb < w.heap.size) (T : PT) (hP : P = .ok T.tree a l) (ha : a ≤ s.size) (hown : OwnJ 9 29 W T) (hnd : T.own.Nodup) (hlow : ∀ b ∈ T.own, w.heap.size < b) (v : Value) (hv : v = T.value) (c0 c1 c2 c3 c4 c5 c6 : Value) :
    TreeQ rb s P w (.returned v) (((((((W.setCell ⟨w.heap.size, 0, none⟩ c0).setCell ⟨w.heap.size, 1, none⟩ c1).setCell ⟨w.heap.size, 2, none⟩ c2).setCell ⟨w.heap.size, 3, none⟩ c3).setCell ⟨w.heap.size, 4, none⟩ c4).setCell ⟨w.heap.size, 5, none⟩ c5).setCell ⟨w.heap.size, 6, none⟩ c6) := by
  subst hP hv
  have o := only7 W w.heap.size c0 c1 c2 c3 c4 c5 c6 0 1 2 3 4 5 6
  refine ⟨⟨T, rfl, ha, ?_, hown.only o (fun b hb e => by have := hlow b hb; omega), hnd, fun b hb => Nat.le_of_lt (hlow b hb), rfl⟩, ?_⟩
  · rw [hl]
    exact Blk.only hts.rd o (by show rb ≠ w.heap.size; omega)
  · exact ⟨o.os.trans hts.only.os, o.tape.trans hts.only.tape, o.output.trans hts.only.output, Nat.le_trans hts.only.size o.size, fun k hk hn => (o.block k (Nat.lt_of_lt_of_le hk hts.only.size) (by show k ≠ w.heap.size; omega)).trans (hts.only.block k hk hn)⟩
theorem TreeQ.okd {rb : Nat} {s : ByteArray} {P : PR} {w w' : World} {e : Ending} {t : JT} {a l : Nat} (h : TreeQ rb s P w e w') (hP : P = .ok t a l) :
    ∃ T : PT, e = .returned (.agg #[.int .i64 T.val.k, .int .i64 T.val.n, .string T.val.s, .int .i64 T.val.o, .int .i64 T.val.p, .slice T.kA T.keys.length T.kc, .slice T.cA T.kids.length T.cc]) ∧ T.tree = t ∧ a ≤ s.size ∧ Rd w' rb s a l ∧ OwnJ 9 29 w' T ∧ T.own.Nodup ∧ (∀ b ∈ T.own, w.heap.size ≤ b) ∧ Only (fun k => k = rb) w w' := by
  subst hP
  obtain ⟨⟨T, h1, h2, h3, h4, h5, h6, h7⟩, h8⟩ := h
  exact ⟨T, h1, h7, h2, h3, h4, h5, h6, h8⟩
theorem TreeQ.badd {rb : Nat} {s : ByteArray} {P : PR} {w w' : World} {e : Ending} {a : Nat} {x : Int} (h : TreeQ rb s P w e w') (hP : P = .bad a x) :
    e = .panicked [{ v := .iface 46 (.agg #[.int .i64 a, .iface 44 (.int .i64 x)]), recovered := false }] ∧ Only (fun k => k = rb) w w' := by
  subst hP
  exact h
theorem QuotedQ.some_ {w w' : World} {rb : Nat} {s : ByteArray} {at_ m : Nat} {left : Int} {e : Ending} (h : QuotedQ w rb s at_ left m e w') {k : ByteArray} {n : Nat} (hk : txtF m ((toN s).drop at_) = some (k, n)) :
    at_ + n ≤ s.size ∧ e = .returned (.string k) ∧ k.size ≤ m ∧ Rd w' rb s (at_ + n) left ∧ Only (fun k => k = rb) w w' := by
  obtain ⟨⟨k', n', h1, h2, h3, h4⟩ | ⟨h1, _⟩, ho⟩ := h
  · rw [h1] at hk
    injection hk with hk
    injection hk with e1 e2
    subst e1 e2
    refine ⟨h2, h3, ?_, h4, ho⟩
    unfold txtF at h1
    split at h1
    · rename_i b n _
      split at h1
      · rename_i hb
        injection h1 with h1
        injection h1 with e1 _
        rw [← e1]
        unfold ofN
        simpa [ByteArray.size] using hb
      · cases h1
    · cases h1
  · rw [h1] at hk; cases hk
theorem QuotedQ.none_ {w w' : World} {rb : Nat} {s : ByteArray} {at_ m : Nat} {left : Int} {e : Ending} (h : QuotedQ w rb s at_ left m e w') (hk : txtF m ((toN s).drop at_) = none) :
    e = .panicked [{ v := .iface 46 (.agg #[.int .i64 at_, .iface 44 (.int .i64 2)]), recovered := false }] ∧ Only (fun k => k = rb) w w' := by
  obtain ⟨⟨k', n', h1, h2, h3, h4⟩ | ⟨h1, h2⟩, ho⟩ := h
  · rw [h1] at hk; cases hk
  · exact ⟨h2, ho⟩
theorem text_fit {b : ByteArray} (h : b.size ≤ 60) : (⟨3, 0, b, 0, 0⟩ : JV).Fit :=
  ⟨(show I64 3 by unfold I64; decide), (show I64 0 by unfold I64; decide), by show b.size ≤ maxLen; unfold maxLen; omega, (show I64 0 by unfold I64; decide), (show I64 0 by unfold I64; decide)⟩
theorem num_fit {v : Int} (h : I64 v) : (⟨2, v, ⟨#[]⟩, 0, 0⟩ : JV).Fit :=
  ⟨(show I64 2 by unfold I64; decide), h, Nat.zero_le _, (show I64 0 by unfold I64; decide), (show I64 0 by unfold I64; decide)⟩
theorem cut_ascii : ∀ (j : Nat) (b : UInt8), (⟨#[45, 48, 49, 50, 51, 52, 53, 54, 55, 56, 57]⟩ : ByteArray).data.toList[j]? = some b → b.toNat < 128 := by
  intro j b h
  have h := List.mem_of_getElem? h
  simp only [List.mem_cons, List.not_mem_nil, or_false] at h
  rcases h with rfl | rfl | rfl | rfl | rfl | rfl | rfl | rfl | rfl | rfl | rfl <;> decide
theorem TS.cx {W0 w W : World} {rb : Nat} {s : ByteArray} {a : Nat} {l : Int} (h : TS w rb s a l W) (hc : Cx W0 rb w) : Cx W0 rb W.drew := (hc.only h.only).below ⟨rfl, rfl, rfl, Nat.le_refl _, fun _ _ => rfl⟩
theorem AtoiQ.ok_ {s : ByteArray} {w w' : World} {e : Ending} (h : AtoiQ s w e w') {v : Int} (hv : Go.Lib.atoiAll s.data.toList = .ok v) : e = .returned (.tuple #[.int .i64 v, .nilIface]) ∧ Below w.heap.size w w' := by
  obtain ⟨⟨v', h1, h2⟩ | ⟨h1, _⟩, hb⟩ := h
  · rw [h1] at hv
    injection hv with hv
    subst hv
    exact ⟨h2, hb⟩
  · exact absurd hv (h1 v)
theorem AtoiQ.no_ {s : ByteArray} {w w' : World} {e : Ending} (h : AtoiQ s w e w') (hv : ∀ v, Go.Lib.atoiAll s.data.toList ≠ .ok v) : (∃ x T N, e = .returned (.tuple #[.int .i64 x, .iface T (.pointer (some ⟨N, 0, none⟩))])) ∧ Below w.heap.size w w' := by
  obtain ⟨⟨v', h1, h2⟩ | ⟨h1, h2⟩, hb⟩ := h
  · exact absurd h1 (hv v')
  · exact ⟨h2, hb⟩
theorem prefB_len {p l : List Nat} (h : prefB p l = true) : p.length ≤ l.length := (List.isPrefixOf_iff_prefix.1 h).length_le
/-- What kids answers. -/
def kidsR (s : List Nat) (f : Nat) (kind : Int) (endc pos left : Nat) : PR := if s[pos]? = some endc then .ok (leafT (kindV kind)) (pos + 1) left else pK Num s f kind endc pos left [] []
def KidsC (W0 : World) (rb : Nat) (s : ByteArray) (f left : Nat) (kind : Int) (endc : Nat) : Prop :=
  ∀ (w : World) (pos : Nat), pos ≤ s.size → Cx W0 rb w → Rd w rb s pos left → Calls Tryd.prog 23 #[.pointer (some ⟨rb, 0, none⟩), .int .i64 kind, .int .u8 endc] w (TreeQ rb s (kidsR (toN s) f kind endc pos left) w)
/-- What pT is, word by word. -/
theorem pT_kw (s : List Nat) (f pos l k : Nat) (hk : k < 3) (hno : ∀ j, j < k → prefB ((kwP j).map UInt8.toNat) (s.drop pos) = false) (hp : prefB ((kwP k).map UInt8.toNat) (s.drop pos) = true) :
    pT Num s (f + 1) pos (l + 1) = .ok (leafT (kwV k)) (pos + (kwP k).length) l := by
  rw [pT, if_neg (by omega)]
  match k, hk with
  | 0, _ => rw [if_pos (show prefB nullN (s.drop pos) = true from hp)]; rfl
  | 1, _ =>
    rw [if_neg (by rw [show prefB nullN (s.drop pos) = false from hno 0 (by omega)]; simp), if_pos (show prefB trueN (s.drop pos) = true from hp)]
    rfl
  | 2, _ =>
    rw [if_neg (by rw [show prefB nullN (s.drop pos) = false from hno 0 (by omega)]; simp), if_neg (by rw [show prefB trueN (s.drop pos) = false from hno 1 (by omega)]; simp), if_pos (show prefB falseN (s.drop pos) = true from hp)]
    rfl
/-- A quoted text, as a tree. -/
def textR (s : List Nat) (pos l : Nat) : PR := match txtF 60 (s.drop pos) with | some (b, n) => .ok (leafT ⟨3, 0, b, 0, 0⟩) (pos + n) l | none => .bad pos 2
/-- A number, as a tree. -/
def numR (s : List Nat) (pos l : Nat) : PR := match Num (numRun (s.drop pos)) with | some x => .ok (leafT ⟨2, x, ⟨#[]⟩, 0, 0⟩) (pos + (numRun (s.drop pos)).length) l | none => .bad pos 2
theorem pT_rest (s : List Nat) (f pos l : Nat) (hno : ∀ j, j < 3 → prefB ((kwP j).map UInt8.toNat) (s.drop pos) = false) :
    pT Num s (f + 1) pos (l + 1) = if s[pos]? = some 123 then kidsR s f 5 125 (pos + 1) l else if s[pos]? = some 91 then kidsR s f 6 93 (pos + 1) l else if s[pos]? = some 34 then textR s pos l else numR s pos l := by
  rw [pT, if_neg (by omega), if_neg (by rw [show prefB nullN (s.drop pos) = false from hno 0 (by omega)]; simp), if_neg (by rw [show prefB trueN (s.drop pos) = false from hno 1 (by omega)]; simp), if_neg (by rw [show prefB falseN (s.drop pos) = false from hno 2 (by omega)]; simp)]
  rfl
/-- takes, decided. -/
theorem takes_yes (w : World) (rb : Nat) (s : ByteArray) (hs : s.size ≤ 60000) (at_ : Nat) (hat : at_ ≤ s.size) (left : Int) (c : Nat) (hc : c < 256) (h : Rd w rb s at_ left) (hy : (toN s)[at_]? = some c) :
    Calls Tryd.prog 22 #[.pointer (some ⟨rb, 0, none⟩), .int .u8 c] w fun e w' => e = .returned (.bool true) ∧ Rd w' rb s (at_ + 1) left ∧ Only (fun k => k = rb) w w' := by
  refine (takes_any w rb s hs at_ hat left c hc h).mono ?_
  rintro e w' ⟨⟨_, rfl, hr⟩ | ⟨hn, _⟩, ho⟩
  · exact ⟨rfl, hr, ho⟩
  · exact absurd hy hn
theorem takes_no (w : World) (rb : Nat) (s : ByteArray) (hs : s.size ≤ 60000) (at_ : Nat) (hat : at_ ≤ s.size) (left : Int) (c : Nat) (hc : c < 256) (h : Rd w rb s at_ left) (hn : (toN s)[at_]? ≠ some c) :
    Calls Tryd.prog 22 #[.pointer (some ⟨rb, 0, none⟩), .int .u8 c] w fun e w' => e = .returned (.bool false) ∧ Rd w' rb s at_ left ∧ Only (fun k => k = rb) w w' := by
  refine (takes_any w rb s hs at_ hat left c hc h).mono ?_
  rintro e w' ⟨⟨hy, _⟩ | ⟨_, rfl, hr⟩, ho⟩
  · exact absurd hy hn
  · exact ⟨rfl, hr, ho⟩
theorem lt_of_at {s : ByteArray} {at_ c : Nat} (h : (toN s)[at_]? = some c) : at_ < s.size := by
  have := (List.getElem?_eq_some_iff.1 h).1
  rw [toN_len] at this
  exact this
end Go.Proofs.YtmkebfclaehneaaDoor
