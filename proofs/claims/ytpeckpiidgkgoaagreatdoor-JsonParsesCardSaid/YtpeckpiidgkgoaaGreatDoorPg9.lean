/- BackPlain, BackTree. -/
import Derived.Test.YtpeckpiidgkgoaaGreatDoorPg3
import Derived.Test.YtpeckpiidgkgoaaGreatDoorPg8
/- What Unquote reads of what Quote writes, and the other way. Over no program. -/
namespace Go.Proofs.YtpeckpiidgkgoaaGreatDoor
set_option linter.unusedVariables false
set_option linter.unusedSimpArgs false

theorem hexD_hexU (n : Nat) (h : n < 16) : hexD (hexU n).toNat = n := by
  have := hexU_nat n h
  unfold hexD
  split at this
  · rw [if_pos (by omega)]; omega
  · rw [if_neg (by omega), if_pos (by omega)]; omega
theorem hexU_ne (n : Nat) (h : n < 16) : (hexU n).toNat ≠ 34 ∧ (hexU n).toNat ≠ 92 := by
  have := hexU_nat n h
  split at this <;> omega
theorem hexU_hexD (c : UInt8) (h : ¬ hexD c.toNat < 0) : hexU (hexD c.toNat).toNat = c := by
  apply UInt8.toNat_inj.1
  have h1 := hexD_le c.toNat
  have h2 := hexU_nat (hexD c.toNat).toNat (by omega)
  by_cases a : 48 ≤ c.toNat ∧ c.toNat ≤ 57
  · have e : hexD c.toNat = c.toNat - 48 := if_pos a
    rw [if_pos (by omega)] at h2
    omega
  · by_cases b : 97 ≤ c.toNat ∧ c.toNat ≤ 102
    · have e : hexD c.toNat = c.toNat - 87 := by unfold hexD; rw [if_neg a, if_pos b]
      rw [if_neg (by omega)] at h2
      omega
    · have e : hexD c.toNat = -1 := by unfold hexD; rw [if_neg a, if_neg b]
      omega
theorem u8_34 (c : UInt8) : c.toNat = 34 ↔ c = 34 := ⟨fun h => UInt8.toNat_inj.1 h, fun h => by rw [h]; rfl⟩
theorem u8_92 (c : UInt8) : c.toNat = 92 ↔ c = 92 := ⟨fun h => UInt8.toNat_inj.1 h, fun h => by rw [h]; rfl⟩
/-- Behind the quote. -/
theorem uq_quote (r : List UInt8) : ∀ L : List UInt8, uq (((L.flatMap quoteB) ++ (34 :: r)).map UInt8.toNat) = some (L.map UInt8.toNat, (L.flatMap quoteB).length + 1)
  | [] => by
    simp only [List.flatMap_nil, List.nil_append, List.map_cons, List.map_nil]
    rw [uq.eq_def]
    simp
  | c :: L => by
    have ih := uq_quote r L
    rw [List.flatMap_cons, List.append_assoc, List.map_append]
    cases qkind c with
    | esc h q =>
      rw [q]
      simp only [List.map_cons, List.map_nil, List.cons_append, List.nil_append]
      rw [uq.eq_def]
      have h' : c.toNat = 34 ∨ c.toNat = 92 := h.imp (u8_34 c).2 (u8_92 c).2
      simp only [show (92 : UInt8).toNat = 92 from rfl, if_pos h', ih]
      simp
    | hex h1 h2 h q =>
      rw [q]
      simp only [List.map_cons, List.map_nil, List.cons_append, List.nil_append]
      rw [uq.eq_def]
      have hc := c.toNat_lt
      have h3 := hexU_ne (c.toNat / 16) (by omega)
      have hb : hexBad (hexU (c.toNat / 16)).toNat (hexU (c.toNat % 16)).toNat = false := by
        unfold hexBad
        rw [hexD_hexU _ (by omega), hexD_hexU _ (by omega)]
        have := Nat.div_add_mod c.toNat 16
        simp only [Bool.or_eq_false_iff, Bool.and_eq_false_iff, decide_eq_false_iff_not]
        refine ⟨by omega, by omega, by omega⟩
      have h3' : ¬ ((hexU (c.toNat / 16)).toNat = 34 ∨ (hexU (c.toNat / 16)).toNat = 92) := by omega
      have hv : (hexD (hexU (c.toNat / 16)).toNat * 16 + hexD (hexU (c.toNat % 16)).toNat).toNat = c.toNat := by
        rw [hexD_hexU _ (by omega), hexD_hexU _ (by omega)]
        omega
      simp only [show (92 : UInt8).toNat = 92 from rfl, if_neg h3', hb, ih, hv]
      simp
    | plain h1 h2 h h' q =>
      rw [q]
      simp only [List.map_cons, List.map_nil, List.cons_append, List.nil_append]
      rw [uq.eq_def]
      have e1 : c.toNat ≠ 34 := fun e => h1 ((u8_34 c).1 e)
      have e2 : c.toNat ≠ 92 := fun e => h2 ((u8_92 c).1 e)
      have e3 : ¬ (c.toNat < 32 ∨ 126 < c.toNat) := by omega
      simp only [if_neg e1, if_neg e3, if_pos e2, ih]
      simp
/-- What was quoted is read as it was. -/
theorem unq_quote (L r : List UInt8) : unq ((quoteL L ++ r).map UInt8.toNat) = some (L.map UInt8.toNat, (quoteL L).length) := by
  unfold quoteL
  rw [List.cons_append, List.append_assoc, List.map_cons, unq]
  rw [show ([34] ++ r : List UInt8) = 34 :: r from rfl, uq_quote]
  simp
/-- What is read was quoted. -/
theorem uq_back : ∀ (m : Nat) (x : List UInt8), x.length ≤ m → ∀ b n, uq (x.map UInt8.toNat) = some (b, n) → ∃ B : List UInt8, b = B.map UInt8.toNat ∧ x.take n = B.flatMap quoteB ++ [34]
  | m, [], _, b, n, h => by simp [uq] at h
  | 0, c :: x, hm, _, _, _ => by simp at hm
  | m + 1, c :: x, hm, b, n, h => by
    have hm' : x.length ≤ m := by simpa using hm
    rw [List.map_cons, uq.eq_def] at h
    simp only at h
    split at h
    · rename_i e
      cases h
      exact ⟨[], rfl, by rw [(u8_34 c).1 e]; simp⟩
    · rename_i e1
      split at h
      · cases h
      · rename_i e2
        split at h
        · rename_i e3
          obtain ⟨⟨b', n'⟩, h1, h2⟩ := Option.map_eq_some_iff.1 h
          cases h2
          obtain ⟨B, hB, ht⟩ := uq_back m x hm' _ _ h1
          refine ⟨c :: B, by simp [hB], ?_⟩
          rw [List.take_succ_cons, ht, List.flatMap_cons]
          cases qkind c with
          | esc q0 q => rcases q0 with q0 | q0 <;> subst q0 <;> simp at e1 e3
          | hex q1 q2 q3 q => omega
          | plain q1 q2 q3 q4 q => rw [q]; rfl
        · rename_i e3
          have e3' : c = 92 := (u8_92 c).1 (by omega)
          subst e3'
          match x, hm', h with
          | [], _, h => simp at h
          | d :: x, hm', h =>
            simp only [List.map_cons] at h
            split at h
            · rename_i e4
              obtain ⟨⟨b', n'⟩, h1, h2⟩ := Option.map_eq_some_iff.1 h
              cases h2
              obtain ⟨B, hB, ht⟩ := uq_back m x (by simp at hm'; omega) _ _ h1
              refine ⟨d :: B, by simp [hB], ?_⟩
              rw [List.take_succ_cons, List.take_succ_cons, ht, List.flatMap_cons]
              rw [show quoteB d = [92, d] from if_pos (e4.imp (u8_34 d).1 (u8_92 d).1)]
              rfl
            · rename_i e4
              match x, hm', h with
              | [], _, h => simp at h
              | e :: x, hm', h =>
                simp only [List.map_cons] at h
                split at h
                · cases h
                · rename_i e5
                  obtain ⟨⟨b', n'⟩, h1, h2⟩ := Option.map_eq_some_iff.1 h
                  cases h2
                  obtain ⟨B, hB, ht⟩ := uq_back m x (by simp at hm'; omega) _ _ h1
                  have e5' : hexBad d.toNat e.toNat = false := by simpa using e5
                  unfold hexBad at e5'
                  simp only [Bool.or_eq_false_iff, Bool.and_eq_false_iff, decide_eq_false_iff_not] at e5'
                  obtain ⟨f1, f2, f3⟩ := e5'
                  have g1 := hexD_le d.toNat
                  have g2 := hexD_le e.toNat
                  have hv : (UInt8.ofNat (hexD d.toNat * 16 + hexD e.toNat).toNat).toNat = (hexD d.toNat * 16 + hexD e.toNat).toNat := by
                    rw [UInt8.toNat_ofNat']
                    omega
                  refine ⟨UInt8.ofNat (hexD d.toNat * 16 + hexD e.toNat).toNat :: B, by rw [List.map_cons, hv, hB], ?_⟩
                  rw [List.take_succ_cons, List.take_succ_cons, List.take_succ_cons, ht, List.flatMap_cons]
                  generalize UInt8.ofNat (hexD d.toNat * 16 + hexD e.toNat).toNat = k at hv
                  cases qkind k with
                  | esc q0 q => rcases q0 with q0 | q0 <;> subst q0 <;> simp at hv <;> omega
                  | plain q1 q2 q3 q4 q => omega
                  | hex q1 q2 q3 q =>
                    rw [q, show k.toNat / 16 = (hexD d.toNat).toNat by omega, show k.toNat % 16 = (hexD e.toNat).toNat by omega, hexU_hexD d f1, hexU_hexD e f2]
                    rfl
theorem unq_back (x : List UInt8) (b : List Nat) (n : Nat) (h : unq (x.map UInt8.toNat) = some (b, n)) : ∃ B : List UInt8, b = B.map UInt8.toNat ∧ x.take n = quoteL B := by
  cases x with
  | nil => simp [unq] at h
  | cons c x =>
    rw [List.map_cons, unq] at h
    split at h
    · rename_i e
      obtain ⟨⟨b', n'⟩, h1, h2⟩ := Option.map_eq_some_iff.1 h
      cases h2
      obtain ⟨B, hB, ht⟩ := uq_back _ x (Nat.le_refl _) _ _ h1
      exact ⟨B, hB, by rw [List.take_succ_cons, ht, (u8_34 c).1 e]; rfl⟩
    · cases h
end Go.Proofs.YtpeckpiidgkgoaaGreatDoor
/- What was printed is read as it was: a tree. Over no program. -/
namespace Go.Proofs.YtpeckpiidgkgoaaGreatDoor
open Go.RowKit
set_option linter.unusedVariables false
set_option linter.unusedSimpArgs false

/-- What a run of digits and signs is: N answers the number that prints so. -/
structure NumOk (N : List Nat → Option Int) : Prop where
  get : ∀ x : Int, I64 x → N ((Go.Lib.itoa x).map UInt8.toNat) = some x
  back : ∀ l x, N l = some x → I64 x ∧ l = (Go.Lib.itoa x).map UInt8.toNat
theorem decDigits_num (u : Nat) : (∀ c ∈ Go.Lib.decDigits u, isNumC c.toNat = true) ∧ Go.Lib.decDigits u ≠ [] := by
  induction u using Nat.strongRecOn with
  | ind u ih =>
    rw [Go.Lib.decDigits]
    split
    · rename_i h
      refine ⟨fun c hc => ?_, by simp⟩
      simp only [List.mem_singleton] at hc
      subst hc
      unfold isNumC
      rw [UInt8.toNat_ofNat']
      simp
      omega
    · rename_i h
      refine ⟨fun c hc => ?_, by simp⟩
      rcases List.mem_append.1 hc with hc | hc
      · exact (ih (u / 10) (by omega)).1 c hc
      · simp only [List.mem_singleton] at hc
        subst hc
        unfold isNumC
        rw [UInt8.toNat_ofNat']
        simp
        omega
theorem itoa_num (x : Int) : (∀ c ∈ Go.Lib.itoa x, isNumC c.toNat = true) ∧ Go.Lib.itoa x ≠ [] := by
  unfold Go.Lib.itoa
  split
  · refine ⟨fun c hc => ?_, by simp⟩
    rcases List.mem_cons.1 hc with hc | hc
    · subst hc; rfl
    · exact (decDigits_num _).1 c hc
  · exact decDigits_num _
/-- Nothing numeric stands ahead. -/
def NoNum (r : List Nat) : Prop := ∀ c, r.head? = some c → isNumC c = false
theorem numRun_append {a r : List Nat} (h : ∀ c ∈ a, isNumC c = true) (hr : NoNum r) : numRun (a ++ r) = a := by
  unfold numRun
  rw [List.takeWhile_append_of_pos h]
  cases r with
  | nil => simp
  | cons c r => rw [List.takeWhile_cons_of_neg (by rw [hr c rfl]; simp)]; simp
theorem at_drop (s : List Nat) (p k : Nat) : s[p + k]? = (s.drop p)[k]? := by rw [List.getElem?_drop]
theorem at_drop0 (s : List Nat) (p : Nat) : s[p]? = (s.drop p)[0]? := by rw [List.getElem?_drop]; rfl
theorem drop_more {s a r : List Nat} {p : Nat} (h : s.drop p = a ++ r) : s.drop (p + a.length) = r := by
  rw [← List.drop_drop, h, List.drop_left]
/-- A number fits, in each place. -/
inductive JT.NumFit : JT → Prop
  | mk (v : JV) (keys : List ByteArray) (kids : List JT) (h : I64 v.n) (hk : ∀ k ∈ kids, k.NumFit) : (JT.node v keys kids).NumFit
/-- A tree is read back, wherever it stands. -/
def Back (N : List Nat → Option Int) (T : JT) : Prop := ∀ (s : List Nat) (f pos left : Nat) (r : List Nat), s.drop pos = T.text.map UInt8.toNat ++ r → NoNum r → T.size ≤ left → 3 * left + 1 ≤ f → pT N s f pos left = .ok T (pos + T.text.length) (left - T.size)
theorem txtF_quote (m : Nat) (k : ByteArray) (r : List Nat) (hk : k.size ≤ m) : txtF m ((quoteL k.data.toList).map UInt8.toNat ++ r) = some (k, (quoteL k.data.toList).length) ∨ ¬ ∀ c ∈ r, c < 256 := by
  by_cases hr : ∀ c ∈ r, c < 256
  · left
    have : r = (r.map UInt8.ofNat).map UInt8.toNat := by
      rw [List.map_map]
      conv => lhs; rw [← List.map_id r]
      apply List.map_congr_left
      intro c hc
      have := hr c hc
      simp
      omega
    rw [this, ← List.map_append]
    unfold txtF
    rw [unq_quote]
    have e : List.map UInt8.toNat k.data.toList = toN k := rfl
    simp only [e, toN_len, if_pos hk, ofN_toN]
  · exact .inr hr
/-- The texts' bytes are bytes. -/
def Bytes (s : List Nat) : Prop := ∀ c ∈ s, c < 256
theorem txtF_at {s : List Nat} (hs : Bytes s) {p m : Nat} {k : ByteArray} {r : List Nat} (hd : s.drop p = (quoteL k.data.toList).map UInt8.toNat ++ r) (hk : k.size ≤ m) : txtF m (s.drop p) = some (k, (quoteL k.data.toList).length) := by
  rw [hd]
  refine (txtF_quote m k r hk).resolve_right (fun h => h fun c hc => ?_)
  exact hs c (List.mem_of_mem_drop (i := p) (by rw [hd]; exact List.mem_append_right _ hc))
theorem textL_tail (m : Bool) (ks : List ByteArray) (k : JT) (l : List JT) : JT.textL m false ks (k :: l) = 44 :: JT.textL m true ks (k :: l) := by
  rw [JT.textL, JT.textL]
  simp
/-- The kids are read back. -/
theorem back_kids (N : List Nat → Option Int) (s : List Nat) (hs : Bytes s) (kind : Int) (m : Bool) (endc : Nat) (hm : (kind = 5 ∧ m = true ∧ endc = 125) ∨ (kind = 6 ∧ m = false ∧ endc = 93)) :
    ∀ (l : List JT) (ks : List ByteArray) (f pos left : Nat) (r : List Nat) (keys : List ByteArray) (kids : List JT), l ≠ [] → (∀ k ∈ l, ∀ (f pos left : Nat) (r : List Nat), s.drop pos = k.text.map UInt8.toNat ++ r → NoNum r → k.size ≤ left → 3 * left + 1 ≤ f → pT N s f pos left = .ok k (pos + k.text.length) (left - k.size)) →
      (if m then ks.length = l.length ∧ keysFrom keys.getLast? ks = true else ks = []) → s.drop pos = (JT.textL m true ks l).map UInt8.toNat ++ endc :: r → JT.sizeL l ≤ left → 3 * left + 3 ≤ f →
      pK N s f kind endc pos left keys kids = .ok (.node (kindV kind) (keys ++ ks) (kids ++ l)) (pos + (JT.textL m true ks l).length + 1) (left - JT.sizeL l)
  | [], _, _, _, _, _, _, _, h, _, _, _, _, _ => absurd rfl h
  | k :: l, ks, 0, pos, left, r, keys, kids, _, hb, hk, hd, hz, hf => by omega
  | k :: l, ks, 1, pos, left, r, keys, kids, _, hb, hk, hd, hz, hf => by omega
  | k :: l, ks, f + 2, pos, left, r, keys, kids, _, hb, hk, hd, hz, hf => by
    rw [JT.sizeL] at hz ⊢
    have hpos := k.size_pos
    -- one kid, from where it stands
    have hV : ∀ (p : Nat) (keys' : List ByteArray) (ks' : List ByteArray), (if m then ks'.length = l.length ∧ keysFrom keys'.getLast? ks' = true else ks' = []) → s.drop p = k.text.map UInt8.toNat ++ ((JT.textL m false ks' l).map UInt8.toNat ++ endc :: r) →
        pV N s (f + 1) kind endc p left keys' kids = .ok (.node (kindV kind) (keys' ++ ks') (kids ++ k :: l)) (p + k.text.length + (JT.textL m false ks' l).length + 1) (left - (k.size + JT.sizeL l)) := by
      intro p keys' ks' hk' hp
      have hE : isNumC endc = false ∧ endc ≠ 44 := by rcases hm with ⟨_, _, rfl⟩ | ⟨_, _, rfl⟩ <;> decide
      have hn : NoNum ((JT.textL m false ks' l).map UInt8.toNat ++ endc :: r) := by
        intro c hc
        cases l with
        | nil => simp [JT.textL] at hc; subst hc; exact hE.1
        | cons k2 l => rw [textL_tail] at hc; simp at hc; subst hc; rfl
      have h1 := hb k (List.mem_cons_self ..) f p left _ hp hn (by omega) (by omega)
      have hd2 := drop_more hp
      rw [List.length_map] at hd2
      rw [pV, h1]
      simp only []
      rw [at_drop0, hd2]
      cases l with
      | nil =>
        have hks : ks' = [] := by
          split at hk'
          · exact List.eq_nil_of_length_eq_zero hk'.1
          · exact hk'
        subst hks
        simp [JT.textL, JT.sizeL, hE.2]
      | cons k2 l =>
        rw [textL_tail] at hd2 ⊢
        have hd3 : s.drop (p + k.text.length + 1) = (JT.textL m true ks' (k2 :: l)).map UInt8.toNat ++ endc :: r := by
          rw [← List.drop_drop, hd2]
          simp
        have ih := back_kids N s hs kind m endc hm (k2 :: l) ks' f (p + k.text.length + 1) (left - k.size) r keys' (kids ++ [k]) (by simp) (fun x hx => hb x (List.mem_cons_of_mem _ hx)) hk' hd3 (by omega) (by omega)
        simp only [List.map_cons, List.cons_append, List.getElem?_cons_zero, show (44 : UInt8).toNat = 44 from rfl, if_pos]
        rw [ih]
        simp only [List.append_assoc, List.cons_append, List.nil_append, List.length_cons]
        congr 1 <;> omega
    rw [pK]
    rcases hm with ⟨e1, e2, e3⟩ | ⟨e1, e2, e3⟩
    · subst e1; subst e2; subst e3
      simp only [if_true] at hk
      match ks, hk, hd with
      | [], hk, _ => simp at hk
      | x :: ks, hk, hd =>
        obtain ⟨hl, hr⟩ := hk
        simp only [keysFrom, Bool.and_eq_true] at hr
        obtain ⟨⟨hr1, hr2⟩, hr3⟩ := hr
        rw [JT.textL] at hd ⊢
        simp only [if_true, List.nil_append, List.headD_cons, List.tail_cons, List.map_append, List.append_assoc, List.map_cons, List.map_nil, List.cons_append] at hd ⊢
        have hko := hr1
        unfold keyOk at hko
        rw [Bool.and_eq_true, decide_eq_true_eq] at hko
        rw [txtF_at hs hd (by omega)]
        simp only []
        have hka : keyAfter keys x = true := by
          unfold keyAfter
          rw [Bool.and_eq_true]
          exact ⟨hko.1, hr2⟩
        have hd2 := drop_more hd
        rw [List.length_map] at hd2
        rw [hka, if_neg (by simp), at_drop0, hd2]
        simp only [List.getElem?_cons_zero, show (58 : UInt8).toNat = 58 from rfl, if_pos]
        have := hV (pos + (quoteL x.data.toList).length + 1) (keys ++ [x]) ks (by simp only [if_true]; exact ⟨by simpa using hl, by simpa using hr3⟩) (by rw [← List.drop_drop, hd2]; simp)
        rw [this]
        simp only [List.append_assoc, List.cons_append, List.nil_append, List.length_cons, List.length_append]
        congr 1
        omega
    · subst e1; subst e2; subst e3
      simp only [Bool.false_eq_true, if_false] at hk
      subst hk
      rw [JT.textL] at hd ⊢
      simp only [if_true, Bool.false_eq_true, if_false, List.nil_append, List.tail_nil, List.map_append, List.append_assoc] at hd ⊢
      rw [if_neg (by decide)]
      have := hV pos keys [] (by simp) hd
      rw [this]
      simp only [List.length_append]
      congr 1
      omega
theorem empty_ba {s : ByteArray} (h : s.toList.isEmpty = true) : s = ⟨#[]⟩ := by
  rw [ByteArray.toList_eq] at h
  cases s with
  | mk d =>
    have h2 := List.isEmpty_iff.1 h
    have h3 : d = #[] := Array.toList_inj.1 h2
    rw [h3]
/-- What a value that a tree may have is. -/
theorem head_cases {v : JV} (h : v.head = true) : v = kindV 0 ∨ v = ⟨1, 1, ⟨#[]⟩, 0, 0⟩ ∨ v = kindV 1 ∨ (v = ⟨2, v.n, ⟨#[]⟩, 0, 0⟩) ∨ (v = ⟨3, 0, v.s, 0, 0⟩ ∧ v.s.size ≤ 60) ∨ v = kindV 5 ∨ v = kindV 6 := by
  cases v with
  | mk k n s o p =>
    unfold JV.head JV.ok JV.bare at h
    simp only [Bool.and_eq_true, beq_iff_eq, bne_iff_ne] at h
    obtain ⟨⟨h1, h2⟩, h3, h4⟩ := h
    subst h3; subst h4
    unfold kindV
    by_cases e0 : k = 0
    · subst e0
      simp at h1
      left
      rw [empty_ba (List.isEmpty_iff.2 h1.1), h1.2]
    by_cases e1 : k = 1
    · subst e1
      simp at h1
      rw [empty_ba (List.isEmpty_iff.2 h1.1)]
      rcases h1.2 with e | e
      · rw [e]; exact .inr (.inr (.inl rfl))
      · rw [e]; exact .inr (.inl rfl)
    by_cases e2 : k = 2
    · subst e2
      simp at h1
      rw [empty_ba (List.isEmpty_iff.2 h1)]
      exact .inr (.inr (.inr (.inl rfl)))
    by_cases e3 : k = 3
    · subst e3
      simp at h1
      rw [h1.1]
      exact .inr (.inr (.inr (.inr (.inl ⟨rfl, by simp only; omega⟩))))
    by_cases e5 : k = 5
    · subst e5
      simp at h1
      rw [empty_ba (List.isEmpty_iff.2 h1.1.2), h1.1.1]
      exact .inr (.inr (.inr (.inr (.inr (.inl rfl)))))
    by_cases e6 : k = 6
    · subst e6
      simp at h1
      rw [empty_ba (List.isEmpty_iff.2 h1.1.2), h1.1.1]
      exact .inr (.inr (.inr (.inr (.inr (.inr rfl)))))
    simp [e0, e1, e2, e3, e5, e6, h2] at h1
theorem text_leaf {v : JV} (h5 : v.k ≠ 5) (h6 : v.k ≠ 6) (keys : List ByteArray) (kids : List JT) : (JT.node v keys kids).text = showL v := by
  rw [JT.text, if_neg h5, if_neg h6]
theorem showL_num (n : Int) : showL ⟨2, n, ⟨#[]⟩, 0, 0⟩ = Go.Lib.itoa n := rfl
theorem showL_txt (s : ByteArray) : showL ⟨3, 0, s, 0, 0⟩ = quoteL s.data.toList := rfl
/-- What a tree's text begins with. -/
theorem text_head {T : JT} (h : T.formed = true) : ∃ c l, T.text = c :: l ∧ c.toNat ≠ 93 := by
  cases T with
  | node v keys kids =>
    have h1 := ((JT.formed_iff _).1 h).1
    unfold JT.top at h1
    rw [Bool.and_eq_true] at h1
    rcases head_cases (v := v) h1.1 with e | e | e | e | e | e | e
    · subst e; exact ⟨110, _, rfl, by decide⟩
    · subst e; exact ⟨116, _, rfl, by decide⟩
    · subst e; exact ⟨102, _, rfl, by decide⟩
    · rw [e, text_leaf (by simp) (by simp), showL_num]
      obtain ⟨a, b⟩ := itoa_num v.n
      cases hi : Go.Lib.itoa v.n with
      | nil => exact absurd hi b
      | cons c l =>
        refine ⟨c, l, rfl, ?_⟩
        have := a c (by rw [hi]; exact List.mem_cons_self ..)
        unfold isNumC at this
        simp at this
        omega
    · rw [e.1, text_leaf (by simp) (by simp), showL_txt]; exact ⟨34, _, rfl, by decide⟩
    · subst e; exact ⟨123, _, rfl, by decide⟩
    · subst e; exact ⟨91, _, rfl, by decide⟩
theorem text_map (keys : List ByteArray) (kids : List JT) : (JT.node (kindV 5) keys kids).text = 123 :: (JT.textL true true keys kids ++ [125]) := by
  rw [JT.text]
  exact if_pos rfl
theorem text_list (keys : List ByteArray) (kids : List JT) : (JT.node (kindV 6) keys kids).text = 91 :: (JT.textL false true keys kids ++ [93]) := by
  rw [JT.text]
  exact (if_neg (by decide)).trans (if_pos rfl)
/-- A tree is read back. -/
theorem back_tree (N : List Nat → Option Int) (hN : NumOk N) (s : List Nat) (hs : Bytes s) : ∀ T : JT, T.formed = true → T.NumFit → ∀ (f pos left : Nat) (r : List Nat), s.drop pos = T.text.map UInt8.toNat ++ r → NoNum r → T.size ≤ left → 3 * left + 1 ≤ f → pT N s f pos left = .ok T (pos + T.text.length) (left - T.size) := by
  intro T
  induction T using JT.ind with
  | h v keys kids ih =>
    intro hf hn f pos left r hd hr hz hl
    obtain ⟨ht, hk⟩ := (JT.formed_iff _).1 hf
    simp only [JT.kids] at hk
    rw [JT.size] at hz
    have hkn : I64 v.n ∧ ∀ k ∈ kids, k.NumFit := by cases hn with | mk _ _ _ a b => exact ⟨a, b⟩
    match f, hl with
    | 0, hl => omega
    | f + 1, hl =>
      unfold JT.top at ht
      simp only [JT.val, JT.keys, JT.kids] at ht
      rw [Bool.and_eq_true] at ht
      obtain ⟨hh, hc0⟩ := ht
      have hc : (if v.k = 5 then (keys.length == kids.length) && keysOk keys else if v.k = 6 then keys.length == 0 else keys.length == 0 && kids.length == 0) = true := hc0
      clear hc0
      rw [pT, if_neg (by omega), JT.size]
      have hleaf : ∀ w : JV, v = w → w.k ≠ 5 → w.k ≠ 6 → JT.node v keys kids = leafT w ∧ JT.sizeL kids = 0 := by
        intro w e a b
        subst e
        rw [if_neg a, if_neg b, Bool.and_eq_true, beq_iff_eq, beq_iff_eq] at hc
        rw [List.eq_nil_of_length_eq_zero hc.1, List.eq_nil_of_length_eq_zero hc.2]
        exact ⟨rfl, rfl⟩
      rcases head_cases (v := v) hh with e | e | e | e | ⟨e, e'⟩ | e | e
      · obtain ⟨a, b⟩ := hleaf _ e (by decide) (by decide)
        rw [a] at hd ⊢
        have et : (leafT (kindV 0)).text.map UInt8.toNat = nullN := rfl
        rw [hd, et, if_pos (by simp [prefB, nullN]), b]
        rfl
      · obtain ⟨a, b⟩ := hleaf _ e (by decide) (by decide)
        rw [a] at hd ⊢
        have et : (leafT ⟨1, 1, ⟨#[]⟩, 0, 0⟩).text.map UInt8.toNat = trueN := rfl
        rw [hd, et, if_neg (by simp [prefB, trueN, nullN]), if_pos (by simp [prefB, trueN]), b]
        rfl
      · obtain ⟨a, b⟩ := hleaf _ e (by decide) (by decide)
        rw [a] at hd ⊢
        have et : (leafT (kindV 1)).text.map UInt8.toNat = falseN := rfl
        rw [hd, et, if_neg (by simp [prefB, falseN, nullN]), if_neg (by simp [prefB, falseN, trueN]), if_pos (by simp [prefB, falseN]), b]
        rfl
      · obtain ⟨a, b⟩ := hleaf _ e (by simp) (by simp)
        rw [a] at hd ⊢
        obtain ⟨g1, g2⟩ := itoa_num v.n
        have et : (leafT ⟨2, v.n, ⟨#[]⟩, 0, 0⟩).text = Go.Lib.itoa v.n := rfl
        rw [et] at hd ⊢
        have g3 : ∀ c ∈ (Go.Lib.itoa v.n).map UInt8.toNat, isNumC c = true := by
          intro c hc
          obtain ⟨x, hx, rfl⟩ := List.mem_map.1 hc
          exact g1 x hx
        have hrun : numRun (s.drop pos) = (Go.Lib.itoa v.n).map UInt8.toNat := by rw [hd]; exact numRun_append g3 hr
        have hget := hN.get v.n hkn.1
        rw [hrun, hget, at_drop0 s pos, hd]
        cases hi : Go.Lib.itoa v.n with
        | nil => exact absurd hi g2
        | cons c l =>
          have hc := g1 c (by rw [hi]; exact List.mem_cons_self ..)
          unfold isNumC at hc
          simp only [Bool.or_eq_true, beq_iff_eq, Bool.and_eq_true, decide_eq_true_eq] at hc
          have n1 : ¬ (c.toNat = 110 ∨ c.toNat = 116 ∨ c.toNat = 102 ∨ c.toNat = 123 ∨ c.toNat = 91 ∨ c.toNat = 34) := by omega
          simp only [not_or] at n1
          obtain ⟨m1, m2, m3, m4, m5, m6⟩ := n1
          rw [if_neg (by simp [prefB, nullN]; omega), if_neg (by simp [prefB, trueN]; omega), if_neg (by simp [prefB, falseN]; omega)]
          simp only [List.map_cons, List.cons_append, List.getElem?_cons_zero, Option.some.injEq, if_neg m4, if_neg m5, if_neg m6, List.length_cons, List.length_map, b]
      · obtain ⟨a, b⟩ := hleaf _ e (by simp) (by simp)
        rw [a] at hd ⊢
        have et : (leafT ⟨3, 0, v.s, 0, 0⟩).text = quoteL v.s.data.toList := rfl
        rw [et] at hd ⊢
        have ht := txtF_at hs hd e'
        rw [ht, at_drop0 s pos, hd]
        have e0 : quoteL v.s.data.toList = 34 :: (v.s.data.toList.flatMap quoteB ++ [34]) := rfl
        rw [if_neg (by rw [e0]; simp [prefB, nullN]), if_neg (by rw [e0]; simp [prefB, trueN]), if_neg (by rw [e0]; simp [prefB, falseN])]
        rw [if_neg (by rw [e0]; simp), if_neg (by rw [e0]; simp), if_pos (by rw [e0]; simp), b]
      · subst e
        rw [text_map] at hd ⊢
        rw [if_neg (by rw [hd]; simp [prefB, nullN]), if_neg (by rw [hd]; simp [prefB, trueN]), if_neg (by rw [hd]; simp [prefB, falseN])]
        rw [if_pos (by rw [at_drop0, hd]; simp)]
        have hd1 : s.drop (pos + 1) = (JT.textL true true keys kids).map UInt8.toNat ++ 125 :: r := by
          rw [← List.drop_drop, hd]
          simp
        rw [if_pos (by rfl), Bool.and_eq_true, beq_iff_eq] at hc
        cases kids with
        | nil =>
          have hke : keys = [] := List.eq_nil_of_length_eq_zero hc.1
          subst hke
          rw [if_pos (by rw [at_drop0, hd1]; simp [JT.textL])]
          simp [JT.textL, JT.sizeL, leafT]
        | cons k l =>
          match keys, hc, hd, hd1 with
          | [], hc, _, _ => simp at hc
          | x :: keys, hc, hd, hd1 =>
            rw [if_neg (by rw [at_drop0, hd1, JT.textL]; simp [quoteL])]
            rw [back_kids N s hs 5 true 125 (.inl ⟨rfl, rfl, rfl⟩) (k :: l) (x :: keys) f (pos + 1) (left - 1) r [] [] (by simp) (fun k' hk' => ih k' hk' (hk k' hk') (hkn.2 k' hk')) (by simp only [if_true]; exact hc) hd1 (by omega) (by omega)]
            simp only [List.nil_append, List.length_cons, List.length_append]
            congr 1 <;> (try simp) <;> omega
      · subst e
        rw [text_list] at hd ⊢
        rw [if_neg (by rw [hd]; simp [prefB, nullN]), if_neg (by rw [hd]; simp [prefB, trueN]), if_neg (by rw [hd]; simp [prefB, falseN])]
        rw [if_neg (by rw [at_drop0, hd]; simp), if_pos (by rw [at_drop0, hd]; simp)]
        have hd1 : s.drop (pos + 1) = (JT.textL false true keys kids).map UInt8.toNat ++ 93 :: r := by
          rw [← List.drop_drop, hd]
          simp
        rw [if_neg (by decide), if_pos (by rfl), beq_iff_eq] at hc
        have hke : keys = [] := List.eq_nil_of_length_eq_zero hc
        subst hke
        cases kids with
        | nil =>
          rw [if_pos (by rw [at_drop0, hd1]; simp [JT.textL])]
          simp [JT.textL, JT.sizeL, leafT]
        | cons k l =>
          obtain ⟨c, x, hx, hne⟩ := text_head (hk k (List.mem_cons_self ..))
          rw [if_neg (by rw [at_drop0, hd1, JT.textL, hx]; simp; exact hne)]
          rw [back_kids N s hs 6 false 93 (.inr ⟨rfl, rfl, rfl⟩) (k :: l) [] f (pos + 1) (left - 1) r [] [] (by simp) (fun k' hk' => ih k' hk' (hk k' hk') (hkn.2 k' hk')) (by simp) hd1 (by omega) (by omega)]
          simp only [List.nil_append, List.length_cons, List.length_append]
          congr 1 <;> (try simp) <;> omega
/-- A tree's text is read as the tree. -/
theorem parse_text (N : List Nat → Option Int) (hN : NumOk N) (T : JT) (hf : T.formed = true) (hn : T.NumFit) (hz : T.size ≤ 400) (hl : T.text.length ≤ 60000) : parseF N (T.text.map UInt8.toNat) = .ok T := by
  have hb : Bytes (T.text.map UInt8.toNat) := by
    intro c hc
    obtain ⟨x, _, rfl⟩ := List.mem_map.1 hc
    exact x.toNat_lt
  have h := back_tree N hN _ hb T hf hn 2000 0 400 [] (by simp) (by intro c hc; simp at hc) hz (by omega)
  unfold parseF
  rw [if_neg (by simp; omega), h]
  simp
end Go.Proofs.YtpeckpiidgkgoaaGreatDoor
