/- TreeHead, PrintBack. -/
import Derived.Test.YtpeckpiidgkgoaaGreatDoorPg7
import Derived.Test.YtpeckpiidgkgoaaGreatDoorPg10
import Derived.Test.YtpeckpiidgkgoaaGreatDoorPg12
import Derived.Test.YtpeckpiidgkgoaaGreatDoorShelfP
import Derived.Test.YtpeckpiidgkgoaaGreatDoorShelfA
import Derived.Test.YtpeckpiidgkgoaaGreatDoorPg13
import Derived.Lib.SlTrimSet
import Derived.Lib.AtoiErrMem
import Derived.WalkSmall
import Derived.Test.YtpeckpiidgkgoaaGreatDoorPg9
/- reader.tree: what its parts say. -/
namespace Go.Proofs.YtpeckpiidgkgoaaGreatDoor
open Go.RowKit
set_option linter.unusedVariables false
set_option linter.unusedSimpArgs false

/-! Over no program: prefixes and runs. -/
theorem prefix_bytes : ∀ (p r : List UInt8), Lib.hasPrefix r p = prefB (p.map UInt8.toNat) (r.map UInt8.toNat)
  | [], r => by simp [Lib.hasPrefix, prefB]
  | a :: p, [] => by simp [Lib.hasPrefix, prefB, List.isPrefixOf]
  | a :: p, b :: r => by
    have ih := prefix_bytes p r
    unfold Lib.hasPrefix prefB at ih ⊢
    rw [List.map_cons, List.map_cons, List.isPrefixOf, List.isPrefixOf, ih]
    congr 1
    by_cases h : a = b
    · subst h; simp
    · have : a.toNat ≠ b.toNat := fun e => h (UInt8.toNat_inj.1 e)
      rw [beq_eq_false_iff_ne.2 h, beq_eq_false_iff_ne.2 this]
def cutS : List UInt8 := [45, 48, 49, 50, 51, 52, 53, 54, 55, 56, 57]
set_option maxRecDepth 100000 in
theorem cut_num (b : UInt8) : cutS.contains b = isNumC b.toNat := by
  have h : ∀ n : Fin 256, cutS.contains (UInt8.ofNat n) = isNumC n := by decide
  have := h ⟨b.toNat, b.toNat_lt⟩
  simpa using this
theorem run_map : ∀ r : List UInt8, numRun (r.map UInt8.toNat) = (r.takeWhile (cutS.contains ·)).map UInt8.toNat
  | [] => rfl
  | b :: r => by
    have ih := run_map r
    unfold numRun at ih ⊢
    rw [List.map_cons, List.takeWhile_cons, List.takeWhile_cons, cut_num b]
    by_cases h : isNumC b.toNat = true
    · rw [if_pos h, if_pos h, List.map_cons, ih]
    · rw [if_neg h, if_neg h, List.map_nil]
theorem trim_run (r : List UInt8) : r = r.takeWhile (cutS.contains ·) ++ Lib.trimLeftS r cutS := by
  unfold Lib.trimLeftS
  exact (List.takeWhile_append_dropWhile).symm
theorem run_len_le (r : List Nat) : (numRun r).length ≤ r.length := by
  unfold numRun
  exact (List.takeWhile_prefix _).length_le
/-- What stands ahead of what TrimLeft leaves. -/
theorem run_parts (r : ByteArray) (L : Nat) (hL : L = (numRun (toN r)).length) : L ≤ r.size ∧ (Lib.trimLeftS r.data.toList cutS).length = r.size - L ∧ (r.extract 0 L).data.toList.map UInt8.toNat = numRun (toN r) ∧ (r.extract 0 L).size = L := by
  have hr := run_map r.data.toList
  have ht := trim_run r.data.toList
  have hlen : r.data.toList.length = r.size := rfl
  have h1 : (numRun (toN r)).length = (r.data.toList.takeWhile (cutS.contains ·)).length := by
    unfold toN
    rw [hr, List.length_map]
  have h2 := congrArg List.length ht
  rw [List.length_append, hlen] at h2
  have hle : L ≤ r.size := by omega
  have hx : (r.extract 0 L).data.toList = r.data.toList.takeWhile (cutS.contains ·) := by
    rw [Lib.extract_data, List.drop_zero]
    rw [hL, h1]
    exact (List.prefix_iff_eq_take.1 (List.takeWhile_prefix _)).symm
  refine ⟨hle, by omega, ?_, by rw [ByteArray.size_extract]; omega⟩
  rw [hx]
  unfold toN
  rw [hr]
/-- What Atoi and Itoa say of the run. -/
theorem num_cases (r : ByteArray) (l : List Nat) (h : r.data.toList.map UInt8.toNat = l) :
    (∃ v, Go.Lib.atoiAll r.data.toList = .ok v ∧ I64 v ∧ ((Num l = some v ∧ (⟨(Go.Lib.itoa v).toArray⟩ : ByteArray) = r) ∨ (Num l = none ∧ (⟨(Go.Lib.itoa v).toArray⟩ : ByteArray) ≠ r))) ∨ ((∀ v, Go.Lib.atoiAll r.data.toList ≠ .ok v) ∧ Num l = none) := by
  subst h
  unfold Num
  rw [map_of_to]
  rcases Classical.em (∃ v, Go.Lib.atoiAll r.data.toList = .ok v) with ⟨v, ha⟩ | hno
  · left
    rw [ha]
    have hb := Go.Lib.atoiAll_bounds ha
    refine ⟨v, rfl, ⟨hb.1, hb.2⟩, ?_⟩
    simp only
    by_cases he : Go.Lib.itoa v = r.data.toList
    · left
      rw [he, if_pos rfl]
      refine ⟨rfl, ?_⟩
      apply ByteArray.ext
      simp
    · right
      have hne : (Go.Lib.itoa v).map UInt8.toNat ≠ r.data.toList.map UInt8.toNat := by
        intro e
        apply he
        have := congrArg (List.map UInt8.ofNat) e
        rw [map_of_to, map_of_to] at this
        exact this
      rw [if_neg hne]
      refine ⟨rfl, fun e => he ?_⟩
      rw [← e]
  · right
    refine ⟨fun v hv => hno ⟨v, hv⟩, ?_⟩
    split
    · rename_i v hv
      exact absurd ⟨v, hv⟩ hno
    · rfl

/-! Over the program. -/
/-- What Atoi's errors are. -/
def ErrAt (w : World) : Prop := ∃ ta pa tb pb, w.var? Tryz.prog "strconv.ErrSyntax" = some #[.iface ta pa] ∧ w.var? Tryz.prog "strconv.ErrRange" = some #[.iface tb pb]
theorem var_lt {w : World} {n : String} {g : Nat} {cs : Array Value} (hg : Tryz.prog.globalNamed n = some g) (h : w.var? Tryz.prog n = some cs) : g < w.heap.size := by
  unfold World.var? at h
  rw [hg] at h
  simp only [Option.bind_some] at h
  cases hh : w.heap[g]? with
  | none => rw [hh] at h; simp at h
  | some o => exact (Array.getElem?_eq_some_iff.1 hh).1
theorem ErrAt.below {w w' : World} (h : ErrAt w) (hb : Below w.heap.size w w') : ErrAt w' := by
  obtain ⟨ta, pa, tb, pb, h1, h2⟩ := h
  have g1 : Tryz.prog.globalNamed "strconv.ErrSyntax" = some 1 := by kernel_rfl
  have g2 : Tryz.prog.globalNamed "strconv.ErrRange" = some 2 := by kernel_rfl
  exact ⟨ta, pa, tb, pb, var?_below hb g1 (var_lt g1 h1) h1, var?_below hb g2 (var_lt g2 h2) h2⟩
/-- What Atoi answers. -/
def AtoiQ (s : ByteArray) (w : World) (e : Ending) (w' : World) : Prop :=
  ((∃ v, Go.Lib.atoiAll s.data.toList = .ok v ∧ e = .returned (.tuple #[.int .i64 v, .nilIface])) ∨ ((∀ v, Go.Lib.atoiAll s.data.toList ≠ .ok v) ∧ ∃ x T N, e = .returned (.tuple #[.int .i64 x, .iface T (.pointer (some ⟨N, 0, none⟩))]))) ∧ Below w.heap.size w w'
theorem atoi_any (s : ByteArray) (hs : s.size ≤ 60000) (w : World) (he : ErrAt w) : Calls Tryz.prog 27 #[.string s] w (AtoiQ s w) := by
  obtain ⟨ta, pa, tb, pb, h1, h2⟩ := he
  rcases Classical.em (∃ v, Go.Lib.atoiAll s.data.toList = .ok v) with ⟨v, ha⟩ | hno
  · refine (Tryz.strconv_Atoi_ok s (by omega) v ha w).mono ?_
    rintro e w' ⟨rfl, h⟩
    refine ⟨.inl ⟨v, ha, rfl⟩, ?_⟩
    rcases h with rfl | ⟨k, t, rfl⟩
    · exact Below.refl _ _
    · exact Lib.bytesWorld_below _ _ _
  · refine (Tryz.strconv_Atoi_bad s (by omega) (fun v hv => hno ⟨v, hv⟩) ta tb pa pb w h1 h2).mono ?_
    rintro e w' ⟨⟨x, T, N, rfl⟩, hb⟩
    exact ⟨.inr ⟨fun v hv => hno ⟨v, hv⟩, x, T, N, rfl⟩, hb⟩
/-- What a tree's reading ends in. -/
def TreeQ (rb : Nat) (s : ByteArray) (P : PR) (w : World) (e : Ending) (w' : World) : Prop :=
  (match P with
   | .ok t a l => ∃ T : PT, e = .returned T.value ∧ a ≤ s.size ∧ Rd w' rb s a l ∧ OwnJ 9 29 w' T ∧ T.own.Nodup ∧ (∀ b ∈ T.own, w.heap.size ≤ b) ∧ T.tree = t
   | .bad a x => e = faultE a x) ∧ Only (fun k => k = rb) w w'
/-- What a call of the reader may lean on. -/
structure Cx (W0 : World) (rb : Nat) (w : World) : Prop where
  bel : Below W0.heap.size W0 w
  rb : W0.heap.size ≤ rb
  pow : Pow10 W0
  err : ErrAt W0
theorem Cx.only {W0 w w' : World} {rb : Nat} (h : Cx W0 rb w) (ho : Only (fun k => k = rb) w w') : Cx W0 rb w' := ⟨h.bel.trans (ho.below h.bel.size (fun q hq e => by have := h.rb; omega)), h.rb, h.pow, h.err⟩
theorem Cx.below {W0 w w' : World} {rb : Nat} (h : Cx W0 rb w) (hb : Below w.heap.size w w') : Cx W0 rb w' := ⟨h.bel.trans (hb.mono h.bel.size), h.rb, h.pow, h.err⟩
theorem Cx.pow' {W0 w : World} {rb : Nat} (h : Cx W0 rb w) : Pow10 w := h.pow.below h.bel
theorem Cx.err' {W0 w : World} {rb : Nat} (h : Cx W0 rb w) : ErrAt w := h.err.below h.bel
end Go.Proofs.YtpeckpiidgkgoaaGreatDoor
/- What is read is printed as the text that it was. Over no program. -/
namespace Go.Proofs.YtpeckpiidgkgoaaGreatDoor
open Go.RowKit
set_option linter.unusedVariables false
set_option linter.unusedSimpArgs false

theorem bytes_list {l : List Nat} (h : Bytes l) : (l.map UInt8.ofNat).map UInt8.toNat = l := by
  rw [List.map_map]
  conv => rhs; rw [← List.map_id l]
  apply List.map_congr_left
  intro c hc
  have := h c hc
  simp
  omega
theorem bytes_drop {l : List Nat} (h : Bytes l) (p : Nat) : Bytes (l.drop p) := fun c hc => h c (List.mem_of_mem_drop hc)
theorem unq_text {l : List Nat} (hl : Bytes l) {b : List Nat} {n : Nat} (h : unq l = some (b, n)) : ∃ B : List UInt8, b = B.map UInt8.toNat ∧ n = (quoteL B).length ∧ ∃ r, l = (quoteL B).map UInt8.toNat ++ r := by
  rw [← bytes_list hl] at h
  obtain ⟨B, hB, ht⟩ := unq_back _ _ _ h
  have hn := unq_len h
  rw [List.length_map] at hn
  refine ⟨B, hB, ?_, l.drop n, ?_⟩
  · rw [← ht, List.length_take]
    omega
  · rw [← ht, List.map_take, bytes_list hl, List.take_append_drop]
theorem txtF_text {m : Nat} {l : List Nat} (hl : Bytes l) {k : ByteArray} {n : Nat} (h : txtF m l = some (k, n)) : k.size ≤ m ∧ n = (quoteL k.data.toList).length ∧ ∃ r, l = (quoteL k.data.toList).map UInt8.toNat ++ r := by
  unfold txtF at h
  split at h
  · rename_i b n' hu
    split at h
    · rename_i hb
      cases h
      obtain ⟨B, e, e2, r, e3⟩ := unq_text hl hu
      have : (ofN b).data.toList = B := by
        rw [e]
        unfold ofN
        simp only [List.map_map]
        have : (UInt8.ofNat ∘ UInt8.toNat) = id := by funext c; simp
        rw [this, List.map_id]
      have hsz : (ofN b).size = b.length := by unfold ofN; simp [ByteArray.size]
      rw [this]
      exact ⟨by omega, e2, r, e3⟩
    · cases h
  · cases h
/-- A tree that was read from there to there. -/
def ReadT (s : List Nat) (pos left : Nat) (T : JT) (a l : Nat) : Prop := T.formed = true ∧ T.NumFit ∧ l + T.size = left ∧ (∃ r, s.drop pos = T.text.map UInt8.toNat ++ r) ∧ a = pos + T.text.length
/-- Kids that were read, behind those that are there. -/
def ReadK (s : List Nat) (kind : Int) (endc : Nat) (m : Bool) (pos left : Nat) (keys : List ByteArray) (kids : List JT) (T : JT) (a l : Nat) : Prop :=
  ∃ ks k l', T = .node (kindV kind) (keys ++ ks) (kids ++ k :: l') ∧ (∀ x ∈ k :: l', x.formed = true ∧ x.NumFit) ∧ (if m then ks.length = l'.length + 1 ∧ keysFrom keys.getLast? ks = true else ks = []) ∧ l + JT.sizeL (k :: l') = left ∧ (∃ r, s.drop pos = (JT.textL m true ks (k :: l')).map UInt8.toNat ++ endc :: r) ∧ a = pos + (JT.textL m true ks (k :: l')).length + 1
def ReadV (s : List Nat) (kind : Int) (endc : Nat) (m : Bool) (pos left : Nat) (keys : List ByteArray) (kids : List JT) (T : JT) (a l : Nat) : Prop :=
  ∃ ks k l', T = .node (kindV kind) (keys ++ ks) (kids ++ k :: l') ∧ (∀ x ∈ k :: l', x.formed = true ∧ x.NumFit) ∧ (if m then ks.length = l'.length ∧ keysFrom keys.getLast? ks = true else ks = []) ∧ l + JT.sizeL (k :: l') = left ∧ (∃ r, s.drop pos = k.text.map UInt8.toNat ++ ((JT.textL m false ks l').map UInt8.toNat ++ endc :: r)) ∧ a = pos + k.text.length + (JT.textL m false ks l').length + 1
theorem keys_snoc (keys : List ByteArray) (x : ByteArray) (ks : List ByteArray) : keysFrom (keys ++ [x]).getLast? ks = keysFrom (some x) ks := by simp
theorem read_kids (N : List Nat → Option Int) (s : List Nat) (hs : Bytes s) (kind : Int) (m : Bool) (endc : Nat) (hm : (kind = 5 ∧ m = true ∧ endc = 125) ∨ (kind = 6 ∧ m = false ∧ endc = 93)) (f : Nat)
    (hV : ∀ pos left keys kids T a l, pV N s f kind endc pos left keys kids = .ok T a l → ReadV s kind endc m pos left keys kids T a l) :
    ∀ pos left keys kids T a l, pK N s (f + 1) kind endc pos left keys kids = .ok T a l → ReadK s kind endc m pos left keys kids T a l := by
  intro pos left keys kids T a l h
  rw [pK] at h
  rcases hm with ⟨e1, e2, e3⟩ | ⟨e1, e2, e3⟩
  · rw [if_pos e1] at h
    split at h
    · cases h
    · rename_i x n hx
      split at h
      · cases h
      · rename_i hka
        split at h
        · rename_i hc
          obtain ⟨ks, k, l', g1, g2, g3, g4, ⟨r, g5⟩, g6⟩ := hV _ _ _ _ _ _ _ h
          subst e2
          simp only [if_true] at g3
          obtain ⟨t1, t2, r0, t3⟩ := txtF_text (bytes_drop hs pos) hx
          have hka' : keyAfter keys x = true := by simpa using hka
          unfold keyAfter at hka'
          rw [Bool.and_eq_true] at hka'
          have hd2 := drop_more t3
          rw [List.length_map, ← t2] at hd2
          refine ⟨x :: ks, k, l', by rw [g1]; simp, g2, ?_, g4, ⟨r, ?_⟩, ?_⟩
          · simp only [if_true]
            refine ⟨by simp [g3.1], ?_⟩
            rw [keysFrom.eq_def]
            simp only [Bool.and_eq_true]
            refine ⟨⟨?_, hka'.2⟩, ?_⟩
            · unfold keyOk
              rw [Bool.and_eq_true]
              exact ⟨hka'.1, by simp; omega⟩
            · rw [← keys_snoc keys]; exact g3.2
          · rw [t3]
            rw [at_drop0, hd2] at hc
            rw [← List.drop_drop, hd2] at g5
            rw [JT.textL]
            cases r0 with
            | nil => simp at hc
            | cons c r0 =>
              simp at hc
              simp only [List.drop_succ_cons, List.drop_zero] at g5
              simp [g5, hc]
          · rw [g6, JT.textL, t2]
            simp
            omega
        · cases h
  · rw [if_neg (by omega)] at h
    obtain ⟨ks, k, l', g1, g2, g3, g4, ⟨r, g5⟩, g6⟩ := hV _ _ _ _ _ _ _ h
    subst e2
    simp only [Bool.false_eq_true, if_false] at g3
    subst g3
    refine ⟨[], k, l', g1, g2, by simp, g4, ⟨r, ?_⟩, ?_⟩
    · rw [g5, JT.textL]
      simp
    · rw [g6, JT.textL]
      simp
      omega
theorem read_val (N : List Nat → Option Int) (s : List Nat) (hs : Bytes s) (kind : Int) (m : Bool) (endc : Nat) (f : Nat)
    (hT : ∀ pos left T a l, pT N s f pos left = .ok T a l → ReadT s pos left T a l)
    (hK : ∀ pos left keys kids T a l, pK N s f kind endc pos left keys kids = .ok T a l → ReadK s kind endc m pos left keys kids T a l) :
    ∀ pos left keys kids T a l, pV N s (f + 1) kind endc pos left keys kids = .ok T a l → ReadV s kind endc m pos left keys kids T a l := by
  intro pos left keys kids T a l h
  rw [pV] at h
  split at h
  · cases h
  · rename_i t a0 l0 ht
    obtain ⟨t1, t2, t3, ⟨r0, t4⟩, t5⟩ := hT _ _ _ _ _ ht
    have hd := drop_more t4
    rw [List.length_map, ← t5] at hd
    split at h
    · rename_i hc
      rw [at_drop0, hd] at hc
      obtain ⟨ks, k, l', g1, g2, g3, g4, ⟨r, g5⟩, g6⟩ := hK _ _ _ _ _ _ _ h
      rw [← List.drop_drop, hd] at g5
      refine ⟨ks, t, k :: l', by rw [g1]; simp, ?_, ?_, ?_, ⟨r, ?_⟩, ?_⟩
      · intro x hx
        rcases List.mem_cons.1 hx with e | e
        · subst e; exact ⟨t1, t2⟩
        · exact g2 x e
      · simpa using g3
      · rw [JT.sizeL]; omega
      · rw [t4]
        cases r0 with
        | nil => simp at hc
        | cons c r0 =>
          simp at hc
          simp only [List.drop_succ_cons, List.drop_zero] at g5
          rw [textL_tail]
          simp [g5, hc]
      · rw [g6, textL_tail, t5]
        simp
        omega
    · split at h
      · rename_i hc
        cases h
        rw [at_drop0, hd] at hc
        refine ⟨[], t, [], by simp, ?_, ?_, ?_, ⟨r0.tail, ?_⟩, ?_⟩
        · intro x hx
          simp at hx
          subst hx
          exact ⟨t1, t2⟩
        · split <;> simp [keysFrom]
        · simp [JT.sizeL, t3]
        · cases r0 with
          | nil => simp at hc
          | cons c r0 =>
            simp at hc
            rw [t4, hc]
            simp [JT.textL]
        · rw [t5]; simp [JT.textL]
      · cases h
theorem leaf_read {s : List Nat} {pos left : Nat} {v : JV} {r : List Nat} (hh : v.head = true) (h5 : v.k ≠ 5) (h6 : v.k ≠ 6) (hn : I64 v.n) (hl : left ≠ 0) (h : s.drop pos = (showL v).map UInt8.toNat ++ r) : ReadT s pos left (leafT v) (pos + (showL v).length) (left - 1) := by
  have e : (leafT v).text = showL v := text_leaf h5 h6 [] []
  refine ⟨?_, .mk _ _ _ hn (by simp), ?_, ⟨r, by rw [e, h]⟩, by rw [e]⟩
  · rw [JT.formed_iff]
    refine ⟨?_, by intro k hk; simp [leafT, JT.kids] at hk⟩
    unfold JT.top leafT
    rw [Bool.and_eq_true]
    refine ⟨hh, ?_⟩
    show (if v.k = 5 then _ else if v.k = 6 then _ else _) = true
    rw [if_neg h5, if_neg h6]
    rfl
  · unfold leafT
    rw [JT.size, JT.sizeL]
    omega
theorem empty_toList : (⟨#[]⟩ : ByteArray).toList = [] := by rw [ByteArray.toList_eq]
theorem pref_of {w l : List Nat} (h : prefB w l = true) : ∃ r, l = w ++ r := by
  obtain ⟨r, e⟩ := List.isPrefixOf_iff_prefix.1 h
  exact ⟨r, e.symm⟩
theorem i64_small (n : Int) (h : n = 0 ∨ n = 1) : I64 n := by rcases h with e | e <;> subst e <;> unfold I64 <;> decide
theorem read_tree (N : List Nat → Option Int) (hN : NumOk N) (s : List Nat) (hs : Bytes s) (f : Nat)
    (hM : ∀ pos left keys kids T a l, pK N s f 5 125 pos left keys kids = .ok T a l → ReadK s 5 125 true pos left keys kids T a l)
    (hL : ∀ pos left keys kids T a l, pK N s f 6 93 pos left keys kids = .ok T a l → ReadK s 6 93 false pos left keys kids T a l) :
    ∀ pos left T a l, pT N s (f + 1) pos left = .ok T a l → ReadT s pos left T a l := by
  intro pos left T a l h
  rw [pT] at h
  split at h
  · cases h
  rename_i hl
  split at h
  · rename_i hp
    cases h
    obtain ⟨r, e⟩ := pref_of hp
    exact leaf_read (v := kindV 0) (by simp [JV.head, JV.ok, JV.bare, kindV, empty_toList]) (by decide) (by decide) (i64_small 0 (.inl rfl)) hl e
  split at h
  · rename_i hp
    cases h
    obtain ⟨r, e⟩ := pref_of hp
    exact leaf_read (v := ⟨1, 1, ⟨#[]⟩, 0, 0⟩) (by simp [JV.head, JV.ok, JV.bare, empty_toList]) (by decide) (by decide) (i64_small 1 (.inr rfl)) hl e
  split at h
  · rename_i hp
    cases h
    obtain ⟨r, e⟩ := pref_of hp
    exact leaf_read (v := kindV 1) (by simp [JV.head, JV.ok, JV.bare, kindV, empty_toList]) (by decide) (by decide) (i64_small 0 (.inl rfl)) hl e
  split at h
  · rename_i hp
    rw [at_drop0] at hp
    obtain ⟨r0, hr0⟩ : ∃ r0, s.drop pos = 123 :: r0 := by
      cases hd : s.drop pos with
      | nil => rw [hd] at hp; simp at hp
      | cons c r0 => rw [hd] at hp; simp at hp; exact ⟨r0, by rw [hp]⟩
    have hd1 : s.drop (pos + 1) = r0 := by rw [← List.drop_drop, hr0]; rfl
    split at h
    · rename_i hq
      cases h
      rw [at_drop0, hd1] at hq
      obtain ⟨r1, hr1⟩ : ∃ r1, r0 = 125 :: r1 := by
        cases r0 with
        | nil => simp at hq
        | cons c r1 => simp at hq; exact ⟨r1, by rw [hq]⟩
      have et : (leafT (kindV 5)).text = [123, 125] := by unfold leafT; rw [text_map]; rfl
      refine ⟨?_, .mk _ _ _ (i64_small 0 (.inl rfl)) (by simp), ?_, ⟨r1, by rw [et, hr0, hr1]; rfl⟩, by rw [et]; rfl⟩
      · rw [JT.formed_iff]
        refine ⟨?_, by intro k hk; simp [leafT, JT.kids] at hk⟩
        simp [JT.top, leafT, JT.val, JT.keys, JT.kids, JV.head, JV.ok, kindV, empty_toList, idOk, keysOk, keysFrom]
      · unfold leafT; rw [JT.size, JT.sizeL]; omega
    · obtain ⟨ks, k, l', g1, g2, g3, g4, ⟨r, g5⟩, g6⟩ := hM _ _ _ _ _ _ _ h
      simp only [if_true, List.getLast?_nil] at g3
      simp only [List.nil_append] at g1
      subst g1
      have hn : JT.NumFit (.node (kindV 5) ks (k :: l')) := .mk _ _ _ (i64_small 0 (.inl rfl)) (fun x hx => (g2 x hx).2)
      refine ⟨?_, hn, ?_, ⟨r, ?_⟩, ?_⟩
      · rw [JT.formed_iff]
        refine ⟨?_, fun x hx => (g2 x hx).1⟩
        simp [JT.top, JT.val, JT.keys, JT.kids, JV.head, JV.ok, kindV, empty_toList, idOk, keysOk, g3]
      · rw [JT.size]; omega
      · rw [hd1] at g5
        rw [text_map, hr0, g5]
        simp
      · rw [text_map, g6]; simp; omega
  split at h
  · rename_i hp
    rw [at_drop0] at hp
    obtain ⟨r0, hr0⟩ : ∃ r0, s.drop pos = 91 :: r0 := by
      cases hd : s.drop pos with
      | nil => rw [hd] at hp; simp at hp
      | cons c r0 => rw [hd] at hp; simp at hp; exact ⟨r0, by rw [hp]⟩
    have hd1 : s.drop (pos + 1) = r0 := by rw [← List.drop_drop, hr0]; rfl
    split at h
    · rename_i hq
      cases h
      rw [at_drop0, hd1] at hq
      obtain ⟨r1, hr1⟩ : ∃ r1, r0 = 93 :: r1 := by
        cases r0 with
        | nil => simp at hq
        | cons c r1 => simp at hq; exact ⟨r1, by rw [hq]⟩
      have et : (leafT (kindV 6)).text = [91, 93] := by unfold leafT; rw [text_list]; rfl
      refine ⟨?_, .mk _ _ _ (i64_small 0 (.inl rfl)) (by simp), ?_, ⟨r1, by rw [et, hr0, hr1]; rfl⟩, by rw [et]; rfl⟩
      · rw [JT.formed_iff]
        refine ⟨?_, by intro k hk; simp [leafT, JT.kids] at hk⟩
        simp [JT.top, leafT, JT.val, JT.keys, JT.kids, JV.head, JV.ok, kindV, empty_toList, idOk]
      · unfold leafT; rw [JT.size, JT.sizeL]; omega
    · obtain ⟨ks, k, l', g1, g2, g3, g4, ⟨r, g5⟩, g6⟩ := hL _ _ _ _ _ _ _ h
      simp only [Bool.false_eq_true, if_false] at g3
      subst g3
      simp only [List.nil_append] at g1
      subst g1
      have hn : JT.NumFit (.node (kindV 6) [] (k :: l')) := .mk _ _ _ (i64_small 0 (.inl rfl)) (fun x hx => (g2 x hx).2)
      refine ⟨?_, hn, ?_, ⟨r, ?_⟩, ?_⟩
      · rw [JT.formed_iff]
        refine ⟨?_, fun x hx => (g2 x hx).1⟩
        simp [JT.top, JT.val, JT.keys, JT.kids, JV.head, JV.ok, kindV, empty_toList, idOk]
      · rw [JT.size]; omega
      · rw [hd1] at g5
        rw [text_list, hr0, g5]
        simp
      · rw [text_list, g6]; simp; omega
  split at h
  · split at h
    · rename_i b n hx
      cases h
      obtain ⟨t1, t2, r0, t3⟩ := txtF_text (bytes_drop hs pos) hx
      rw [t2]
      exact leaf_read (v := ⟨3, 0, b, 0, 0⟩) (by simp [JV.head, JV.ok]; omega) (by simp) (by simp) (i64_small 0 (.inl rfl)) hl t3
    · cases h
  · split at h
    · rename_i x hx
      cases h
      obtain ⟨b1, b2⟩ := hN.back _ _ hx
      have hlen := congrArg List.length b2
      rw [List.length_map] at hlen
      rw [hlen]
      exact leaf_read (v := ⟨2, x, ⟨#[]⟩, 0, 0⟩) (r := (s.drop pos).dropWhile isNumC) (by simp [JV.head, JV.ok, JV.bare, empty_toList]) (by simp) (by simp) b1 hl (by rw [showL_num, ← b2]; exact (List.takeWhile_append_dropWhile).symm)
    · cases h
theorem read_all (N : List Nat → Option Int) (hN : NumOk N) (s : List Nat) (hs : Bytes s) : ∀ f, (∀ pos left T a l, pT N s f pos left = .ok T a l → ReadT s pos left T a l) ∧
    (∀ kind m endc, ((kind = 5 ∧ m = true ∧ endc = 125) ∨ (kind = 6 ∧ m = false ∧ endc = 93)) → ∀ pos left keys kids T a l, pK N s f kind endc pos left keys kids = .ok T a l → ReadK s kind endc m pos left keys kids T a l) ∧
    (∀ kind m endc, ((kind = 5 ∧ m = true ∧ endc = 125) ∨ (kind = 6 ∧ m = false ∧ endc = 93)) → ∀ pos left keys kids T a l, pV N s f kind endc pos left keys kids = .ok T a l → ReadV s kind endc m pos left keys kids T a l)
  | 0 => ⟨fun _ _ _ _ _ h => by simp [pT] at h, fun _ _ _ _ _ _ _ _ _ _ _ h => by simp [pK] at h, fun _ _ _ _ _ _ _ _ _ _ _ h => by simp [pV] at h⟩
  | f + 1 => by
    obtain ⟨h1, h2, h3⟩ := read_all N hN s hs f
    exact ⟨read_tree N hN s hs f (h2 5 true 125 (.inl ⟨rfl, rfl, rfl⟩)) (h2 6 false 93 (.inr ⟨rfl, rfl, rfl⟩)),
      fun kind m endc hm => read_kids N s hs kind m endc hm f (h3 kind m endc hm), fun kind m endc hm => read_val N s hs kind m endc f h1 (h2 kind m endc hm)⟩
/-- What a text is read as reads as it. -/
theorem text_parse (N : List Nat → Option Int) (hN : NumOk N) (s : List Nat) (hs : Bytes s) (T : JT) (h : parseF N s = .ok T) : T.formed = true ∧ T.NumFit ∧ T.size ≤ 400 ∧ T.text.map UInt8.toNat = s ∧ s.length ≤ 60000 := by
  unfold parseF at h
  split at h
  · cases h
  · rename_i hl
    split at h
    · cases h
    · rename_i t a l ht
      split at h
      · cases h
      · rename_i ha
        cases h
        obtain ⟨g1, g2, g3, ⟨r, g4⟩, g5⟩ := (read_all N hN s hs 2000).1 _ _ _ _ _ ht
        refine ⟨g1, g2, by omega, ?_, by omega⟩
        rw [List.drop_zero] at g4
        have hlen := congrArg List.length g4
        rw [List.length_append, List.length_map] at hlen
        have : r = [] := List.eq_nil_of_length_eq_zero (by omega)
        rw [g4, this, List.append_nil]
end Go.Proofs.YtpeckpiidgkgoaaGreatDoor
