/- PathsGet, BackHead. -/
import Derived.Test.YtmkebfclaehneaaDoorBg28
import Derived.Test.YtmkebfclaehneaaDoorBg23
import Derived.Test.YtmkebfclaehneaaDoorBg24
import Derived.Test.YtmkebfclaehneaaDoorBg32
import Derived.Test.YtmkebfclaehneaaDoorBg29
/- Each path of a value leads to a tree with it. Over no program. -/
namespace Go.Proofs.YtmkebfclaehneaaDoor
open Go.RowKit
set_option linter.unusedVariables false
set_option linter.unusedSimpArgs false

theorem pathsL_mem (x v : JV) (keys : List ByteArray) (pre p : List St) : ∀ (l : List JT) (i : Nat), p ∈ JT.pathsL x v keys i l pre → ∃ (j : Nat) (k : JT), l[j]? = some k ∧ p ∈ k.paths x (pre ++ [stepAt v keys (i + j)]) := by
  intro l
  induction l with
  | nil => intro i h; simp [JT.pathsL] at h
  | cons a l ih =>
    intro i h
    rw [JT.pathsL, List.mem_append] at h
    rcases h with h | h
    · exact ⟨0, a, rfl, by simpa using h⟩
    · obtain ⟨j, k, h1, h2⟩ := ih (i + 1) h
      exact ⟨j + 1, k, by simpa using h1, by rw [show i + (j + 1) = i + 1 + j from by omega]; exact h2⟩
theorem nil_list : (⟨#[]⟩ : ByteArray).toList = [] := by rw [ByteArray.toList_eq]
theorem idx_step {v : JV} {keys : List ByteArray} {kids : List JT} (h : (JT.node v keys kids).top = true) {j : Nat} (hj : j < kids.length) : (JT.node v keys kids).idx (stepAt v keys j) = some j := by
  rw [JT.top_node, Bool.and_eq_true] at h
  have h2 := h.2
  unfold JT.idx idxO
  show (if isMapStep v (stepAt v keys j) then _ else if isListStep v (stepAt v keys j) kids.length then _ else _) = some j
  by_cases h5 : v.k = 5
  · rw [if_pos h5, Bool.and_eq_true] at h2
    have hl : keys.length = kids.length := by simpa using h2.1
    obtain ⟨hok, hr⟩ := (keysOk_iff keys).1 h2.2
    have hk : keys[j]? = some keys[j] := List.getElem?_eq_getElem (by omega)
    have he : stepAt v keys j = ⟨keys[j], 0⟩ := by unfold stepAt; rw [if_pos h5, hk]; rfl
    have hne := hok keys[j] (List.getElem_mem _)
    unfold keyOk at hne
    rw [Bool.and_eq_true] at hne
    have hm : isMapStep v (stepAt v keys j) = true := by
      rw [he]
      unfold isMapStep
      simp only [h5, beq_self_eq_true, Bool.true_and, Bool.and_true]
      exact hne.1
    rw [if_pos hm, he]
    show (if keys[plc keys keys[j]]? = some keys[j] then some (plc keys keys[j]) else none) = some j
    rw [plc_of hr hk, if_pos hk]
  · rw [if_neg h5] at h2
    have he : stepAt v keys j = ⟨⟨#[]⟩, j⟩ := by unfold stepAt; rw [if_neg h5]
    by_cases h6 : v.k = 6
    · have hm : isMapStep v (stepAt v keys j) = false := by unfold isMapStep; simp [h6]
      have hl : isListStep v (stepAt v keys j) kids.length = true := by
        rw [he]
        unfold isListStep
        simp [h6, nil_list]
        omega
      rw [if_neg (by rw [hm]; simp), if_pos hl, he]
      show (if (j : Int).toNat < kids.length then some (j : Int).toNat else none) = some j
      rw [Int.toNat_natCast, if_pos hj]
    · rw [if_neg h6, Bool.and_eq_true] at h2
      have : kids.length = 0 := by simpa using h2.2
      omega
theorem paths_get (x : JV) : ∀ T : JT, T.formed = true → ∀ pre p, p ∈ T.paths x pre → ∃ q y, p = pre ++ q ∧ T.get q = some y ∧ y.val = x := by
  intro T
  refine JT.ind (P := fun T => T.formed = true → ∀ pre p, p ∈ T.paths x pre → ∃ q y, p = pre ++ q ∧ T.get q = some y ∧ y.val = x) ?_ T
  intro v keys kids ih hf pre p hp
  obtain ⟨htop, hkf⟩ := (JT.formed_iff _).1 hf
  rw [JT.paths_eq, List.mem_append] at hp
  rcases hp with hp | hp
  · unfold hitP at hp
    split at hp
    · rename_i hs
      rw [List.mem_singleton] at hp
      subst hp
      exact ⟨[], _, by simp, rfl, (JV.same_iff _ _).1 hs⟩
    · cases hp
  · obtain ⟨j, k, hk, hp⟩ := pathsL_mem x _ _ pre p _ 0 hp
    rw [Nat.zero_add] at hp
    have hk' : kids[j]? = some k := hk
    have hm := List.mem_of_getElem? hk'
    obtain ⟨q, y, h1, h2, h3⟩ := ih k hm (hkf k hm) _ _ hp
    refine ⟨stepAt v keys j :: q, y, by rw [h1]; simp [JT.val, JT.keys], ?_, h3⟩
    rw [JT.get, idx_step htop (List.getElem?_eq_some_iff.1 hk').1]
    show (match (JT.node v keys kids).kids[j]? with | none => none | some k => k.get q) = some y
    rw [show (JT.node v keys kids).kids[j]? = some k from hk']
    exact h2
end Go.Proofs.YtmkebfclaehneaaDoor
/- What JsonBack's walk leans on. -/
namespace Go.Proofs.YtmkebfclaehneaaDoor
open Go.RowKit
set_option linter.unusedVariables false
set_option linter.unusedSimpArgs false

theorem InJ.numFit {w : World} {T : PT} (h : InJ w T) : T.tree.NumFit := by
  revert h
  refine PT.ind (P := fun T => InJ w T → T.tree.NumFit) ?_ T
  intro v kA kc keys cA cc kids ih h
  rw [PT.tree_eq]
  refine .mk _ _ _ h.slot.fit.n fun k hk => ?_
  obtain ⟨x, hx, rfl⟩ := List.mem_map.1 hk
  exact ih x hx (h.kids x hx)
/-- The text of the fact. -/
def oneS : ByteArray := ⟨#[91, 49, 93]⟩
def oneT : JT := .node (kindV 6) [] [leafT ⟨2, 1, ⟨#[]⟩, 0, 0⟩]
theorem one_text : oneT.text.map UInt8.toNat = toN oneS := by
  have hd : Go.Lib.itoa 1 = [49] := by
    unfold Go.Lib.itoa
    rw [if_neg (by decide)]
    exact Go.Lib.decDigits_one (by decide)
  simp [oneT, leafT, kindV, JT.text, JT.textL, showL, hd, toN, oneS]
theorem one_fit : oneT.NumFit := .mk _ _ _ (show I64 0 by unfold I64; decide) fun k hk => by
  rw [List.mem_singleton] at hk
  subst hk
  exact .mk _ _ _ (show I64 1 by unfold I64; decide) fun k hk => by cases hk
theorem one_formed : oneT.formed = true := by
  simp [oneT, leafT, kindV, JT.formed, JT.formedL, JT.top, JT.val, JT.keys, JT.kids, JV.head, JV.ok, JV.bare]
  decide
theorem one_parse : parseF Num (toN oneS) = .ok oneT := by
  rw [← one_text]
  exact parse_text Num num_ok oneT one_formed one_fit (by decide) (by
    have := congrArg List.length one_text
    rw [List.length_map] at this
    rw [this]
    decide)
theorem parse_ok (s : ByteArray) (hm : s.size ≤ maxLen) (t : JT) (hP : parseF Num (toN s) = .ok t) (w : World) (hp : Pow10 w) (he : ErrAt w) :
    Calls Tryd.prog 4 #[.string s] w fun e w' => ∃ U : PT, e = .returned (.tuple #[.agg #[.int .i64 U.val.k, .int .i64 U.val.n, .string U.val.s, .int .i64 U.val.o, .int .i64 U.val.p, .slice U.kA U.keys.length U.kc, .slice U.cA U.kids.length U.cc], .int .i64 0, .nilIface]) ∧ U.tree = t ∧ InJ w' U ∧ Below w.heap.size w w' := by
  refine (parse_any s hm w hp he).mono ?_
  intro e w' h
  unfold ParseQ at h
  rw [hP] at h
  obtain ⟨⟨U, h1, h2, _, _, h3⟩, hb⟩ := h
  exact ⟨U, h1, h3, h2.inJ, hb⟩
theorem parse_err (s : ByteArray) (hm : s.size ≤ maxLen) (a : Nat) (x : Int) (hP : parseF Num (toN s) = .error (a, x)) (w : World) (hp : Pow10 w) (he : ErrAt w) :
    Calls Tryd.prog 4 #[.string s] w fun e w' => e = .returned (.tuple #[.agg #[.int .i64 0, .int .i64 0, .string ⟨#[]⟩, .int .i64 0, .int .i64 0, .slice none 0 0, .slice none 0 0], .int .i64 a, .iface 44 (.int .i64 x)]) ∧ Below w.heap.size w w' := by
  refine (parse_any s hm w hp he).mono ?_
  intro e w' h
  unfold ParseQ at h
  rw [hP] at h
  exact h
theorem print_ok (T : PT) (w : World) (hT : InJ w T) (hp : Pow10 w) (hc : checkV T.tree = .nilIface) : Calls Tryd.prog 5 #[.agg #[.int .i64 T.val.k, .int .i64 T.val.n, .string T.val.s, .int .i64 T.val.o, .int .i64 T.val.p, .slice T.kA T.keys.length T.kc, .slice T.cA T.kids.length T.cc]] w fun e w' => e = .returned (.tuple #[.string ⟨T.tree.text.toArray⟩, .nilIface]) ∧ Below w.heap.size w w' := by
  refine (print_any T w w hT (Below.refl _ _) hp).mono ?_
  rintro e w' ⟨⟨_, rfl⟩ | ⟨h, _⟩, hb⟩
  · exact ⟨rfl, hb⟩
  · exact absurd hc h
theorem print_no (T : PT) (w : World) (hT : InJ w T) (hp : Pow10 w) (n : Int) (hc : checkV T.tree = .iface 44 (.int .i64 n)) : Calls Tryd.prog 5 #[.agg #[.int .i64 T.val.k, .int .i64 T.val.n, .string T.val.s, .int .i64 T.val.o, .int .i64 T.val.p, .slice T.kA T.keys.length T.kc, .slice T.cA T.kids.length T.cc]] w fun e w' => e = .returned (.tuple #[.string ⟨#[]⟩, .iface 44 (.int .i64 n)]) ∧ Below w.heap.size w w' := by
  refine (print_any T w w hT (Below.refl _ _) hp).mono ?_
  rintro e w' ⟨⟨h, rfl⟩ | ⟨h, rfl⟩, hb⟩
  · rw [hc] at h; cases h
  · exact ⟨by rw [hc], hb⟩
/-- What a tree's text is, parsed. -/
theorem text_again {w : World} {T : PT} (hT : InJ w T) (hc : checkV T.tree = .nilIface) (X : ByteArray) (hX : (⟨T.tree.text.toArray⟩ : ByteArray) = X) (hl : X.size ≤ 60000) : parseF Num (toN X) = .ok T.tree := by
  obtain ⟨h1, h2⟩ := checkV_ok hc
  have e : toN X = T.tree.text.map UInt8.toNat := by rw [← hX]; simp [toN]
  rw [e]
  exact parse_text Num num_ok T.tree h1 hT.numFit h2 (by rw [← hX] at hl; simpa [ByteArray.size] using hl)
theorem check_of {t : JT} (h1 : t.formed = true) (h2 : t.size ≤ 400) : checkV t = .nilIface := by
  unfold checkV
  rw [if_pos h2, if_pos h1]
/-- What was parsed prints as it was. -/
theorem again_text {s : ByteArray} {t : JT} (h : parseF Num (toN s) = .ok t) : checkV t = .nilIface ∧ (⟨t.text.toArray⟩ : ByteArray) = s := by
  obtain ⟨h1, _, h3, h4, _⟩ := text_parse Num num_ok (toN s) (toN_lt s) t h
  refine ⟨check_of h1 h3, ?_⟩
  have := congrArg (List.map UInt8.ofNat) h4
  rw [map_of_to] at this
  unfold toN at this
  rw [map_of_to] at this
  apply ByteArray.ext
  rw [this]
theorem run_neq_val (v x : JV) (w : World) : (binOp .neq 25 (.agg #[.int .i64 v.k, .int .i64 v.n, .string v.s, .int .i64 v.o, .int .i64 v.p]) (.agg #[.int .i64 x.k, .int .i64 x.n, .string x.s, .int .i64 x.o, .int .i64 x.p])).run Tryd.prog w = .ok (.bool (!v.same x)) w := by
  have hs : (v.s.toList = x.s.toList) ↔ v.s = x.s := ⟨fun h => Go.WideShapes.bytes_inj (by simpa [ByteArray.toList_eq] using h), fun h => by rw [h]⟩
  go_simp
  unfold JV.same
  by_cases h1 : v.k = x.k <;> by_cases h2 : v.n = x.n <;> by_cases h3 : v.s = x.s <;> by_cases h4 : v.o = x.o <;> by_cases h5 : v.p = x.p <;> simp [hs, h1, h2, h3, h4, h5]
def zV : JV := ⟨0, 0, ⟨#[]⟩, 0, 0⟩
set_option maxRecDepth 100000 in
set_option maxHeartbeats 1000000 in
/-- The empty tree, and one with another value. -/
theorem same_no (S : PT) (w : World) (hv : zV.same S.val = false) : Calls Tryd.prog 6 #[.agg #[.int .i64 0, .int .i64 0, .string ⟨#[]⟩, .int .i64 0, .int .i64 0, .slice none 0 0, .slice none 0 0], .agg #[.int .i64 S.val.k, .int .i64 S.val.n, .string S.val.s, .int .i64 S.val.o, .int .i64 S.val.p, .slice S.kA S.keys.length S.kc, .slice S.cA S.kids.length S.cc]] w fun e w' => e = .returned (.bool false) ∧ Below w.heap.size w w' := by
  have hq := fun w => run_neq_val zV S.val w
  rw [hv] at hq
  unfold zV at hq
  simp only [Bool.not_false] at hq
  clear hv
  generalize S.val.k = k, S.val.n = n, S.val.s = s, S.val.o = o, S.val.p = p at *
  go_enter Tryd.func6, Tryd.ntmps6
  go_wp2_with fail
  go_ret
  exact ⟨rfl, ((Below.refl _ w).alloc (Nat.le_refl _) _).alloc (by simp) _⟩
/-- What Paths answers. -/
def PathsA (T : PT) (x : JV) (w : World) (e : Ending) (w' : World) : Prop :=
  ∃ (A : Option Addr) (c : Nat) (l : List SP) (ev : Value), e = .returned (.tuple #[.slice A l.length c, ev]) ∧ Below w.heap.size w w' ∧ SlAt w' A (l.map SP.cell) ∧ PathsIn w' (fun _ => False) l ∧ l.length ≤ 400 ∧ ∀ s ∈ l, checkV T.tree = .nilIface ∧ ev = .nilIface ∧ ∃ y, T.tree.get s.p = some y ∧ y.val = x
theorem paths_ans (T : PT) (x : JV) (w : World) (hT : InJ w T) (hx : x.Fit) :
    Calls Tryd.prog 7 #[.agg #[.int .i64 T.val.k, .int .i64 T.val.n, .string T.val.s, .int .i64 T.val.o, .int .i64 T.val.p, .slice T.kA T.keys.length T.kc, .slice T.cA T.kids.length T.cc], .agg #[.int .i64 x.k, .int .i64 x.n, .string x.s, .int .i64 x.o, .int .i64 x.p]] w (PathsA T x w) := by
  refine (paths_any T x w hT hx).mono ?_
  rintro e w' ⟨hb, ⟨h, rfl⟩ | ⟨h1, h2, rfl⟩ | ⟨h1, h2, A, c, l, rfl, h3, h4, h5⟩⟩
  · exact ⟨none, 0, [], _, rfl, hb, .inl rfl, (by intro s hs; cases hs), by simp, (by intro s hs; cases hs)⟩
  · exact ⟨none, 0, [], _, rfl, hb, .inl rfl, (by intro s hs; cases hs), by simp, (by intro s hs; cases hs)⟩
  · obtain ⟨hf, hz⟩ := checkV_ok h1
    refine ⟨A, c, l, _, rfl, hb, h4, h5, ?_, ?_⟩
    · have a := congrArg List.length h3
      have b := JT.paths_len x T.tree []
      rw [List.length_map] at a
      omega
    · intro s hs
      refine ⟨h1, rfl, ?_⟩
      have hm : s.p ∈ T.tree.paths x [] := by rw [← h3]; exact List.mem_map_of_mem hs
      obtain ⟨q, y, e1, e2, e3⟩ := paths_get x T.tree hf [] s.p hm
      rw [List.nil_append] at e1
      exact ⟨y, by rw [e1]; exact e2, e3⟩
theorem get_ok (T : PT) (s : SP) (y : JT) (w : World) (hT : InJ w T) (hA : SlAt w s.A (stCells s.p)) (hl : s.p.length ≤ 1000) (hc : checkV T.tree = .nilIface) (hg : T.tree.get s.p = some y) :
    Calls Tryd.prog 8 #[.agg #[.int .i64 T.val.k, .int .i64 T.val.n, .string T.val.s, .int .i64 T.val.o, .int .i64 T.val.p, .slice T.kA T.keys.length T.kc, .slice T.cA T.kids.length T.cc], .slice s.A s.p.length s.c] w fun e w' => ∃ G : PT, e = .returned (.tuple #[.agg #[.int .i64 y.val.k, .int .i64 y.val.n, .string y.val.s, .int .i64 y.val.o, .int .i64 y.val.p, .slice G.kA G.keys.length G.kc, .slice G.cA G.kids.length G.cc], .nilIface]) ∧ Below w.heap.size w w' := by
  refine (get_any T s.A s.c s.p w hT hA (by unfold maxLen; omega)).mono ?_
  rintro e w' ⟨hb, ⟨h, _⟩ | ⟨_, ⟨h, _⟩ | ⟨G, h, rfl, _⟩⟩⟩
  · exact absurd hc h
  · rw [hg] at h; cases h
  · rw [hg] at h
    injection h with h
    refine ⟨G, ?_, hb⟩
    rw [PT.value_eq, h, PT.tree_val]
end Go.Proofs.YtmkebfclaehneaaDoor
