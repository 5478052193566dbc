/- ShowP, JsonMem. -/
import Derived.Test.YtpeckpiidgkgoaaGreatDoorPg11
import Derived.Test.YtpeckpiidgkgoaaGreatDoorShelfN
import Derived.Shelf.Unicode.PredsPay
import Derived.Test.YtpeckpiidgkgoaaGreatDoorPg3
import Derived.Test.YtpeckpiidgkgoaaGreatDoorProg
import Derived.Deep.Strs
/- value.Show, at plain values: contract. -/
namespace Go.Proofs.YtpeckpiidgkgoaaGreatDoor
open Go.RowKit
set_option linter.unusedVariables false
set_option linter.unusedSimpArgs false

def Pow10 (w : World) : Prop := Lib.TabIs Tryz.prog w "internal/strconv.uint64pow10" .u64 Lib.pow10Tab
theorem Pow10.below {w w' : World} (h : Pow10 w) (hb : Below w.heap.size w w') : Pow10 w' := TabIs_below (g := 5) (by kernel_rfl) h hb
theorem grow_is_below (w : World) (k : Nat) (os : Array Obj) : Below w.heap.size w (Go.Sort.grow (w.drewN k) os) :=
  ⟨rfl, rfl, rfl, by simp [Go.Sort.grow, World.drewN], fun i hi => by
    show (w.heap ++ os)[i]? = w.heap[i]?
    rw [Array.getElem?_append_left hi]⟩
theorem itoa_any (n : Int) (h : I64 n) (w : World) (hp : Pow10 w) : Calls Tryz.prog 28 #[.int .i64 n] w fun e w' => e = .returned (.string ⟨(Lib.itoa n).toArray⟩) ∧ Below w.heap.size w w' := by
  refine (Tryz.strconv_Itoa n (by have := h.1; omega) (by have := h.2; omega) w hp).mono ?_
  rintro e w' ⟨rfl, k, os, rfl⟩
  exact ⟨rfl, grow_is_below _ _ _⟩

set_option maxRecDepth 100000 in
set_option maxHeartbeats 1000000 in
theorem show_any (v : JV) (hk0 : 0 ≤ v.k) (hk4 : v.k ≤ 4) (hn : I64 v.n) (hs : v.k = 3 → v.s.size ≤ 60) (w : World) (hp : Pow10 w) :
    Calls Tryz.prog 21 #[.agg v.cells.toArray] w fun e w' => e = .returned (.string ⟨(showL v).toArray⟩) ∧ Below w.heap.size w w' := by
  obtain ⟨k, n, s, o, p⟩ := v
  simp only at hk0 hk4 hn hs
  have hbx : Below w.heap.size w (w.alloc (.cells #[.int .i64 k, .int .i64 n, .string s, .int .i64 o, .int .i64 p] 25)) := (Below.refl _ _).alloc (Nat.le_refl _) _
  have HX := Lib.hid hbx
  clear hbx
  unfold JV.cells
  simp only
  have hks : k = 0 ∨ k = 1 ∨ k = 2 ∨ k = 3 ∨ k = 4 := by omega
  have HS := Lib.hid hs
  clear hs
  rcases hks with rfl | rfl | rfl | rfl | rfl
  · rw [show showL ⟨0, n, s, o, p⟩ = [110, 117, 108, 108] from rfl]
    go_enter Tryz.func21, Tryz.ntmps21
    go_wp2_with fail
    go_ret
    exact ⟨rfl, HX.out⟩
  · by_cases h1 : n = 1
    · subst h1
      rw [show showL ⟨1, 1, s, o, p⟩ = [116, 114, 117, 101] from rfl]
      go_enter Tryz.func21, Tryz.ntmps21
      go_wp2_with (first | (go_at_call 39; go_in) | (go_at_call 58; go_in))
      go_ret
      exact ⟨rfl, HX.out⟩
    · rw [show showL ⟨1, n, s, o, p⟩ = [102, 97, 108, 115, 101] from by simp [showL, h1]]
      have h1b : (n == 1) = false := by simpa using h1
      go_enter Tryz.func21, Tryz.ntmps21
      go_wp2_with (first | (go_at_call 39; go_in) | (go_at_call 58; go_in))
      go_ret
      exact ⟨rfl, HX.out⟩
  · have HD := Lib.hid (show Calls Tryz.prog 28 #[.int .i64 n] (w.alloc (.cells #[.int .i64 2, .int .i64 n, .string s, .int .i64 o, .int .i64 p] 25)) _ from itoa_any n hn _ (hp.below HX.out))
    rw [show showL ⟨2, n, s, o, p⟩ = Lib.itoa n from rfl]
    go_enter Tryz.func21, Tryz.ntmps21
    go_wp2_with (go_at_call 28; refine HD.out.mono ?_; rintro e w1 ⟨rfl, hb⟩; have HB := Lib.hid hb; clear hb)
    go_ret
    exact ⟨rfl, HX.out.trans (HB.out.mono HX.out.size)⟩
  · have HD := Lib.hid (quote_any s (by have := HS.out rfl; omega) (w.alloc (.cells #[.int .i64 3, .int .i64 n, .string s, .int .i64 o, .int .i64 p] 25)))
    rw [show showL ⟨3, n, s, o, p⟩ = quoteL s.data.toList from rfl]
    go_enter Tryz.func21, Tryz.ntmps21
    go_wp2_with (go_at_call 40; refine HD.out.mono ?_; rintro e w1 ⟨rfl, hb⟩; have HB := Lib.hid hb; clear hb)
    go_ret
    exact ⟨rfl, HX.out.trans (HB.out.mono HX.out.size)⟩
  · have HD := Lib.hid (show Calls Tryz.prog 28 #[.int .i64 n] (w.alloc (.cells #[.int .i64 4, .int .i64 n, .string s, .int .i64 o, .int .i64 p] 25)) _ from itoa_any n hn _ (hp.below HX.out))
    rw [show showL ⟨4, n, s, o, p⟩ = Lib.itoa n from rfl]
    go_enter Tryz.func21, Tryz.ntmps21
    go_wp2_with (go_at_call 28; refine HD.out.mono ?_; rintro e w1 ⟨rfl, hb⟩; have HB := Lib.hid hb; clear hb)
    go_ret
    exact ⟨rfl, HX.out.trans (HB.out.mono HX.out.size)⟩
end Go.Proofs.YtpeckpiidgkgoaaGreatDoor
/- JSON trees as they stand in memory; arguments opened. -/
namespace Go.Proofs.YtpeckpiidgkgoaaGreatDoor
open Go.RowKit
set_option linter.unusedVariables false

/-- A tree: its value; its keys, and the slice they stand in; its kids, and theirs. -/
inductive PT where
  | node (v : JV) (kA : Option Addr) (kc : Nat) (keys : List ByteArray) (cA : Option Addr) (cc : Nat) (kids : List PT)

def PT.val : PT → JV | .node v .. => v
def PT.keys : PT → List ByteArray | .node _ _ _ ks .. => ks
def PT.kids : PT → List PT | .node _ _ _ _ _ _ l => l
def PT.kA : PT → Option Addr | .node _ a .. => a
def PT.kc : PT → Nat | .node _ _ c .. => c
def PT.cA : PT → Option Addr | .node _ _ _ _ a .. => a
def PT.cc : PT → Nat | .node _ _ _ _ _ c _ => c
def PT.cells (T : PT) : List Value := T.val.cells ++ [.slice T.kA T.keys.length T.kc, .slice T.cA T.kids.length T.cc]
def PT.value (T : PT) : Value := .agg T.cells.toArray
theorem PT.cells_length (T : PT) : T.cells.length = 7 := by simp [PT.cells, JV.cells]

theorem PT.ind {P : PT → Prop} (h : ∀ v kA kc keys cA cc kids, (∀ k ∈ kids, P k) → P (.node v kA kc keys cA cc kids)) : ∀ T, P T :=
  fun T => PT.rec (motive_1 := P) (motive_2 := fun l => ∀ k ∈ l, P k) (fun v kA kc keys cA cc kids ih => h v kA kc keys cA cc kids ih) (by simp) (fun k l hk hl => by intro x hx; rcases List.mem_cons.1 hx with rfl | hx; exact hk; exact hl x hx) T

mutual
def PT.tree : PT → JT
  | .node v _ _ keys _ _ kids => .node v keys (PT.treeL kids)
def PT.treeL : List PT → List JT
  | [] => []
  | k :: l => k.tree :: PT.treeL l
end
theorem PT.treeL_eq (l : List PT) : PT.treeL l = l.map PT.tree := by
  induction l with
  | nil => rfl
  | cons x l ih => simp [PT.treeL, ih]
theorem PT.tree_eq (T : PT) : T.tree = .node T.val T.keys (T.kids.map PT.tree) := by
  cases T; simp [PT.tree, PT.treeL_eq, PT.val, PT.keys, PT.kids]
theorem PT.tree_val (T : PT) : T.tree.val = T.val := by rw [PT.tree_eq]; rfl
theorem PT.tree_keys (T : PT) : T.tree.keys = T.keys := by rw [PT.tree_eq]; rfl
theorem PT.tree_kids (T : PT) : T.tree.kids = T.kids.map PT.tree := by rw [PT.tree_eq]; rfl

/-! In memory. -/
def PT.cellsL (l : List PT) : List Value := l.flatMap PT.cells
theorem PT.cellsL_append (a b : List PT) : PT.cellsL (a ++ b) = PT.cellsL a ++ PT.cellsL b := by simp [PT.cellsL]
theorem PT.cellsL_length (l : List PT) : (PT.cellsL l).length = l.length * 7 := by
  induction l with
  | nil => rfl
  | cons x l ih => simp [PT.cellsL, PT.cells_length] at ih ⊢; omega
theorem PT.cellsL_at (l : List PT) : ∀ (k : Nat) (T : PT), l[k]? = some T → ∀ j, j < 7 → (PT.cellsL l)[k * 7 + j]? = T.cells[j]? := by
  induction l with
  | nil => intro k r h; simp at h
  | cons x l ih =>
    intro k T h j hj
    have hx := x.cells_length
    cases k with
    | zero =>
      simp at h; subst h
      rw [Nat.zero_mul, Nat.zero_add, PT.cellsL, List.flatMap_cons, List.getElem?_append_left (by omega)]
    | succ k =>
      have := ih k T (by simpa using h) j hj
      rw [PT.cellsL, List.flatMap_cons, List.getElem?_append_right (by omega), hx, show (k + 1) * 7 + j - 7 = k * 7 + j from by omega]
      exact this

/-- What a slot of a tree holds. -/
structure PT.Slot (w : World) (T : PT) : Prop where
  fit : T.val.Fit
  keys : SlAt w T.kA (T.keys.map Value.string)
  kids : SlAt w T.cA (PT.cellsL T.kids)
  klen : T.keys.length ≤ maxLen
  clen : T.kids.length ≤ maxLen
  each : ∀ s ∈ T.keys, s.size ≤ maxLen
mutual
def InJ (w : World) : PT → Prop
  | .node v kA kc keys cA cc kids => PT.Slot w (.node v kA kc keys cA cc kids) ∧ InJL w kids
def InJL (w : World) : List PT → Prop
  | [] => True
  | k :: l => InJ w k ∧ InJL w l
end
theorem InJL_iff (w : World) (l : List PT) : InJL w l ↔ ∀ k ∈ l, InJ w k := by
  induction l with
  | nil => simp [InJL]
  | cons x l ih => simp [InJL, ih]
theorem InJ.slot {w : World} {T : PT} (h : InJ w T) : T.Slot w := by cases T; exact h.1
theorem InJ.kids {w : World} {T : PT} (h : InJ w T) : ∀ k ∈ T.kids, InJ w k := by
  cases T
  exact (InJL_iff w _).1 h.2
theorem InJ.kid {w : World} {T : PT} (h : InJ w T) {i : Nat} {k : PT} (hk : T.kids[i]? = some k) : InJ w k := h.kids k (List.mem_of_getElem? hk)
theorem InJ.mk_ {w : World} {T : PT} (hs : T.Slot w) (hk : ∀ k ∈ T.kids, InJ w k) : InJ w T := by
  cases T
  exact ⟨hs, (InJL_iff w _).2 hk⟩
/-- The cells of a kid, at the kids' slice. -/
theorem PT.Slot.kid_at {w : World} {T : PT} (h : T.Slot w) {i : Nat} {k : PT} (hk : T.kids[i]? = some k) :
    ∃ b off, T.cA = some ⟨b, off, none⟩ ∧ ∀ j, j < 7 → w.cell? ⟨b, off + (i * 7 + j), none⟩ = k.cells[j]? := by
  rcases h.kids with h0 | ⟨b, off, hA, hc⟩
  · have := PT.cellsL_at _ i k hk 0 (by omega)
    rw [h0] at this
    simp [PT.cells, JV.cells] at this
  · refine ⟨b, off, hA, fun j hj => ?_⟩
    have h1 := PT.cellsL_at _ i k hk j hj
    obtain ⟨u, hu⟩ : ∃ u, k.cells[j]? = some u := ⟨_, List.getElem?_eq_getElem (by rw [k.cells_length]; omega)⟩
    rw [hu] at h1 ⊢
    exact hc _ _ h1
theorem PT.Slot.key_at {w : World} {T : PT} (h : T.Slot w) {i : Nat} {s : ByteArray} (hk : T.keys[i]? = some s) :
    ∃ b off, T.kA = some ⟨b, off, none⟩ ∧ w.cell? ⟨b, off + i, none⟩ = some (.string s) :=
  h.keys.at_ (by simp [hk])
theorem PT.Slot.below {w w' : World} {T : PT} (h : T.Slot w) (hb : Below w.heap.size w w') : T.Slot w' := ⟨h.fit, h.keys.below hb, h.kids.below hb, h.klen, h.clen, h.each⟩
theorem InJ.below {w w' : World} {T : PT} (h : InJ w T) (hb : Below w.heap.size w w') : InJ w' T := by
  revert h
  refine PT.ind (P := fun T => InJ w T → InJ w' T) ?_ T
  intro v kA kc keys cA cc kids ih h
  exact ⟨h.1.below hb, (InJL_iff _ _).2 fun k hk => ih k hk ((InJL_iff _ _).1 h.2 k hk)⟩
theorem InJ.alloc {w : World} {T : PT} (h : InJ w T) (o : Obj) : InJ (w.alloc o) T := h.below ((Below.refl _ _).alloc (Nat.le_refl _) o)
theorem InJ.drewN {w : World} {T : PT} (h : InJ w T) (n : Nat) : InJ (w.drewN n) T := h.below ⟨rfl, rfl, rfl, Nat.le_refl _, fun _ _ => rfl⟩
theorem InJ.drew {w : World} {T : PT} (h : InJ w T) : InJ w.drew T := h.below ⟨rfl, rfl, rfl, Nat.le_refl _, fun _ _ => rfl⟩

/-! Read off. -/
section
variable {H : Type} {enc : TypeId × Value → H} {w : World} {base : Nat} {spare : Nat → Bool} {held : Bool}

theorem tr_field {P : Program} {fs : Array Field} {n : Nat} {cs : List Value} {xs : List (DataW H × List MemPlace)}
    (hf : ∀ (i : Nat) (f : Field), fs[i]? = some f → DataW.trod enc P w base spare held n f.type ((cs.drop f.offset).take (P.cellsOf f.type)) = xs[i]?) (i : Nat) (f : Field) (hi : fs[i]? = some f)
    {t o m : Nat} (ht : f.type = t) (ho : f.offset = o) (hm : P.cellsOf t = m) {y : DataW H × List MemPlace} (hy : xs[i]? = some y) : DataW.trod enc P w base spare held n t ((cs.drop o).take m) = some y := by
  subst ht ho hm
  rw [← hy]
  exact hf i f hi
set_option maxRecDepth 100000 in
theorem trod_value {fuel : Nat} {cs : List Value} {x : DataW H × List MemPlace} (h : DataW.trod enc Tryz.prog w base spare held fuel 25 cs = some x) : ∃ v : JV, cs = v.cells ∧ v.Fit := by
  obtain ⟨xs, n, rfl, _, hl, hxl, hf⟩ := DataW.trod_struct Tryz.underlying25 h
  have c1 : Tryz.prog.cellsOf 3 = 1 := by kernel_rfl
  have c2 : Tryz.prog.cellsOf 9 = 1 := by kernel_rfl
  have c3 : Tryz.prog.cellsOf 23 = 2 := by kernel_rfl
  have c4 : Tryz.prog.cellsOf 25 = 5 := by kernel_rfl
  rw [c4] at hl
  match cs, hl, xs, hxl with
  | [a, b, c, d, e], _, [y0, y1, y2, y3], _ =>
    have g0 : DataW.trod enc Tryz.prog w base spare held n 3 [a] = some y0 := tr_field hf 0 _ rfl rfl rfl c1 rfl
    have g1 : DataW.trod enc Tryz.prog w base spare held n 3 [b] = some y1 := tr_field hf 1 _ rfl rfl rfl c1 rfl
    have g2 : DataW.trod enc Tryz.prog w base spare held n 9 [c] = some y2 := tr_field hf 2 _ rfl rfl rfl c2 rfl
    have g3 : DataW.trod enc Tryz.prog w base spare held n 23 [d, e] = some y3 := tr_field hf 3 _ rfl rfl rfl c3 rfl
    obtain ⟨k, e0, _, w0⟩ := DataW.trod_int Tryz.underlying3 g0
    obtain ⟨m, e1, _, w1⟩ := DataW.trod_int Tryz.underlying3 g1
    obtain ⟨s, e2, _, w2⟩ := DataW.trod_string Tryz.underlying9 g2
    obtain ⟨xs', n', rfl, _, _, hxl', hf'⟩ := DataW.trod_struct Tryz.underlying23 g3
    match xs', hxl' with
    | [z0, z1], _ =>
      have q0 : DataW.trod enc Tryz.prog w base spare held n' 3 [d] = some z0 := tr_field hf' 0 _ rfl rfl rfl c1 rfl
      have q1 : DataW.trod enc Tryz.prog w base spare held n' 3 [e] = some z1 := tr_field hf' 1 _ rfl rfl rfl c1 rfl
      obtain ⟨o, e3, _, w3⟩ := DataW.trod_int Tryz.underlying3 q0
      obtain ⟨p, e4, _, w4⟩ := DataW.trod_int Tryz.underlying3 q1
      simp only [List.cons.injEq, and_true] at e0 e1 e2 e3 e4
      subst e0 e1 e2 e3 e4
      exact ⟨⟨k, m, s, o, p⟩, rfl, i64_of_wf w0, i64_of_wf w1, w2, i64_of_wf w3, i64_of_wf w4⟩

theorem trod_strs {fuel : Nat} {cs : List Value} {x : DataW H × List MemPlace} (h : DataW.trod enc Tryz.prog w base spare held fuel 26 cs = some x) :
    ∃ (A : Option Addr) (c : Nat) (l : List ByteArray), cs = [.slice A l.length c] ∧ SlAt w A (l.map Value.string) ∧ (∀ s ∈ l, s.size ≤ maxLen) ∧ l.length ≤ maxLen := by
  rcases Go.Deep.open_strs Tryz.underlying26 Tryz.underlying9 (by kernel_rfl) h with ⟨rfl, _⟩ | ⟨a, len, cap, m, Sx, rfl, _, hl, hm, hmm, _, hx⟩
  · exact ⟨none, 0, [], rfl, .inl rfl, by simp, by simp⟩
  · have hlm : len ≤ m := by rw [hmm]; split <;> omega
    have hlen : ((List.range len).map Sx).length = len := by simp
    refine ⟨some a, cap, (List.range len).map Sx, by rw [hlen], ?_, ?_, by rw [hlen]; omega⟩
    · by_cases h0 : len = 0
      · subst h0; exact .inl rfl
      · obtain ⟨c0, _⟩ := hx 0 (by omega)
        have ha := addr_none c0
        refine .inr ⟨a.block, a.off, by rw [← ha], fun j u hu => ?_⟩
        have hj : j < len := by
          have := (List.getElem?_eq_some_iff.1 hu).1
          simpa using this
        obtain ⟨g0, _⟩ := hx j (by omega)
        rw [add_eq ha] at g0
        rw [g0]
        simp [hj] at hu
        rw [hu]
    · intro s hs
      obtain ⟨i, hi, rfl⟩ := List.mem_map.1 hs
      exact (hx i (by have := List.mem_range.1 hi; omega)).2

theorem cellsL_get {l : List PT} {j : Nat} {u : Value} (hu : (PT.cellsL l)[j]? = some u) : ∃ k, l[j / 7]? = some k ∧ k.cells[j % 7]? = some u := by
  have hlt := (List.getElem?_eq_some_iff.1 hu).1
  rw [PT.cellsL_length] at hlt
  have hk : l[j / 7]? = some l[j / 7] := List.getElem?_eq_getElem (by omega)
  refine ⟨_, hk, ?_⟩
  rw [← PT.cellsL_at l (j / 7) _ hk (j % 7) (by omega), show j / 7 * 7 + j % 7 = j from by omega]
  exact hu

set_option maxRecDepth 100000 in
theorem trod_tree : ∀ (fuel : Nat) (cs : List Value) (x : DataW H × List MemPlace), DataW.trod enc Tryz.prog w base spare held fuel 29 cs = some x → ∃ T : PT, cs = T.cells ∧ InJ w T := by
  have c1 : Tryz.prog.cellsOf 25 = 5 := by kernel_rfl
  have c2 : Tryz.prog.cellsOf 26 = 1 := by kernel_rfl
  have c3 : Tryz.prog.cellsOf 27 = 1 := by kernel_rfl
  have c4 : Tryz.prog.cellsOf 29 = 7 := by kernel_rfl
  intro fuel
  induction fuel using Nat.strongRecOn with
  | _ fuel ih =>
    intro cs x h
    obtain ⟨xs, n, rfl, _, hl, hxl, hf⟩ := DataW.trod_struct Tryz.underlying29 h
    rw [c4] at hl
    match cs, hl, xs, hxl with
    | [a, b, c, d, e, f, g], _, [y0, y1, y2], _ =>
      have g0 : DataW.trod enc Tryz.prog w base spare held n 25 [a, b, c, d, e] = some y0 := tr_field hf 0 _ rfl rfl rfl c1 rfl
      have g1 : DataW.trod enc Tryz.prog w base spare held n 26 [f] = some y1 := tr_field hf 1 _ rfl rfl rfl c2 rfl
      have g2 : DataW.trod enc Tryz.prog w base spare held n 27 [g] = some y2 := tr_field hf 2 _ rfl rfl rfl c3 rfl
      obtain ⟨v, ev, hv⟩ := trod_value g0
      obtain ⟨kA, kc, keys, ek, hkA, hks, hkl⟩ := trod_strs g1
      simp only [List.cons.injEq, and_true] at ek
      subst ek
      have hcells : ∀ cA cc (kids : List PT), g = .slice cA kids.length cc → [a, b, c, d, e, Value.slice kA keys.length kc, g] = (PT.node v kA kc keys cA cc kids).cells := by
        intro cA cc kids hg
        subst hg
        show _ = v.cells ++ _
        rw [← ev]
        rfl
      rcases DataW.trod_slice Tryz.underlying27 g2 with ⟨e2, _⟩ | ⟨ad, len, cap, elems, rest, n', rfl, e2, _, _, hlc, hcm, hel, hx, _, _⟩
      · simp only [List.cons.injEq, and_true] at e2
        exact ⟨_, hcells none 0 [] e2, ⟨⟨hv, hkA, .inl rfl, hkl, by simp [PT.kids], hks⟩, trivial⟩⟩
      · simp only [List.cons.injEq, and_true] at e2
        have each : ∀ i, i < len → ∃ T : PT, w.cells? base (ad.add (i * 7)) 7 = some T.cells ∧ InJ w T := by
          intro i hi
          have := hx i hi
          rw [c4, List.getElem?_eq_getElem (by omega), Option.bind_eq_some_iff] at this
          obtain ⟨cs', h1, h2⟩ := this
          obtain ⟨T, rfl, hT⟩ := ih n' (by omega) cs' _ h2
          exact ⟨T, h1, hT⟩
        have : Inhabited PT := ⟨.node ⟨0, 0, ⟨#[]⟩, 0, 0⟩ none 0 [] none 0 []⟩
        obtain ⟨q, hq⟩ := Go.Deep.choose_lt each
        have hlen : ((List.range len).map q).length = len := by simp
        have hkid : ∀ i k, ((List.range len).map q)[i]? = some k → i < len ∧ k = q i := by
          intro i k hk
          have hi := (List.getElem?_eq_some_iff.1 hk).1
          rw [hlen] at hi
          refine ⟨hi, ?_⟩
          simp [hi] at hk
          exact hk.symm
        refine ⟨.node v kA kc keys (some ad) cap ((List.range len).map q), hcells (some ad) cap _ (by rw [hlen]; exact e2), ⟨⟨hv, hkA, ?_, hkl, by simp only [PT.kids]; rw [hlen]; omega, hks⟩, (InJL_iff _ _).2 ?_⟩⟩
        · by_cases h0 : len = 0
          · subst h0; exact .inl rfl
          · obtain ⟨hc0, _⟩ := hq 0 (by omega)
            obtain ⟨_, _, hc0⟩ := World.cells?_some hc0
            have hc00 := hc0 0 (by omega)
            simp only [Nat.zero_mul] at hc00
            have ha0 : ∀ (a : Addr), a.add 0 = a := by intro a; obtain ⟨b, o, s⟩ := a; rfl
            rw [ha0] at hc00
            have ha : ad = ⟨ad.block, ad.off, none⟩ := addr_none (u := (q 0).cells[0]'(by rw [PT.cells_length]; omega)) (by rw [hc00]; simp)
            refine .inr ⟨ad.block, ad.off, by rw [← ha]; rfl, fun j u hu => ?_⟩
            obtain ⟨k, hk, hku⟩ := cellsL_get hu
            obtain ⟨hi, rfl⟩ := hkid _ _ hk
            obtain ⟨hc1, _⟩ := hq (j / 7) hi
            obtain ⟨_, _, hc1⟩ := World.cells?_some hc1
            have hc2 := hc1 (j % 7) (by omega)
            rw [hku, add_eq ha, add_eq (a := ⟨ad.block, ad.off + j / 7 * 7, none⟩) rfl] at hc2
            simp only at hc2
            rw [show ad.off + j = ad.off + j / 7 * 7 + j % 7 from by omega]
            exact hc2
        · intro k hk
          obtain ⟨i, hi, rfl⟩ := List.mem_map.1 hk
          exact (hq i (by simpa using hi)).2
end

/-- A tree that came in. -/
def IsTree (W : World) (v : Value) (T : PT) : Prop := v = T.value ∧ InJ W T
end Go.Proofs.YtpeckpiidgkgoaaGreatDoor
