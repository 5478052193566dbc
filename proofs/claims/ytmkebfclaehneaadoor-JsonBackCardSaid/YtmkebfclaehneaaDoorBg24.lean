/- TextLen, Write. -/
import Derived.Test.YtmkebfclaehneaaDoorBg8
import Derived.Test.YtmkebfclaehneaaDoorBg23
import Derived.Test.YtmkebfclaehneaaDoorBg15
import Derived.Test.YtmkebfclaehneaaDoorBg12
import Derived.Test.YtmkebfclaehneaaDoorBg17
/- How long a formed tree's text is: plain. -/
namespace Go.Proofs.YtmkebfclaehneaaDoor
set_option linter.unusedVariables false
set_option linter.unusedSimpArgs false

theorem itoa_len (n : Int) (h : I64 n) : (Go.Lib.itoa n).length ≤ 21 := by
  obtain ⟨h0, h1⟩ := h
  unfold Go.Lib.itoa
  split
  · have := dd_len 19 n.natAbs (by omega)
    simp only [List.length_cons]
    omega
  · have := dd_len 19 n.toNat (by omega)
    omega
theorem ok_text {v : JV} (h : v.ok = true) (hk : v.k = 3) : v.s.size ≤ 60 := by
  unfold JV.ok at h
  rw [hk] at h
  simp at h
  omega
theorem ok_kind {v : JV} (h : v.ok = true) : 0 ≤ v.k ∧ v.k ≤ 6 := by
  unfold JV.ok at h
  split at h
  · omega
  · split at h
    · omega
    · split at h
      · omega
      · split at h
        · omega
        · split at h
          · omega
          · split at h
            · omega
            · split at h
              · omega
              · cases h
theorem showL_len (v : JV) (hn : I64 v.n) (hs : v.k = 3 → v.s.size ≤ 60) : (showL v).length ≤ 182 := by
  unfold showL
  split
  · split <;> simp
  · split
    · have := itoa_len v.n hn; omega
    · split
      · rename_i h3
        have h1 := quoteL_len v.s.data.toList
        have h2 : v.s.data.toList.length = v.s.size := rfl
        have h4 := hs h3
        omega
      · simp
mutual
/-- Numbers that fit. -/
def JT.Num : JT → Prop
  | .node v _ kids => I64 v.n ∧ JT.NumL kids
def JT.NumL : List JT → Prop
  | [] => True
  | k :: l => k.Num ∧ JT.NumL l
end
theorem JT.NumL_iff (l : List JT) : JT.NumL l ↔ ∀ k ∈ l, k.Num := by
  induction l with
  | nil => simp [JT.NumL]
  | cons x l ih => simp [JT.NumL, ih]
theorem keyOk_len {s : ByteArray} (h : keyOk s = true) : s.size ≤ 20 := by
  unfold keyOk at h
  simp at h
  omega
theorem keysFrom_len : ∀ (l : List ByteArray) (o : Option ByteArray), keysFrom o l = true → ∀ s ∈ l, s.size ≤ 20 := by
  intro l
  induction l with
  | nil => intro o _ s hs; simp at hs
  | cons x l ih =>
    intro o h s hs
    simp only [keysFrom, Bool.and_eq_true] at h
    rcases List.mem_cons.1 hs with rfl | hs
    · exact keyOk_len h.1.1
    · exact ih _ h.2 s hs
theorem top_keys {t : JT} (h : t.top = true) : (t.val.k = 5 → t.keys.length = t.kids.length ∧ ∀ s ∈ t.keys, s.size ≤ 20) ∧ (t.val.k ≠ 5 → t.keys = []) ∧ t.val.head = true := by
  unfold JT.top at h
  rw [Bool.and_eq_true] at h
  refine ⟨?_, ?_, h.1⟩
  · intro hk
    have h2 := h.2
    rw [if_pos hk] at h2
    simp only [Bool.and_eq_true, beq_iff_eq] at h2
    exact ⟨h2.1, keysFrom_len _ _ h2.2⟩
  · intro hk
    have h2 := h.2
    rw [if_neg hk] at h2
    split at h2
    · exact List.eq_nil_of_length_eq_zero (by simpa using h2)
    · simp only [Bool.and_eq_true, beq_iff_eq] at h2
      exact List.eq_nil_of_length_eq_zero h2.1
theorem quote_key_len {s : ByteArray} (h : s.size ≤ 20) : (quoteL s.data.toList).length ≤ 62 := by
  have h1 := quoteL_len s.data.toList
  have h2 : s.data.toList.length = s.size := rfl
  omega
theorem textL_len (m : Bool) : ∀ (l : List JT) (f : Bool) (ks : List ByteArray), (∀ k ∈ l, k.text.length + 64 ≤ 250 * k.size) → (m = true → ∀ s ∈ ks, s.size ≤ 20) → (JT.textL m f ks l).length ≤ 250 * JT.sizeL l := by
  intro l
  induction l with
  | nil => intro f ks _ _; simp [JT.textL]
  | cons k l ih =>
    intro f ks hk hks
    have h1 := hk k (by simp)
    have h2 := ih false ks.tail (fun x hx => hk x (by simp [hx])) (fun hm s hs => hks hm s (List.mem_of_mem_tail hs))
    rw [JT.textL]
    simp only [List.length_append, JT.sizeL]
    have h3 : (if f = true then ([] : List UInt8) else [44]).length ≤ 1 := by split <;> simp
    have h4 : (if m = true then quoteL (ks.headD ⟨#[]⟩).data.toList ++ [58] else []).length ≤ 63 := by
      split
      · rename_i hm
        have : (ks.headD ⟨#[]⟩).size ≤ 20 := by
          cases ks with
          | nil => decide
          | cons s ks => exact hks hm s (by simp)
        have := quote_key_len this
        simp only [List.length_append, List.length_singleton]
        omega
      · simp
    omega
theorem JT.text_len : ∀ (t : JT), t.formed = true → t.Num → t.text.length + 64 ≤ 250 * t.size := by
  intro t
  refine JT.ind (P := fun t => t.formed = true → t.Num → t.text.length + 64 ≤ 250 * t.size) ?_ t
  intro v keys kids ih hf hn
  obtain ⟨htop, hkids⟩ := (JT.formed_iff _).1 hf
  have hn1 : I64 v.n := by simp only [JT.Num] at hn; exact hn.1
  have hn2 := (JT.NumL_iff kids).1 (by simp only [JT.Num] at hn; exact hn.2)
  have hall : ∀ k ∈ kids, k.text.length + 64 ≤ 250 * k.size := fun k hk => ih k hk (hkids k hk) (hn2 k hk)
  obtain ⟨h5, hn5, hhd⟩ := top_keys htop
  simp only [JT.val, JT.keys, JT.kids] at h5 hn5 hhd
  have hsz : (JT.node v keys kids).size = 1 + JT.sizeL kids := by rw [JT.size]
  rw [hsz, JT.text]
  split
  · rename_i hk
    have := textL_len true kids true keys hall (fun _ => (h5 hk).2)
    simp only [List.length_cons, List.length_append, List.length_nil]
    omega
  · split
    · have := textL_len false kids true keys hall (by simp)
      simp only [List.length_cons, List.length_append, List.length_nil]
      omega
    · have := showL_len v hn1 (fun hk => ok_text (head_parts hhd).1 hk)
      omega
/-- A beginning of the kids' texts. -/
theorem textL_take (m : Bool) (f : Bool) (ks : List ByteArray) (l : List JT) (i : Nat) : (JT.textL m f ks (l.take i)).length ≤ (JT.textL m f ks l).length := by
  revert i f ks
  induction l with
  | nil => intro f ks i; simp
  | cons x l ih =>
    intro f ks i
    cases i with
    | zero => simp [JT.textL]
    | succ i =>
      rw [List.take_succ_cons, JT.textL, JT.textL]
      have := ih false ks.tail i
      simp only [List.length_append]
      omega
theorem textL_succ (m : Bool) (ks : List ByteArray) (l : List JT) (i : Nat) (k : JT) (h : l[i]? = some k) : JT.textL m true ks (l.take (i + 1)) = JT.textL m true ks (l.take i) ++ ((if i = 0 then [] else [44]) ++ ((if m then quoteL ((ks.drop i).headD ⟨#[]⟩).data.toList ++ [58] else []) ++ k.text)) := by
  have hi := (List.getElem?_eq_some_iff.1 h).1
  have hk : l[i] = k := (List.getElem?_eq_some_iff.1 h).2
  rw [List.take_succ_eq_append_getElem hi, hk, JT.textL_snoc]
  have h1 : (l.take i).length = i := by simp; omega
  have h2 : (true = true ∧ l.take i = []) ↔ i = 0 := by
    constructor
    · intro e
      have := congrArg List.length e.2
      rw [h1] at this
      simpa using this
    · intro e; subst e; simp
  rw [h1]
  congr 2
  by_cases h0 : i = 0
  · rw [if_pos (h2.2 h0), if_pos h0]
  · rw [if_neg (fun e => h0 (h2.1 e)), if_neg h0]
theorem InJ.num {w : World} {T : PT} (h : InJ w T) : T.tree.Num := by
  revert h
  refine PT.ind (P := fun T => InJ w T → T.tree.Num) ?_ T
  intro v kA kc keys cA cc kids ih h
  rw [PT.tree, PT.treeL_eq, JT.Num]
  refine ⟨h.slot.fit.n, (JT.NumL_iff _).2 fun k hk => ?_⟩
  obtain ⟨x, hx, rfl⟩ := List.mem_map.1 hk
  exact ih x hx (h.kids x hx)
theorem bytes_append (a b : List UInt8) : (⟨a.toArray⟩ : ByteArray) ++ (⟨b.toArray⟩ : ByteArray) = ⟨(a ++ b).toArray⟩ := by
  apply ByteArray.ext
  simp [ByteArray.data_append]
theorem sadd {P : Program} (a b : List UInt8) (h : a.length + b.length ≤ 9223372036854775807) (A B C : ByteArray) (hA : A = ⟨a.toArray⟩) (hB : B = ⟨b.toArray⟩) (hC : C = ⟨(a ++ b).toArray⟩) : ∀ w, (Op.stringOp .add A B).run P w = .ok (.string C) w := by
  intro w
  subst hA hB hC
  rw [← bytes_append]
  exact run_string_add_sum w _ _ h
end Go.Proofs.YtmkebfclaehneaaDoor
/- json.write, json.Print: contracts. -/
namespace Go.Proofs.YtmkebfclaehneaaDoor
open Go.RowKit
set_option linter.unusedVariables false
set_option linter.unusedSimpArgs false

/-- What write does: it lays these bytes behind those that were, and turns nothing outside S. -/
def WrQ (S : Nat → Prop) (b : Nat) (w : World) (l : List UInt8) (e : Ending) (w' : World) : Prop := e = .returned (.tuple #[]) ∧ Bu S b l w' ∧ Only S w w'
/-- What it wants. -/
structure WrI (S : Nat → Prop) (b : Nat) (W0 w : World) (acc : List UInt8) : Prop where
  bel : Below W0.heap.size W0 w
  bu : Bu S b acc w
  pow : Pow10 W0
  low : ∀ k, k < W0.heap.size → ¬ S k
  high : ∀ k, w.heap.size ≤ k → S k
theorem WrI.next {S : Nat → Prop} {b : Nat} {W0 w w' : World} {acc acc' : List UInt8} (h : WrI S b W0 w acc) (hb : Bu S b acc' w') (ho : Only S w w') : WrI S b W0 w' acc' :=
  ⟨h.bel.trans (ho.below h.bel.size h.low), hb, h.pow, h.low, fun k hk => h.high k (Nat.le_trans ho.size hk)⟩
theorem WrI.below {S : Nat → Prop} {b : Nat} {W0 w w' : World} {acc : List UInt8} (h : WrI S b W0 w acc) (hb : Below w.heap.size w w') : WrI S b W0 w' acc := h.next (h.bu.below hb) (Only.of_below hb)
theorem WrI.less {S : Nat → Prop} {b : Nat} {W0 w w' : World} {acc : List UInt8} (h : WrI S b W0 w acc) (hb : Below w.heap.size w w') (g : Nat) (hg : w.heap.size ≤ g) (hg2 : g < w'.heap.size) : WrI (fun k => S k ∧ k ≠ g) b W0 w' acc := by
  have h1 := h.below hb
  have h2 : Bu (fun k => S k ∧ k ≠ g) b acc w := h.bu.mono (fun k hk hs => ⟨hs, by omega⟩)
  exact ⟨h1.bel, h2.below hb, h.pow, fun k hk hs => h.low k hk hs.1, fun k hk => ⟨h1.high k hk, by omega⟩⟩
theorem only_wider {S : Nat → Prop} {g : Nat} {w w' : World} (h : Only (fun k => S k ∧ k ≠ g) w w') : Only S w w' := h.mono (fun k _ hs => hs.1)
theorem bu_wider {S : Nat → Prop} {b g : Nat} {acc : List UInt8} {w : World} (h : Bu (fun k => S k ∧ k ≠ g) b acc w) : Bu S b acc w := h.mono (fun k _ hs => hs.1)
/-- The bytes that WriteByte lays. -/
theorem wr_byte {S : Nat → Prop} {b : Nat} {W0 w : World} {acc : List UInt8} (h : WrI S b W0 w acc) (x : UInt8) (hl : acc.length ≤ 10000000) : Calls Tryd.prog 30 #[.pointer (some ⟨b, 0, none⟩), .int .u8 x.toNat] w fun e w' => e = .returned .nilIface ∧ WrI S b W0 w' (acc ++ [x]) ∧ Only S w w' :=
  (bu_byte S b acc x w h.bu h.high (by omega)).mono (by rintro e w' ⟨rfl, hb, ho⟩; exact ⟨rfl, h.next hb ho, ho⟩)
theorem wr_str {S : Nat → Prop} {b : Nat} {W0 w : World} {acc : List UInt8} (h : WrI S b W0 w acc) (l : List UInt8) (s : ByteArray) (hs : s = ⟨l.toArray⟩) (hl : acc.length + l.length ≤ 10000000) : Calls Tryd.prog 29 #[.pointer (some ⟨b, 0, none⟩), .string s] w fun e w' => (∃ v, e = .returned v) ∧ WrI S b W0 w' (acc ++ l) ∧ Only S w w' := by
  have hz : s.size = l.length := by rw [hs]; rfl
  have hd : s.data.toList = l := by rw [hs]
  refine (bu_str S b acc s w h.bu h.high (by omega)).mono ?_
  rintro e w' ⟨rfl, hb, ho⟩
  rw [hd] at hb
  exact ⟨⟨_, rfl⟩, h.next hb ho, ho⟩

/-- In a round: what stands in the two boxes, what the builder holds. -/
structure WrR (S : Nat → Prop) (b : Nat) (W0 wr W : World) (g0 c6 : Nat) (cs xs : Array Value) (L : List UInt8) : Prop where
  wi : WrI (fun k => (S k ∧ k ≠ g0) ∧ k ≠ c6) b W0 W L
  on : Only (fun k => S k ∧ k ≠ g0) wr W
  bx : Blk W c6 29 xs
  b0 : Blk W g0 29 cs
theorem WrR.next {S : Nat → Prop} {b : Nat} {W0 wr W W' : World} {g0 c6 : Nat} {cs xs : Array Value} {L L' : List UInt8} (h : WrR S b W0 wr W g0 c6 cs xs L) (hw : WrI (fun k => (S k ∧ k ≠ g0) ∧ k ≠ c6) b W0 W' L') (ho : Only (fun k => (S k ∧ k ≠ g0) ∧ k ≠ c6) W W') : WrR S b W0 wr W' g0 c6 cs xs L' :=
  ⟨hw, h.on.trans (only_wider ho), h.bx.only ho (by simp), h.b0.only ho (by simp)⟩
theorem WrR.below {S : Nat → Prop} {b : Nat} {W0 wr W W' : World} {g0 c6 : Nat} {cs xs : Array Value} {L : List UInt8} (h : WrR S b W0 wr W g0 c6 cs xs L) (hb : Below W.heap.size W W') : WrR S b W0 wr W' g0 c6 cs xs L := h.next (h.wi.below hb) (Only.of_below hb)
theorem WrR.comma {S : Nat → Prop} {b : Nat} {W0 wr W : World} {g0 c6 : Nat} {cs xs : Array Value} {L : List UInt8} (h : WrR S b W0 wr W g0 c6 cs xs L) (hl : L.length ≤ 1000000) : Calls Tryd.prog 30 #[.pointer (some ⟨b, 0, none⟩), .int .u8 44] W fun e w' => e = .returned .nilIface ∧ WrR S b W0 wr w' g0 c6 cs xs (L ++ [44]) := by
  refine Calls.mono (show Calls Tryd.prog 30 #[.pointer (some ⟨b, 0, none⟩), .int .u8 44] W _ from wr_byte h.wi 44 (by omega)) ?_
  rintro e w' ⟨rfl, hw, ho⟩
  exact ⟨rfl, h.next hw ho⟩
theorem WrR.str {S : Nat → Prop} {b : Nat} {W0 wr W : World} {g0 c6 : Nat} {cs xs : Array Value} {L : List UInt8} (h : WrR S b W0 wr W g0 c6 cs xs L) (l : List UInt8) (s : ByteArray) (hs : s = ⟨l.toArray⟩) (hl : L.length + l.length ≤ 1000000) : Calls Tryd.prog 29 #[.pointer (some ⟨b, 0, none⟩), .string s] W fun e w' => (∃ v, e = .returned v) ∧ WrR S b W0 wr w' g0 c6 cs xs (L ++ l) := by
  refine (wr_str h.wi l s hs (by omega)).mono ?_
  rintro e w' ⟨he, hw, ho⟩
  exact ⟨he, h.next hw ho⟩

set_option maxRecDepth 100000 in
set_option maxHeartbeats 2000000 in
theorem write_plain (v : JV) (kA : Option Addr) (kc : Nat) (keys : List ByteArray) (cA : Option Addr) (cc : Nat) (kids : List PT) (S : Nat → Prop) (b : Nat) (acc : List UInt8) (W0 w : World) (hw : WrI S b W0 w acc) (hl : acc.length ≤ 1000000) (hk0 : 0 ≤ v.k) (hk3 : v.k ≤ 4) (hn : I64 v.n) (hs : v.k = 3 → v.s.size ≤ 60) :
    Calls Tryd.prog 13 #[.pointer (some ⟨b, 0, none⟩), (PT.node v kA kc keys cA cc kids).value] w (WrQ S b w (acc ++ (PT.node v kA kc keys cA cc kids).tree.text)) := by
  have htx : (PT.node v kA kc keys cA cc kids).tree.text = showL v := by rw [PT.tree, JT.text, if_neg (by omega), if_neg (by omega)]
  rw [htx]
  have hsl := showL_len v hn hs
  obtain ⟨k, n, s, o, p⟩ := v
  simp only at hk0 hk3 hn hs
  have hb : Below w.heap.size w (w.alloc (.cells #[.int .i64 k, .int .i64 n, .string s, .int .i64 o, .int .i64 p, .slice kA keys.length kc, .slice cA kids.length cc] 29)) := (Below.refl _ _).alloc (Nat.le_refl _) _
  have hw1 := hw.below hb
  have hsh := show_any ⟨k, n, s, o, p⟩ hk0 hk3 hn hs (w.alloc (.cells #[.int .i64 k, .int .i64 n, .string s, .int .i64 o, .int .i64 p, .slice kA keys.length kc, .slice cA kids.length cc] 29)) (hw.pow.below hw1.bel)
  obtain ⟨l, hll⟩ : ∃ l, l = showL ⟨k, n, s, o, p⟩ := ⟨_, rfl⟩
  obtain ⟨L, hL⟩ : ∃ L : ByteArray, L = ⟨l.toArray⟩ := ⟨_, rfl⟩
  rw [← hll, ← hL] at hsh
  rw [← hll] at hsl ⊢
  have HB := Lib.hid (And.intro hw (And.intro hw1 (And.intro hb hL)))
  have HS := Lib.hid (show Calls Tryd.prog 20 #[.agg #[.int .i64 k, .int .i64 n, .string s, .int .i64 o, .int .i64 p]] _ _ from hsh)
  clear hb hsh htx hw hw1 hll hL
  unfold PT.value PT.cells JV.cells
  simp only [PT.val, PT.keys, PT.kids, PT.kA, PT.kc, PT.cA, PT.cc]
  have g5 : (k == 5) = false := by simp; omega
  have g6 : (k == 6) = false := by simp; omega
  go_enter Tryd.func13, Tryd.ntmps13
  go_wp2_with (go_at_call 20; refine HS.out.mono ?_; rintro e w2 ⟨rfl, hb2⟩; have H2 := Lib.hid (And.intro (HB.out.2.1.below hb2) hb2); clear hb2)
  refine (wr_str H2.out.1 l L HB.out.2.2.2 (by omega)).mono ?_
  rintro e w3 ⟨⟨u, rfl⟩, h3, ho3⟩
  have H3 := Lib.hid (And.intro h3 ho3)
  clear h3 ho3
  go_wp2_with fail
  go_end0
  exact ⟨rfl, H3.out.1.bu, (Only.of_below HB.out.2.2.1).trans ((Only.of_below H2.out.2).trans H3.out.2)⟩

set_option maxRecDepth 100000 in
set_option maxHeartbeats 4000000 in
theorem write_5 (v : JV) (kA : Option Addr) (kc : Nat) (keys : List ByteArray) (cA : Option Addr) (cc : Nat) (kids : List PT) (S : Nat → Prop) (b : Nat) (acc : List UInt8) (W0 w : World) (hT : InJ W0 (.node v kA kc keys cA cc kids)) (hw : WrI S b W0 w acc) (hf : (PT.node v kA kc keys cA cc kids).tree.formed = true) (hz : acc.length + 250 * (PT.node v kA kc keys cA cc kids).tree.size ≤ 200000) (hk : v.k = 5)
    (ih : ∀ k ∈ kids, ∀ (S : Nat → Prop) (b : Nat) (acc : List UInt8) (w1 : World), WrI S b W0 w1 acc → acc.length + 250 * k.tree.size ≤ 200000 → Calls Tryd.prog 13 #[.pointer (some ⟨b, 0, none⟩), k.value] w1 (WrQ S b w1 (acc ++ k.tree.text))) :
    Calls Tryd.prog 13 #[.pointer (some ⟨b, 0, none⟩), (PT.node v kA kc keys cA cc kids).value] w (WrQ S b w (acc ++ (PT.node v kA kc keys cA cc kids).tree.text)) := by
  have hsl := hT.slot
  have hnum := hT.num
  rw [PT.tree, PT.treeL_eq] at hf hz hnum ⊢
  obtain ⟨htop, hkf⟩ := (JT.formed_iff _).1 hf
  obtain ⟨h5, hn5, hhd⟩ := top_keys htop
  simp only [JT.val, JT.keys, JT.kids] at h5 hn5 hhd hkf
  simp only [JT.Num] at hnum
  have hall : ∀ t ∈ kids.map PT.tree, t.text.length + 64 ≤ 250 * t.size := fun t ht => JT.text_len t (hkf t ht) ((JT.NumL_iff _).1 hnum.2 t ht)
  rw [JT.size] at hz
  have HKL := Lib.hid (show keys.length = kids.length from by have := (h5 hk).1; simpa using this)
  have hkz : ∀ s ∈ keys, s.size ≤ 20 := (h5 hk).2
  have hlen : ∀ i, (JT.textL true true keys ((kids.map PT.tree).take i)).length ≤ 250 * JT.sizeL ((kids.map PT.tree).take i) := fun i =>
    textL_len true _ true keys (fun t ht => hall t (List.mem_of_mem_take ht)) (fun _ => (h5 hk).2)
  have hcl : kids.length ≤ 1000 := by
    have := JT.length_le_sizeL (kids.map PT.tree)
    simp at this
    omega
  have htx : (JT.node v keys (kids.map PT.tree)).text = 123 :: (JT.textL true true keys (kids.map PT.tree) ++ [125]) := by
    rw [JT.text, if_pos hk]
  rw [htx]
  have HI := Lib.hid (fun (i : Nat) (k : PT) (h1 : kids[i]? = some k) => ih k (List.mem_of_getElem? h1))
  have HS := Lib.hid (And.intro hsl (And.intro hw (And.intro hlen hz)))
  obtain ⟨kd, n, s, o, p⟩ := v
  simp only at hk
  subst hk
  unfold PT.value PT.cells JV.cells
  simp only [PT.val, PT.keys, PT.kids, PT.kA, PT.kc, PT.cA, PT.cc]
  have hb : Below w.heap.size w (w.alloc (.cells #[.int .i64 5, .int .i64 n, .string s, .int .i64 o, .int .i64 p, .slice kA keys.length kc, .slice cA kids.length cc] 29)) := (Below.refl _ _).alloc (Nat.le_refl _) _
  have hbx : Blk (w.alloc (.cells #[.int .i64 5, .int .i64 n, .string s, .int .i64 o, .int .i64 p, .slice kA keys.length kc, .slice cA kids.length cc] 29)) w.heap.size 29 #[.int .i64 5, .int .i64 n, .string s, .int .i64 o, .int .i64 p, .slice kA keys.length kc, .slice cA kids.length cc] := Blk.new w _ _
  have hwl := hw.less hb w.heap.size (Nat.le_refl _) (by simp)
  have HC1 := Lib.hid (show Calls Tryd.prog 30 #[.pointer (some ⟨b, 0, none⟩), .int .u8 123] _ (fun e w' => e = .returned .nilIface ∧ WrI (fun k => S k ∧ k ≠ w.heap.size) b W0 w' (acc ++ [123]) ∧ Only (fun k => S k ∧ k ≠ w.heap.size) _ w') from wr_byte hwl 123 (by omega))
  have HBX := Lib.hid (And.intro hb hbx)
  clear ih hsl hb hbx hwl hT hlen htx hall hnum hkf hf htop hhd h5 hn5 hz hw
  go_enter Tryd.func13, Tryd.ntmps13
  go_wp2_with (go_at_call 30; refine HC1.out.mono ?_)
  first | (rintro e w1 rfl hw1 ho1) | (rintro e w1 ⟨rfl, hw1, ho1⟩)
  have hbx1 := HBX.out.2.only ho1 (by simp)
  have a6 : w1.cell? ⟨w.heap.size, 6, none⟩ = some (.slice cA kids.length cc) := hbx1.cell 6
  have H1 := Lib.hid (And.intro hw1 (And.intro (Only.trans (Only.of_below HBX.out.1) (only_wider ho1)) hbx1))
  clear hw1 ho1 hbx1 HC1
  go_wp2_with fail
  go_loopw [26] (fun iv wr => ∃ (k : Nat), iv = .int .i64 k ∧ k ≤ kids.length ∧ WrI (fun k => S k ∧ k ≠ w.heap.size) b W0 wr ((acc ++ [123]) ++ JT.textL true true keys ((kids.map PT.tree).take k)) ∧ Only (fun k => S k ∧ k ≠ w.heap.size) w1 wr) (fun iv _ => kids.length - (intOf iv).toNat)
  case atStart => exact ⟨0, rfl, by omega, by rw [List.take_zero, JT.textL, List.append_nil]; exact H1.out.1, Only.refl _ _⟩
  case round =>
    obtain ⟨k, rfl, hk, hwi, ho⟩ := hrel
    have hBk := H1.out.2.2.only ho (by simp)
    have a5 : wr.cell? ⟨w.heap.size, 5, none⟩ = some (.slice kA keys.length kc) := hBk.cell 5
    have hW := hwi.bel
    obtain ⟨L, hL⟩ : ∃ L, L = (acc ++ [123]) ++ JT.textL true true keys ((kids.map PT.tree).take k) := ⟨_, rfl⟩
    rw [← hL] at hwi
    have hl0 : L.length ≤ acc.length + 1 + 250 * JT.sizeL ((kids.map PT.tree).take k) := by
      have := HS.out.2.2.1 k
      rw [hL]
      simp only [List.length_append, List.length_singleton]
      omega
    by_cases hlt : k < kids.length
    · have hlti : (k : Int) < (kids.length : Int) := by omega
      obtain ⟨x, hx⟩ : ∃ x, kids[k]? = some x := ⟨_, List.getElem?_eq_getElem hlt⟩
      have htl : (kids.map PT.tree)[k]? = some x.tree := by rw [List.getElem?_map, hx]; rfl
      have hsucc := textL_succ true keys (kids.map PT.tree) k x.tree htl
      have hsz : JT.sizeL ((kids.map PT.tree).take k) + x.tree.size ≤ JT.sizeL (kids.map PT.tree) := by
        rw [← JT.sizeL_take_succ htl]
        exact JT.sizeL_take_le _ _
      have hz := HS.out.2.2.2
      obtain ⟨b1, o1, hA1, p0, p1, p2, p3, p4, p5, p6⟩ := kid_cells (HS.out.1.kids.below hW) hx
      simp only [PT.cA] at hA1
      subst hA1
      have hR : WrR S b W0 wr (wr.alloc (.cells #[.int .i64 x.val.k, .int .i64 x.val.n, .string x.val.s, .int .i64 x.val.o, .int .i64 x.val.p, .slice x.kA x.keys.length x.kc, .slice x.cA x.kids.length x.cc] 29)) w.heap.size wr.heap.size #[.int .i64 5, .int .i64 n, .string s, .int .i64 o, .int .i64 p, .slice kA keys.length kc, .slice (some ⟨b1, o1, none⟩) kids.length cc] #[.int .i64 x.val.k, .int .i64 x.val.n, .string x.val.s, .int .i64 x.val.o, .int .i64 x.val.p, .slice x.kA x.keys.length x.kc, .slice x.cA x.kids.length x.cc] L := by
        have hal : Below wr.heap.size wr (wr.alloc (.cells #[.int .i64 x.val.k, .int .i64 x.val.n, .string x.val.s, .int .i64 x.val.o, .int .i64 x.val.p, .slice x.kA x.keys.length x.kc, .slice x.cA x.kids.length x.cc] 29)) := (Below.refl _ _).alloc (Nat.le_refl _) _
        exact ⟨hwi.less hal wr.heap.size (Nat.le_refl _) (by simp), Only.of_below hal, Blk.new wr _ _, hBk.below hal hBk.lt⟩
      have HR0 := Lib.hid hR
      have HWI := Lib.hid hwi
      have HHI := Lib.hid (HI.out k x hx)
      obtain ⟨y, hy⟩ : ∃ y, keys[k]? = some y := ⟨_, List.getElem?_eq_getElem (by have := HKL.out; omega)⟩
      have hy20 : y.size ≤ 20 := hkz y (List.mem_of_getElem? hy)
      have hyd : (keys.drop k).headD ⟨#[]⟩ = y := by
        rw [List.headD_eq_head?_getD, List.head?_drop, hy]
        rfl
      rw [hyd] at hsucc
      obtain ⟨bk, ok, hkA, hcy⟩ := HS.out.1.keys.at_ (j := k) (u := .string y) (by simp only [PT.keys]; simp [hy])
      simp only [PT.kA] at hkA
      subst hkA
      have hki2 : (k : Int) < (keys.length : Int) := by have := HKL.out; omega
      have hki3 : (0 : Int) < (keys.length : Int) := by have := HKL.out; omega
      obtain ⟨q, hq⟩ : ∃ q, q = quoteL y.data.toList := ⟨_, rfl⟩
      rw [← hq] at hsucc
      have hql : q.length ≤ 62 := by rw [hq]; exact quote_key_len hy20
      obtain ⟨Q, hQ⟩ : ∃ Q : ByteArray, Q = ⟨q.toArray⟩ := ⟨_, rfl⟩
      obtain ⟨Q2, hQ2⟩ : ∃ Q2 : ByteArray, Q2 = ⟨(q ++ [58]).toArray⟩ := ⟨_, rfl⟩
      have adQ := sadd (P := Tryd.prog) q [58] (by simp; omega) Q ⟨#[58]⟩ Q2 hQ rfl hQ2
      have HQ := Lib.hid (fun wq => show Calls Tryd.prog 31 #[.string y] wq (fun e w' => e = .returned (.string Q) ∧ Below wq.heap.size wq w') from by rw [hQ, hq]; exact quote_any y (by omega) wq)
      have HQ2 := Lib.hid hQ2
      have HCY := Lib.hid hcy
      clear hy hyd hq hQ hQ2 hcy
      clear hR hBk hx
      by_cases hk0 : k = 0
      · have hki : ¬ (0 : Int) < (k : Int) := by omega
        simp only [if_pos hk0, if_true, List.nil_append] at hsucc
        clear hk0
        have f5 : (wr.alloc (.cells #[.int .i64 x.val.k, .int .i64 x.val.n, .string x.val.s, .int .i64 x.val.o, .int .i64 x.val.p, .slice x.kA x.keys.length x.kc, .slice x.cA x.kids.length x.cc] 29)).cell? ⟨w.heap.size, 5, none⟩ = some (.slice (some ⟨bk, ok, none⟩) keys.length kc) := HR0.out.b0.cell 5
        have fy : (wr.alloc (.cells #[.int .i64 x.val.k, .int .i64 x.val.n, .string x.val.s, .int .i64 x.val.o, .int .i64 x.val.p, .slice x.kA x.keys.length x.kc, .slice x.cA x.kids.length x.cc] 29)).cell? ⟨bk, ok + k, none⟩ = some (.string y) := cell_below HR0.out.wi.bel HCY.out
        have HCQ := Lib.hid (HQ.out (wr.alloc (.cells #[.int .i64 x.val.k, .int .i64 x.val.n, .string x.val.s, .int .i64 x.val.o, .int .i64 x.val.p, .slice x.kA x.keys.length x.kc, .slice x.cA x.kids.length x.cc] 29)))
        clear a5
        go_wp2_with (go_at_call 31; refine HCQ.out.mono ?_)
        first | (rintro e w4 rfl hb4) | (rintro e w4 ⟨rfl, hb4⟩)
        have HR4 := Lib.hid (HR0.out.below (W' := w4) (by first | exact hb4 | simpa using hb4))
        clear hb4 HCQ f5 fy HQ
        have HC5 := Lib.hid (HR4.out.str (q ++ [58]) Q2 HQ2.out (by simp only [List.length_append, List.length_singleton]; omega))
        go_wp2_with (go_at_call 29; refine HC5.out.mono ?_)
        first | (rintro e w5 u rfl hr5) | (rintro e w5 ⟨⟨u, rfl⟩, hr5⟩)
        have HR5 := Lib.hid hr5
        clear hr5 HC5
        have q0 : w5.cell? ⟨wr.heap.size, 0, none⟩ = some (.int .i64 x.val.k) := HR5.out.bx.cell 0
        have q1 : w5.cell? ⟨wr.heap.size, 1, none⟩ = some (.int .i64 x.val.n) := HR5.out.bx.cell 1
        have q2 : w5.cell? ⟨wr.heap.size, 2, none⟩ = some (.string x.val.s) := HR5.out.bx.cell 2
        have q3 : w5.cell? ⟨wr.heap.size, 3, none⟩ = some (.int .i64 x.val.o) := HR5.out.bx.cell 3
        have q4 : w5.cell? ⟨wr.heap.size, 4, none⟩ = some (.int .i64 x.val.p) := HR5.out.bx.cell 4
        have q5 : w5.cell? ⟨wr.heap.size, 5, none⟩ = some (.slice x.kA x.keys.length x.kc) := HR5.out.bx.cell 5
        have q6 : w5.cell? ⟨wr.heap.size, 6, none⟩ = some (.slice x.cA x.kids.length x.cc) := HR5.out.bx.cell 6
        have HCX := Lib.hid (HHI.out _ b _ _ HR5.out.wi (by first | omega | (simp only [List.length_append, List.length_singleton]; omega)))
        have HN := Lib.hid (show (acc ++ [123]) ++ JT.textL true true keys ((kids.map PT.tree).take (k + 1)) = (L ++ (q ++ [58])) ++ x.tree.text from by rw [hsucc, hL]; try simp [List.append_assoc])
        clear hsucc hL hl0 hwi hsz hz htl
        go_wp2_with (go_at_call 13; refine HCX.out.mono ?_)
        first | (rintro e w6 rfl hb6 ho6) | (rintro e w6 ⟨rfl, hb6, ho6⟩)
        have H6 := Lib.hid (And.intro (HWI.out.next (bu_wider hb6) (HR5.out.on.trans (only_wider ho6))) (ho.trans (HR5.out.on.trans (only_wider ho6))))
        clear hb6 ho6
        go_wp2_with fail
        go_roundw
        case rel => exact ⟨k + 1, by go_num, by omega, by rw [HN.out]; exact H6.out.1, H6.out.2⟩
        case measure => simp [intOf] <;> omega
      · have hki : (0 : Int) < (k : Int) := by omega
        simp only [if_neg hk0, if_true, List.nil_append] at hsucc
        have HC1 := Lib.hid (HR0.out.comma (by omega))
        go_wp2_with (go_at_call 30; refine HC1.out.mono ?_)
        first | (rintro e w3 rfl hr3) | (rintro e w3 ⟨rfl, hr3⟩)
        have HR3 := Lib.hid hr3
        clear hr3 HC1
        have f5 : w3.cell? ⟨w.heap.size, 5, none⟩ = some (.slice (some ⟨bk, ok, none⟩) keys.length kc) := HR3.out.b0.cell 5
        have fy : w3.cell? ⟨bk, ok + k, none⟩ = some (.string y) := cell_below HR3.out.wi.bel HCY.out
        have HCQ := Lib.hid (HQ.out w3)
        clear a5
        go_wp2_with (go_at_call 31; refine HCQ.out.mono ?_)
        first | (rintro e w4 rfl hb4) | (rintro e w4 ⟨rfl, hb4⟩)
        have HR4 := Lib.hid (HR3.out.below (W' := w4) (by first | exact hb4 | simpa using hb4))
        clear hb4 HCQ f5 fy HQ
        have HC5 := Lib.hid (HR4.out.str (q ++ [58]) Q2 HQ2.out (by simp only [List.length_append, List.length_singleton]; omega))
        go_wp2_with (go_at_call 29; refine HC5.out.mono ?_)
        first | (rintro e w5 u rfl hr5) | (rintro e w5 ⟨⟨u, rfl⟩, hr5⟩)
        have HR5 := Lib.hid hr5
        clear hr5 HC5
        have q0 : w5.cell? ⟨wr.heap.size, 0, none⟩ = some (.int .i64 x.val.k) := HR5.out.bx.cell 0
        have q1 : w5.cell? ⟨wr.heap.size, 1, none⟩ = some (.int .i64 x.val.n) := HR5.out.bx.cell 1
        have q2 : w5.cell? ⟨wr.heap.size, 2, none⟩ = some (.string x.val.s) := HR5.out.bx.cell 2
        have q3 : w5.cell? ⟨wr.heap.size, 3, none⟩ = some (.int .i64 x.val.o) := HR5.out.bx.cell 3
        have q4 : w5.cell? ⟨wr.heap.size, 4, none⟩ = some (.int .i64 x.val.p) := HR5.out.bx.cell 4
        have q5 : w5.cell? ⟨wr.heap.size, 5, none⟩ = some (.slice x.kA x.keys.length x.kc) := HR5.out.bx.cell 5
        have q6 : w5.cell? ⟨wr.heap.size, 6, none⟩ = some (.slice x.cA x.kids.length x.cc) := HR5.out.bx.cell 6
        have HCX := Lib.hid (HHI.out _ b _ _ HR5.out.wi (by first | omega | (simp only [List.length_append, List.length_singleton]; omega)))
        have HN := Lib.hid (show (acc ++ [123]) ++ JT.textL true true keys ((kids.map PT.tree).take (k + 1)) = ((L ++ [44]) ++ (q ++ [58])) ++ x.tree.text from by rw [hsucc, hL]; try simp [List.append_assoc])
        clear hsucc hL hl0 hwi hsz hz htl
        go_wp2_with (go_at_call 13; refine HCX.out.mono ?_)
        first | (rintro e w6 rfl hb6 ho6) | (rintro e w6 ⟨rfl, hb6, ho6⟩)
        have H6 := Lib.hid (And.intro (HWI.out.next (bu_wider hb6) (HR5.out.on.trans (only_wider ho6))) (ho.trans (HR5.out.on.trans (only_wider ho6))))
        clear hb6 ho6
        go_wp2_with fail
        go_roundw
        case rel => exact ⟨k + 1, by go_num, by omega, by rw [HN.out]; exact H6.out.1, H6.out.2⟩
        case measure => simp [intOf] <;> omega
    · have hlti : ¬ (k : Int) < (kids.length : Int) := by omega
      have hLe : L = (acc ++ [123]) ++ JT.textL true true keys (kids.map PT.tree) := by rw [hL, List.take_of_length_le (by simp; omega)]
      have hz := HS.out.2.2.2
      have hzz : JT.sizeL ((kids.map PT.tree).take k) ≤ JT.sizeL (kids.map PT.tree) := JT.sizeL_take_le _ _
      have HCE := Lib.hid (show Calls Tryd.prog 30 #[.pointer (some ⟨b, 0, none⟩), .int .u8 125] wr (fun e w' => e = .returned .nilIface ∧ WrI (fun k => S k ∧ k ≠ w.heap.size) b W0 w' (L ++ [125]) ∧ Only (fun k => S k ∧ k ≠ w.heap.size) wr w') from wr_byte hwi 125 (by omega))
      have HE := Lib.hid (And.intro hLe ho)
      clear hLe hL hl0 hwi ho hBk hz hzz
      go_wp2_with (go_at_call 30; refine HCE.out.mono ?_)
      first | (rintro e w8 rfl hw8 ho8) | (rintro e w8 ⟨rfl, hw8, ho8⟩)
      have H8 := Lib.hid (And.intro hw8 ho8)
      clear hw8 ho8
      go_wp2_with fail
      go_end0
      refine ⟨rfl, ?_, (H1.out.2.1.trans (only_wider HE.out.2)).trans (only_wider H8.out.2)⟩
      have := bu_wider H8.out.1.bu
      rw [HE.out.1] at this
      simpa [List.append_assoc] using this

set_option maxRecDepth 100000 in
set_option maxHeartbeats 4000000 in
theorem write_6 (v : JV) (kA : Option Addr) (kc : Nat) (keys : List ByteArray) (cA : Option Addr) (cc : Nat) (kids : List PT) (S : Nat → Prop) (b : Nat) (acc : List UInt8) (W0 w : World) (hT : InJ W0 (.node v kA kc keys cA cc kids)) (hw : WrI S b W0 w acc) (hf : (PT.node v kA kc keys cA cc kids).tree.formed = true) (hz : acc.length + 250 * (PT.node v kA kc keys cA cc kids).tree.size ≤ 200000) (hk : v.k = 6)
    (ih : ∀ k ∈ kids, ∀ (S : Nat → Prop) (b : Nat) (acc : List UInt8) (w1 : World), WrI S b W0 w1 acc → acc.length + 250 * k.tree.size ≤ 200000 → Calls Tryd.prog 13 #[.pointer (some ⟨b, 0, none⟩), k.value] w1 (WrQ S b w1 (acc ++ k.tree.text))) :
    Calls Tryd.prog 13 #[.pointer (some ⟨b, 0, none⟩), (PT.node v kA kc keys cA cc kids).value] w (WrQ S b w (acc ++ (PT.node v kA kc keys cA cc kids).tree.text)) := by
  have hsl := hT.slot
  have hnum := hT.num
  rw [PT.tree, PT.treeL_eq] at hf hz hnum ⊢
  obtain ⟨htop, hkf⟩ := (JT.formed_iff _).1 hf
  obtain ⟨h5, hn5, hhd⟩ := top_keys htop
  simp only [JT.val, JT.keys, JT.kids] at h5 hn5 hhd hkf
  simp only [JT.Num] at hnum
  have hall : ∀ t ∈ kids.map PT.tree, t.text.length + 64 ≤ 250 * t.size := fun t ht => JT.text_len t (hkf t ht) ((JT.NumL_iff _).1 hnum.2 t ht)
  rw [JT.size] at hz
  have hke : keys = [] := hn5 (by omega)
  subst hke
  have hlen : ∀ i, (JT.textL false true [] ((kids.map PT.tree).take i)).length ≤ 250 * JT.sizeL ((kids.map PT.tree).take i) := fun i =>
    textL_len false _ true [] (fun t ht => hall t (List.mem_of_mem_take ht)) (by simp)
  have hcl : kids.length ≤ 1000 := by
    have := JT.length_le_sizeL (kids.map PT.tree)
    simp at this
    omega
  have htx : (JT.node v [] (kids.map PT.tree)).text = 91 :: (JT.textL false true [] (kids.map PT.tree) ++ [93]) := by
    rw [JT.text, if_neg (by omega), if_pos hk]
  rw [htx]
  have HI := Lib.hid (fun (i : Nat) (k : PT) (h1 : kids[i]? = some k) => ih k (List.mem_of_getElem? h1))
  have HS := Lib.hid (And.intro hsl (And.intro hw (And.intro hlen hz)))
  obtain ⟨kd, n, s, o, p⟩ := v
  simp only at hk
  subst hk
  unfold PT.value PT.cells JV.cells
  simp only [PT.val, PT.keys, PT.kids, PT.kA, PT.kc, PT.cA, PT.cc]
  have hb : Below w.heap.size w (w.alloc (.cells #[.int .i64 6, .int .i64 n, .string s, .int .i64 o, .int .i64 p, .slice kA 0 kc, .slice cA kids.length cc] 29)) := (Below.refl _ _).alloc (Nat.le_refl _) _
  have hbx : Blk (w.alloc (.cells #[.int .i64 6, .int .i64 n, .string s, .int .i64 o, .int .i64 p, .slice kA 0 kc, .slice cA kids.length cc] 29)) w.heap.size 29 #[.int .i64 6, .int .i64 n, .string s, .int .i64 o, .int .i64 p, .slice kA 0 kc, .slice cA kids.length cc] := Blk.new w _ _
  have hwl := hw.less hb w.heap.size (Nat.le_refl _) (by simp)
  have HC1 := Lib.hid (show Calls Tryd.prog 30 #[.pointer (some ⟨b, 0, none⟩), .int .u8 91] _ (fun e w' => e = .returned .nilIface ∧ WrI (fun k => S k ∧ k ≠ w.heap.size) b W0 w' (acc ++ [91]) ∧ Only (fun k => S k ∧ k ≠ w.heap.size) _ w') from wr_byte hwl 91 (by omega))
  have HBX := Lib.hid (And.intro hb hbx)
  clear ih hsl hb hbx hwl hT hlen htx hall hnum hkf hf htop hhd h5 hn5 hz hw
  go_enter Tryd.func13, Tryd.ntmps13
  go_wp2_with (go_at_call 30; refine HC1.out.mono ?_)
  first | (rintro e w1 rfl hw1 ho1) | (rintro e w1 ⟨rfl, hw1, ho1⟩)
  have hbx1 := HBX.out.2.only ho1 (by simp)
  have a6 : w1.cell? ⟨w.heap.size, 6, none⟩ = some (.slice cA kids.length cc) := hbx1.cell 6
  have H1 := Lib.hid (And.intro hw1 (And.intro (Only.trans (Only.of_below HBX.out.1) (only_wider ho1)) hbx1))
  clear hw1 ho1 hbx1 HC1
  go_wp2_with fail
  go_loopw [26] (fun iv wr => ∃ (k : Nat), iv = .int .i64 k ∧ k ≤ kids.length ∧ WrI (fun k => S k ∧ k ≠ w.heap.size) b W0 wr ((acc ++ [91]) ++ JT.textL false true [] ((kids.map PT.tree).take k)) ∧ Only (fun k => S k ∧ k ≠ w.heap.size) w1 wr) (fun iv _ => kids.length - (intOf iv).toNat)
  case atStart => exact ⟨0, rfl, by omega, by rw [List.take_zero, JT.textL, List.append_nil]; exact H1.out.1, Only.refl _ _⟩
  case round =>
    obtain ⟨k, rfl, hk, hwi, ho⟩ := hrel
    have hBk := H1.out.2.2.only ho (by simp)
    have a5 : wr.cell? ⟨w.heap.size, 5, none⟩ = some (.slice kA 0 kc) := hBk.cell 5
    have hW := hwi.bel
    obtain ⟨L, hL⟩ : ∃ L, L = (acc ++ [91]) ++ JT.textL false true [] ((kids.map PT.tree).take k) := ⟨_, rfl⟩
    rw [← hL] at hwi
    have hl0 : L.length ≤ acc.length + 1 + 250 * JT.sizeL ((kids.map PT.tree).take k) := by
      have := HS.out.2.2.1 k
      rw [hL]
      simp only [List.length_append, List.length_singleton]
      omega
    by_cases hlt : k < kids.length
    · have hlti : (k : Int) < (kids.length : Int) := by omega
      obtain ⟨x, hx⟩ : ∃ x, kids[k]? = some x := ⟨_, List.getElem?_eq_getElem hlt⟩
      have htl : (kids.map PT.tree)[k]? = some x.tree := by rw [List.getElem?_map, hx]; rfl
      have hsucc := textL_succ false [] (kids.map PT.tree) k x.tree htl
      have hsz : JT.sizeL ((kids.map PT.tree).take k) + x.tree.size ≤ JT.sizeL (kids.map PT.tree) := by
        rw [← JT.sizeL_take_succ htl]
        exact JT.sizeL_take_le _ _
      have hz := HS.out.2.2.2
      obtain ⟨b1, o1, hA1, p0, p1, p2, p3, p4, p5, p6⟩ := kid_cells (HS.out.1.kids.below hW) hx
      simp only [PT.cA] at hA1
      subst hA1
      have hR : WrR S b W0 wr (wr.alloc (.cells #[.int .i64 x.val.k, .int .i64 x.val.n, .string x.val.s, .int .i64 x.val.o, .int .i64 x.val.p, .slice x.kA x.keys.length x.kc, .slice x.cA x.kids.length x.cc] 29)) w.heap.size wr.heap.size #[.int .i64 6, .int .i64 n, .string s, .int .i64 o, .int .i64 p, .slice kA 0 kc, .slice (some ⟨b1, o1, none⟩) kids.length cc] #[.int .i64 x.val.k, .int .i64 x.val.n, .string x.val.s, .int .i64 x.val.o, .int .i64 x.val.p, .slice x.kA x.keys.length x.kc, .slice x.cA x.kids.length x.cc] L := by
        have hal : Below wr.heap.size wr (wr.alloc (.cells #[.int .i64 x.val.k, .int .i64 x.val.n, .string x.val.s, .int .i64 x.val.o, .int .i64 x.val.p, .slice x.kA x.keys.length x.kc, .slice x.cA x.kids.length x.cc] 29)) := (Below.refl _ _).alloc (Nat.le_refl _) _
        exact ⟨hwi.less hal wr.heap.size (Nat.le_refl _) (by simp), Only.of_below hal, Blk.new wr _ _, hBk.below hal hBk.lt⟩
      have HR0 := Lib.hid hR
      have HWI := Lib.hid hwi
      have HHI := Lib.hid (HI.out k x hx)
      have hkz : True := trivial
      clear hR hBk hx
      by_cases hk0 : k = 0
      · have hki : ¬ (0 : Int) < (k : Int) := by omega
        simp only [if_pos hk0, Bool.false_eq_true, if_false, List.nil_append] at hsucc
        clear hk0
        have f5 : (wr.alloc (.cells #[.int .i64 x.val.k, .int .i64 x.val.n, .string x.val.s, .int .i64 x.val.o, .int .i64 x.val.p, .slice x.kA x.keys.length x.kc, .slice x.cA x.kids.length x.cc] 29)).cell? ⟨w.heap.size, 5, none⟩ = some (.slice kA 0 kc) := HR0.out.b0.cell 5
        have q0 : (wr.alloc (.cells #[.int .i64 x.val.k, .int .i64 x.val.n, .string x.val.s, .int .i64 x.val.o, .int .i64 x.val.p, .slice x.kA x.keys.length x.kc, .slice x.cA x.kids.length x.cc] 29)).cell? ⟨wr.heap.size, 0, none⟩ = some (.int .i64 x.val.k) := HR0.out.bx.cell 0
        have q1 : (wr.alloc (.cells #[.int .i64 x.val.k, .int .i64 x.val.n, .string x.val.s, .int .i64 x.val.o, .int .i64 x.val.p, .slice x.kA x.keys.length x.kc, .slice x.cA x.kids.length x.cc] 29)).cell? ⟨wr.heap.size, 1, none⟩ = some (.int .i64 x.val.n) := HR0.out.bx.cell 1
        have q2 : (wr.alloc (.cells #[.int .i64 x.val.k, .int .i64 x.val.n, .string x.val.s, .int .i64 x.val.o, .int .i64 x.val.p, .slice x.kA x.keys.length x.kc, .slice x.cA x.kids.length x.cc] 29)).cell? ⟨wr.heap.size, 2, none⟩ = some (.string x.val.s) := HR0.out.bx.cell 2
        have q3 : (wr.alloc (.cells #[.int .i64 x.val.k, .int .i64 x.val.n, .string x.val.s, .int .i64 x.val.o, .int .i64 x.val.p, .slice x.kA x.keys.length x.kc, .slice x.cA x.kids.length x.cc] 29)).cell? ⟨wr.heap.size, 3, none⟩ = some (.int .i64 x.val.o) := HR0.out.bx.cell 3
        have q4 : (wr.alloc (.cells #[.int .i64 x.val.k, .int .i64 x.val.n, .string x.val.s, .int .i64 x.val.o, .int .i64 x.val.p, .slice x.kA x.keys.length x.kc, .slice x.cA x.kids.length x.cc] 29)).cell? ⟨wr.heap.size, 4, none⟩ = some (.int .i64 x.val.p) := HR0.out.bx.cell 4
        have q5 : (wr.alloc (.cells #[.int .i64 x.val.k, .int .i64 x.val.n, .string x.val.s, .int .i64 x.val.o, .int .i64 x.val.p, .slice x.kA x.keys.length x.kc, .slice x.cA x.kids.length x.cc] 29)).cell? ⟨wr.heap.size, 5, none⟩ = some (.slice x.kA x.keys.length x.kc) := HR0.out.bx.cell 5
        have q6 : (wr.alloc (.cells #[.int .i64 x.val.k, .int .i64 x.val.n, .string x.val.s, .int .i64 x.val.o, .int .i64 x.val.p, .slice x.kA x.keys.length x.kc, .slice x.cA x.kids.length x.cc] 29)).cell? ⟨wr.heap.size, 6, none⟩ = some (.slice x.cA x.kids.length x.cc) := HR0.out.bx.cell 6
        have HCX := Lib.hid (HHI.out _ b _ _ HR0.out.wi (by first | omega | (simp only [List.length_append, List.length_singleton]; omega)))
        have HN := Lib.hid (show (acc ++ [91]) ++ JT.textL false true [] ((kids.map PT.tree).take (k + 1)) = L ++ x.tree.text from by rw [hsucc, hL]; try simp [List.append_assoc])
        clear hsucc hL hl0 hwi hsz hz htl
        go_wp2_with (go_at_call 13; refine HCX.out.mono ?_)
        first | (rintro e w6 rfl hb6 ho6) | (rintro e w6 ⟨rfl, hb6, ho6⟩)
        have H6 := Lib.hid (And.intro (HWI.out.next (bu_wider hb6) (HR0.out.on.trans (only_wider ho6))) (ho.trans (HR0.out.on.trans (only_wider ho6))))
        clear hb6 ho6
        go_wp2_with fail
        go_roundw
        case rel => exact ⟨k + 1, by go_num, by omega, by rw [HN.out]; exact H6.out.1, H6.out.2⟩
        case measure => simp [intOf] <;> omega
      · have hki : (0 : Int) < (k : Int) := by omega
        simp only [if_neg hk0, Bool.false_eq_true, if_false, List.nil_append] at hsucc
        have HC1 := Lib.hid (HR0.out.comma (by omega))
        go_wp2_with (go_at_call 30; refine HC1.out.mono ?_)
        first | (rintro e w3 rfl hr3) | (rintro e w3 ⟨rfl, hr3⟩)
        have HR3 := Lib.hid hr3
        clear hr3 HC1
        have f5 : w3.cell? ⟨w.heap.size, 5, none⟩ = some (.slice kA 0 kc) := HR3.out.b0.cell 5
        have q0 : w3.cell? ⟨wr.heap.size, 0, none⟩ = some (.int .i64 x.val.k) := HR3.out.bx.cell 0
        have q1 : w3.cell? ⟨wr.heap.size, 1, none⟩ = some (.int .i64 x.val.n) := HR3.out.bx.cell 1
        have q2 : w3.cell? ⟨wr.heap.size, 2, none⟩ = some (.string x.val.s) := HR3.out.bx.cell 2
        have q3 : w3.cell? ⟨wr.heap.size, 3, none⟩ = some (.int .i64 x.val.o) := HR3.out.bx.cell 3
        have q4 : w3.cell? ⟨wr.heap.size, 4, none⟩ = some (.int .i64 x.val.p) := HR3.out.bx.cell 4
        have q5 : w3.cell? ⟨wr.heap.size, 5, none⟩ = some (.slice x.kA x.keys.length x.kc) := HR3.out.bx.cell 5
        have q6 : w3.cell? ⟨wr.heap.size, 6, none⟩ = some (.slice x.cA x.kids.length x.cc) := HR3.out.bx.cell 6
        have HCX := Lib.hid (HHI.out _ b _ _ HR3.out.wi (by first | omega | (simp only [List.length_append, List.length_singleton]; omega)))
        have HN := Lib.hid (show (acc ++ [91]) ++ JT.textL false true [] ((kids.map PT.tree).take (k + 1)) = (L ++ [44]) ++ x.tree.text from by rw [hsucc, hL]; try simp [List.append_assoc])
        clear hsucc hL hl0 hwi hsz hz htl
        go_wp2_with (go_at_call 13; refine HCX.out.mono ?_)
        first | (rintro e w6 rfl hb6 ho6) | (rintro e w6 ⟨rfl, hb6, ho6⟩)
        have H6 := Lib.hid (And.intro (HWI.out.next (bu_wider hb6) (HR3.out.on.trans (only_wider ho6))) (ho.trans (HR3.out.on.trans (only_wider ho6))))
        clear hb6 ho6
        go_wp2_with fail
        go_roundw
        case rel => exact ⟨k + 1, by go_num, by omega, by rw [HN.out]; exact H6.out.1, H6.out.2⟩
        case measure => simp [intOf] <;> omega
    · have hlti : ¬ (k : Int) < (kids.length : Int) := by omega
      have hLe : L = (acc ++ [91]) ++ JT.textL false true [] (kids.map PT.tree) := by rw [hL, List.take_of_length_le (by simp; omega)]
      have hz := HS.out.2.2.2
      have hzz : JT.sizeL ((kids.map PT.tree).take k) ≤ JT.sizeL (kids.map PT.tree) := JT.sizeL_take_le _ _
      have HCE := Lib.hid (show Calls Tryd.prog 30 #[.pointer (some ⟨b, 0, none⟩), .int .u8 93] wr (fun e w' => e = .returned .nilIface ∧ WrI (fun k => S k ∧ k ≠ w.heap.size) b W0 w' (L ++ [93]) ∧ Only (fun k => S k ∧ k ≠ w.heap.size) wr w') from wr_byte hwi 93 (by omega))
      have HE := Lib.hid (And.intro hLe ho)
      clear hLe hL hl0 hwi ho hBk hz hzz
      go_wp2_with (go_at_call 30; refine HCE.out.mono ?_)
      first | (rintro e w8 rfl hw8 ho8) | (rintro e w8 ⟨rfl, hw8, ho8⟩)
      have H8 := Lib.hid (And.intro hw8 ho8)
      clear hw8 ho8
      go_wp2_with fail
      go_end0
      refine ⟨rfl, ?_, (H1.out.2.1.trans (only_wider HE.out.2)).trans (only_wider H8.out.2)⟩
      have := bu_wider H8.out.1.bu
      rw [HE.out.1] at this
      simpa [List.append_assoc] using this

theorem write_any : ∀ (T : PT) (W0 : World) (hT : InJ W0 T) (hf : T.tree.formed = true) (S : Nat → Prop) (b : Nat) (acc : List UInt8) (w : World) (hw : WrI S b W0 w acc) (hz : acc.length + 250 * T.tree.size ≤ 200000), Calls Tryd.prog 13 #[.pointer (some ⟨b, 0, none⟩), T.value] w (WrQ S b w (acc ++ T.tree.text)) := by
  intro T
  refine PT.ind (P := fun T => ∀ (W0 : World) (hT : InJ W0 T) (hf : T.tree.formed = true) (S : Nat → Prop) (b : Nat) (acc : List UInt8) (w : World) (hw : WrI S b W0 w acc) (hz : acc.length + 250 * T.tree.size ≤ 200000), Calls Tryd.prog 13 #[.pointer (some ⟨b, 0, none⟩), T.value] w (WrQ S b w (acc ++ T.tree.text))) ?_ T
  clear T
  intro v kA kc keys cA cc kids ih W0 hT hf S b acc w hw hz
  have hf2 := hf
  rw [PT.tree, PT.treeL_eq] at hf2
  obtain ⟨htop, hkf⟩ := (JT.formed_iff _).1 hf2
  obtain ⟨_, _, hhd⟩ := top_keys htop
  simp only [JT.val, JT.kids] at hhd hkf
  obtain ⟨hok, h4, _, _⟩ := head_parts hhd
  obtain ⟨k0, k6⟩ := ok_kind hok
  have hih : ∀ k ∈ kids, ∀ (S : Nat → Prop) (b : Nat) (acc : List UInt8) (w1 : World), WrI S b W0 w1 acc → acc.length + 250 * k.tree.size ≤ 200000 → Calls Tryd.prog 13 #[.pointer (some ⟨b, 0, none⟩), k.value] w1 (WrQ S b w1 (acc ++ k.tree.text)) :=
    fun k hk S b acc w1 hw1 hz1 => ih k hk W0 (hT.kids k hk) (hkf _ (List.mem_map_of_mem hk)) S b acc w1 hw1 hz1
  by_cases h5 : v.k = 5
  · exact write_5 v kA kc keys cA cc kids S b acc W0 w hT hw hf hz h5 hih
  · by_cases h6 : v.k = 6
    · exact write_6 v kA kc keys cA cc kids S b acc W0 w hT hw hf hz h6 hih
    · exact write_plain v kA kc keys cA cc kids S b acc W0 w hw (by omega) k0 (by omega) hT.slot.fit.n (fun h3 => ok_text hok h3)

/-- What Print gives. -/
def PrintQ (w : World) (T : PT) (e : Ending) (w' : World) : Prop := ((checkV T.tree = .nilIface ∧ e = .returned (.tuple #[.string ⟨T.tree.text.toArray⟩, .nilIface])) ∨ (checkV T.tree ≠ .nilIface ∧ e = .returned (.tuple #[.string ⟨#[]⟩, checkV T.tree]))) ∧ Below w.heap.size w w'
set_option maxRecDepth 100000 in
set_option maxHeartbeats 2000000 in
theorem print_any (T : PT) (W0 w : World) (hT : InJ W0 T) (hb : Below W0.heap.size W0 w) (hp : Pow10 W0) : Calls Tryd.prog 5 #[T.value] w (PrintQ w T) := by
  have hal : Below w.heap.size w (w.alloc (.cells #[.int .i64 T.val.k, .int .i64 T.val.n, .string T.val.s, .int .i64 T.val.o, .int .i64 T.val.p, .slice T.kA T.keys.length T.kc, .slice T.cA T.kids.length T.cc] 29)) := (Below.refl _ _).alloc (Nat.le_refl _) _
  have hbx : Blk (w.alloc (.cells #[.int .i64 T.val.k, .int .i64 T.val.n, .string T.val.s, .int .i64 T.val.o, .int .i64 T.val.p, .slice T.kA T.keys.length T.kc, .slice T.cA T.kids.length T.cc] 29)) w.heap.size 29 #[.int .i64 T.val.k, .int .i64 T.val.n, .string T.val.s, .int .i64 T.val.o, .int .i64 T.val.p, .slice T.kA T.keys.length T.kc, .slice T.cA T.kids.length T.cc] := Blk.new w _ _
  have HC := Lib.hid (check_any T W0 _ hT (hb.trans (hal.mono hb.size)))
  have HB := Lib.hid (And.intro hal (And.intro hbx (hb.trans (hal.mono hb.size))))
  have HV := Lib.hid (PT.value_eq T)
  rw [HV.out] at HC ⊢
  clear hal hbx hb
  go_enter Tryd.func5, Tryd.ntmps5
  go_wp2_with (go_at_call 12; refine HC.out.mono ?_)
  first | (rintro e w1 rfl hb1) | (rintro e w1 ⟨rfl, hb1⟩)
  have H1 := Lib.hid (And.intro hb1 (And.intro (HB.out.2.2.trans (hb1.mono HB.out.2.2.size)) (HB.out.1.trans (hb1.mono HB.out.1.size))))
  have hbx1 := HB.out.2.1.below hb1 HB.out.2.1.lt
  clear HC
  by_cases hc : checkV T.tree = .nilIface
  · have hz := checkV_ok hc
    rw [hc]
    have HZ := Lib.hid (And.intro hc hz)
    clear hc hz hb1
    have hal2 : Below w1.heap.size w1 (w1.alloc (.cells #[.pointer none, .slice none 0 0] 57)) := (Below.refl _ _).alloc (Nat.le_refl _) _
    have hwr : WrI (fun k => w1.heap.size ≤ k) w1.heap.size W0 (w1.alloc (.cells #[.pointer none, .slice none 0 0] 57)) [] :=
      ⟨H1.out.2.1.trans (hal2.mono H1.out.2.1.size), Bu.fresh w1 (Nat.le_refl _), hp, fun k hk hs => by have := H1.out.2.1.size; omega, fun k hk => by simp at hk; omega⟩
    have HW := Lib.hid (write_any T W0 hT HZ.out.2.1 _ _ [] _ hwr (by have := HZ.out.2.2; simp; omega))
    have hbx2 := hbx1.below hal2 hbx1.lt
    have q0 := hbx2.cell 0
    have q1 := hbx2.cell 1
    have q2 := hbx2.cell 2
    have q3 := hbx2.cell 3
    have q4 := hbx2.cell 4
    have q5 := hbx2.cell 5
    have q6 := hbx2.cell 6
    simp only [List.getElem?_toArray, List.getElem?_cons_zero, List.getElem?_cons_succ] at q0 q1 q2 q3 q4 q5 q6
    have HA2 := Lib.hid hal2
    rw [HV.out] at HW
    clear hal2 hwr hbx1 hbx2
    go_wp2_with (go_at_call 13; refine HW.out.mono ?_)
    first | (rintro e w2 rfl hb2 ho2) | (rintro e w2 ⟨rfl, hb2, ho2⟩)
    have hb3 : Below w1.heap.size w1 w2 := HA2.out.trans (ho2.below (by simp) (fun k hk hs => by omega))
    have HS := Lib.hid (Tryd.Builder_String_any_k w1.heap.size w1.heap.size T.tree.text w2 (by have := hb2.isB (B := w1.heap.size) (fun k hk => hk); simpa using this) hb3.size)
    have H3 := Lib.hid hb3
    clear hb2 ho2 hb3 q0 q1 q2 q3 q4 q5 q6 HW
    go_wp2_with (go_at_call 14; refine HS.out.mono ?_; rintro e w4 ⟨rfl, _, hb4, _⟩; have H4 := Lib.hid hb4; clear hb4)
    go_ret2
    exact ⟨.inl ⟨HZ.out.1, rfl⟩, H1.out.2.2.trans ((H3.out.trans H4.out).mono H1.out.2.2.size)⟩
  · rcases checkV_cases T.tree with h | ⟨n, h⟩
    · exact absurd h hc
    · rw [h]
      have HH := Lib.hid (And.intro hc h)
      clear hc h hb1
      go_wp2_with fail
      go_ret2
      exact ⟨.inr ⟨HH.out.1, by rw [HH.out.2]; rfl⟩, H1.out.2.2⟩
end Go.Proofs.YtmkebfclaehneaaDoor
