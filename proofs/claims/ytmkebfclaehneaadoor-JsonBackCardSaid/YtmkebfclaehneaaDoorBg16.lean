/- JsonCount, JsonCheck. -/
import Derived.Test.YtmkebfclaehneaaDoorBg13
import Derived.Test.YtmkebfclaehneaaDoorBg4
import Derived.Test.YtmkebfclaehneaaDoorBg15
/- json.count: the contract. -/
namespace Go.Proofs.YtmkebfclaehneaaDoor
open Go.RowKit
set_option linter.unusedVariables false
set_option linter.unusedSimpArgs false

def BoolRes (Q : Bool → World → Prop) (e : Ending) (w' : World) : Prop := ∃ b, e = .returned (.bool b) ∧ Q b w'
def NotRes (Q : Bool → World → Prop) (e : Ending) (w' : World) : Prop := ∃ b, e = .returned (.bool (!b)) ∧ Q b w'

set_option maxRecDepth 100000 in
set_option maxHeartbeats 2000000 in
theorem count1_any (T : PT) (bc bl : Nat) (w : World) (hlt : bc < w.heap.size) (hc : w.cell? ⟨bc, 0, none⟩ = some (.pointer (some ⟨bl, 0, none⟩))) (Q : Bool → World → Prop)
    (h : Calls Tryd.prog 28 #[T.value, .pointer (some ⟨bl, 0, none⟩)] (w.alloc (.cells T.cells.toArray 29)) (BoolRes Q)) :
    Calls Tryd.prog 51 #[T.value, .pointer (some ⟨bc, 0, none⟩)] w (NotRes Q) := by
  have H := Lib.hid h
  clear h
  unfold PT.value PT.cells JV.cells
  go_enter Tryd.func51, Tryd.ntmps51
  go_wp2_with fail
  refine H.out.mono ?_
  rintro e w1 ⟨b, rfl, hq⟩
  go_wp2_with fail
  go_ret
  exact ⟨b, rfl, hq⟩

/-- What counting gives: all of the tree, and what is left; or too many. -/
def CountQ (bl : Nat) (w : World) (size : Nat) (n : Int) (b : Bool) (w' : World) : Prop :=
  Only (· = bl) w w' ∧ ((b = true ∧ (size : Int) ≤ n ∧ Blk w' bl 3 #[.int .i64 (n - size)]) ∨ (b = false ∧ n < size))

set_option maxRecDepth 100000 in
set_option maxHeartbeats 2000000 in
theorem count_any (bl : Nat) : ∀ (T : PT) (W0 : World) (hT : InJ W0 T) (hbl : W0.heap.size ≤ bl) (n : Int) (w : World) (hb : Below W0.heap.size W0 w) (hl : Blk w bl 3 #[.int .i64 n]) (h0 : 0 ≤ n) (h1 : n ≤ 1000),
    Calls Tryd.prog 28 #[T.value, .pointer (some ⟨bl, 0, none⟩)] w (BoolRes (CountQ bl w T.tree.size n)) := by
  intro T
  refine PT.ind (P := fun T => ∀ (W0 : World) (hT : InJ W0 T) (hbl : W0.heap.size ≤ bl) (n : Int) (w : World) (hb : Below W0.heap.size W0 w) (hl : Blk w bl 3 #[.int .i64 n]) (h0 : 0 ≤ n) (h1 : n ≤ 1000),
    Calls Tryd.prog 28 #[T.value, .pointer (some ⟨bl, 0, none⟩)] w (BoolRes (CountQ bl w T.tree.size n))) ?_ T
  clear T
  intro v kA kc keys cA cc kids ih W0 hT hbl n w hb hl h0 h1
  have hlt := hl.lt
  have hc : w.cell? ⟨bl, 0, none⟩ = some (.int .i64 n) := hl.cell 0
  have hf := hl.frozen 0
  have hsl := hT.slot
  have hkids := hT.kids
  have hsz : (PT.node v kA kc keys cA cc kids).tree.size = 1 + JT.sizeL (kids.map PT.tree) := by rw [JT.size_eq, PT.tree_kids]; rfl
  have HT := Lib.hid (And.intro hT (And.intro hb (And.intro hl (And.intro hsl hkids))))
  have HS := Lib.hid hsz
  have IH := Lib.hid ih
  clear hT hb hl hsl hkids hsz ih
  unfold PT.value PT.cells JV.cells
  simp only [PT.val, PT.keys, PT.kids, PT.kA, PT.kc, PT.cA, PT.cc]
  by_cases hn : n - 1 < 0
  · have d : decide (n - 1 < 0) = true := by simpa using hn
    go_enter Tryd.func28, Tryd.ntmps28
    go_wp2_with fail
    go_ret
    refine ⟨false, rfl, ?_, .inr ⟨rfl, ?_⟩⟩
    · exact ((Only.setCell (S := (· = bl)) (p := ⟨bl, 0, none⟩) (Only.refl _ _) rfl _).alloc _).alloc _
    · rw [HS.out]; omega
  · have d : decide (n - 1 < 0) = false := by simpa using hn
    go_enter Tryd.func28, Tryd.ntmps28
    go_wp2_with fail
    have hbs : w.heap.size ≠ bl := by omega
    obtain ⟨w1, hw1⟩ : ∃ w1, ((w.setCell ⟨bl, 0, none⟩ (.int .i64 (n - 1))).alloc (.cells #[.int .i64 v.k, .int .i64 v.n, .string v.s, .int .i64 v.o, .int .i64 v.p, .slice kA keys.length kc, .slice cA kids.length cc] 29)).alloc (.cells #[.pointer (some ⟨bl, 0, none⟩)] 78) = w1 := ⟨_, rfl⟩
    have ho1 : Only (· = bl) w w1 := by rw [← hw1]; exact ((Only.setCell (S := (· = bl)) (p := ⟨bl, 0, none⟩) (Only.refl _ _) rfl _).alloc _).alloc _
    have hl1 : Blk w1 bl 3 #[.int .i64 (n - 1)] := by rw [← hw1]; exact ((HT.out.2.2.1.setc).alloc _).alloc _
    have hp1 : Blk w1 (w.heap.size + 1) 78 #[.pointer (some ⟨bl, 0, none⟩)] := by rw [← hw1]; exact Blk.newer _ _ _ (by simp)
    have hb1 : Below W0.heap.size W0 w1 := HT.out.2.1.trans (ho1.below HT.out.2.1.size (fun q hq e => by omega))
    rw [hw1]
    refine (any_count (w.heap.size + 1) (fun i w2 => Only (· = bl) w1 w2 ∧ (JT.sizeL ((kids.map PT.tree).take i) : Int) ≤ n - 1 ∧ Blk w2 bl 3 #[.int .i64 (n - 1 - JT.sizeL ((kids.map PT.tree).take i))]) (fun w2 => Only (· = bl) w1 w2 ∧ n - 1 < JT.sizeL (kids.map PT.tree)) kids cA cc w1 HT.out.2.2.2.1.clen ?_ ?_ ?_).mono ?_
    · refine ⟨Only.refl _ _, ?_, ?_⟩
      · simp [JT.sizeL]; omega
      · simpa [JT.sizeL] using hl1
    · rintro i w2 ⟨ho, _⟩
      exact (HT.out.2.2.2.1.kids.below (hb1.trans (ho.below hb1.size (fun q hq e => by omega))))
    · rintro i k w2 hk ⟨ho, hle, hl2⟩
      have hkm : (kids.map PT.tree)[i]? = some k.tree := by rw [List.getElem?_map, hk]; rfl
      have hts := JT.sizeL_take_succ hkm
      have htl := JT.sizeL_take_le (kids.map PT.tree) (i + 1)
      have hp2 := hp1.only ho (by show w.heap.size + 1 ≠ bl; omega)
      have hb2 := hb1.trans (ho.below hb1.size (fun q hq e => by omega))
      refine (count1_any k (w.heap.size + 1) bl w2 hp2.lt (hp2.cell 0) _ (IH.out k (List.mem_of_getElem? hk) W0 (HT.out.2.2.2.2 k (List.mem_of_getElem? hk)) hbl (n - 1 - JT.sizeL ((kids.map PT.tree).take i)) (w2.alloc (.cells k.cells.toArray 29))
        (hb2.alloc hb2.size _) (hl2.alloc _) (by omega) (by omega))).mono ?_
      rintro e w3 ⟨b, rfl, hq, hr⟩
      have ho3 : Only (· = bl) w1 w3 := (ho.alloc _).trans hq
      rcases hr with ⟨rfl, hs1, hl3⟩ | ⟨rfl, hs1⟩
      · refine .inr ⟨rfl, ho3, by omega, ?_⟩
        rw [show n - 1 - ((JT.sizeL ((kids.map PT.tree).take (i + 1)) : Nat) : Int) = n - 1 - (JT.sizeL ((kids.map PT.tree).take i) : Nat) - (k.tree.size : Nat) from by omega]
        exact hl3
      · exact .inl ⟨rfl, ho3, by omega⟩
    · rintro e w2 (⟨rfl, ho, hq⟩ | ⟨rfl, ho, hq, hl2⟩)
      · clear hw1
        go_wp2_with fail
        go_ret
        exact ⟨false, by rfl, ho1.trans ho, .inr ⟨rfl, by rw [HS.out]; omega⟩⟩
      · rw [List.take_of_length_le (by simp)] at hq hl2
        have HL := Lib.hid (And.intro hq hl2)
        clear hw1 hq hl2
        go_wp2_with fail
        go_ret
        refine ⟨true, by rfl, ho1.trans ho, .inl ⟨rfl, by rw [HS.out]; have := HL.out.1; omega, ?_⟩⟩
        rw [HS.out, show n - ((1 + JT.sizeL (kids.map PT.tree) : Nat) : Int) = n - 1 - (JT.sizeL (kids.map PT.tree) : Nat) from by omega]
        exact HL.out.2
end Go.Proofs.YtmkebfclaehneaaDoor
/- json.form, json.Check: the contracts. -/
namespace Go.Proofs.YtmkebfclaehneaaDoor
open Go.RowKit
set_option linter.unusedVariables false
set_option linter.unusedSimpArgs false

theorem wrap_sum0 {a b : Nat} (ha : a ≤ 9223372036854775807) (hb : b ≤ 9223372036854775807) : (IntKind.i64.wrap ((a : Int) + (b : Int)) == 0) = (a == 0 && b == 0) := by
  rw [IntKind.wrap_i64]
  by_cases h : a = 0 ∧ b = 0
  · obtain ⟨rfl, rfl⟩ := h; rfl
  · have h1 : ¬ (((a : Int) + (b : Int) + 9223372036854775808) % 18446744073709551616 - 9223372036854775808 = 0) := by omega
    have h2 : (a == 0 && b == 0) = false := by
      cases h2 : (a == 0 && b == 0) with
      | false => rfl
      | true => simp at h2; exact absurd h2 h
    rw [h2]
    simpa using h1
theorem head_kind {v : JV} (h : v.head = true) : v.k = 0 ∨ v.k = 1 ∨ v.k = 2 ∨ v.k = 3 ∨ v.k = 5 ∨ v.k = 6 := by
  have h1 := (head_parts h).1
  have h4 := (head_parts h).2.1
  unfold JV.ok at h1
  by_cases k0 : v.k = 0; · exact .inl k0
  by_cases k1 : v.k = 1; · exact .inr (.inl k1)
  by_cases k2 : v.k = 2; · exact .inr (.inr (.inl k2))
  by_cases k3 : v.k = 3; · exact .inr (.inr (.inr (.inl k3)))
  by_cases k5 : v.k = 5; · exact .inr (.inr (.inr (.inr (.inl k5))))
  by_cases k6 : v.k = 6; · exact .inr (.inr (.inr (.inr (.inr k6))))
  rw [if_neg k0, if_neg k1, if_neg k2, if_neg k3, if_neg h4, if_neg k5, if_neg k6] at h1
  cases h1

set_option maxRecDepth 100000 in
set_option maxHeartbeats 2000000 in
/-- Plain values. -/
theorem form_leaf (v : JV) (kA : Option Addr) (kc : Nat) (keys : List ByteArray) (cA : Option Addr) (cc : Nat) (kids : List PT) (w : World) (hkl : keys.length ≤ maxLen) (hcl : kids.length ≤ maxLen) (hd : v.head = true) (h5 : v.k ≠ 5) (h6 : v.k ≠ 6) :
    Calls Tryd.prog 15 #[(PT.node v kA kc keys cA cc kids).value] w (BoolIs w (PT.node v kA kc keys cA cc kids).tree.formed) := by
  obtain ⟨ok, _, ho, hp⟩ := head_parts hd
  have hff : (PT.node v kA kc keys cA cc kids).tree.formed = ((keys.length == 0) && (kids.length == 0)) := by
    rw [show (PT.node v kA kc keys cA cc kids).tree = .node v keys (kids.map PT.tree) from PT.tree_eq _, JT.formed_eq, JT.top_node, hd, if_neg h5, if_neg h6]
    simp only [JT.kids, Bool.true_and, List.length_map]
    cases kids with
    | nil => simp [JT.formedL]
    | cons x l => simp
  have hck := valueCheck_any v
  rw [ok] at hck
  have hk := head_kind hd
  obtain ⟨k, n, s, o, p⟩ := v
  simp only at hk ho hp h5 h6
  subst ho hp
  unfold PT.value PT.cells JV.cells
  simp only [PT.val, PT.keys, PT.kids, PT.kA, PT.kc, PT.cA, PT.cc]
  simp only [JV.cells] at hck
  have HC := Lib.hid hck
  have HF := Lib.hid hff
  have hkl' : keys.length ≤ 9223372036854775807 := Nat.le_trans hkl (by decide)
  have hcl' : kids.length ≤ 9223372036854775807 := Nat.le_trans hcl (by decide)
  obtain ⟨kn, hkn⟩ : ∃ kn, keys.length = kn := ⟨_, rfl⟩
  obtain ⟨cn, hcn⟩ : ∃ cn, kids.length = cn := ⟨_, rfl⟩
  rw [hkn] at hkl'
  rw [hcn] at hcl'
  rw [hkn, hcn]
  have HN := Lib.hid (And.intro hkn hcn)
  obtain ⟨r, hr⟩ : ∃ r, IntKind.i64.wrap ((kn : Int) + (cn : Int)) = r := ⟨_, rfl⟩
  have HR := Lib.hid (show (r == 0) = (kn == 0 && cn == 0) from by rw [← hr]; exact wrap_sum0 hkl' hcl')
  clear hck hff ok hd hkl hcl hkn hcn hkl' hcl'
  rcases hk with rfl | rfl | rfl | rfl | hk | hk
  case inr.inr.inr.inr.inl => exact absurd hk h5
  case inr.inr.inr.inr.inr => exact absurd hk h6
  all_goals
    go_enter Tryd.func15, Tryd.ntmps15
    go_wp2_with (go_at_call 32; refine (HC.out _).mono ?_; rintro e w' ⟨rfl, hb'⟩; rw [errIf_true]; obtain ⟨hc1, hc2⟩ := bcell hb')
    go_ret
    refine ⟨?_, below_al2 hb'⟩
    rw [HF.out, HN.out.1, HN.out.2]
    show Ending.returned (.bool (r == 0)) = _
    rw [HR.out]

set_option maxRecDepth 100000 in
set_option maxHeartbeats 2000000 in
theorem form_any : ∀ (T : PT) (W0 : World) (hT : InJ W0 T) (w : World) (hb : Below W0.heap.size W0 w), Calls Tryd.prog 15 #[T.value] w (BoolIs w T.tree.formed) := by
  intro T
  refine PT.ind (P := fun T => ∀ (W0 : World) (hT : InJ W0 T) (w : World) (hb : Below W0.heap.size W0 w), Calls Tryd.prog 15 #[T.value] w (BoolIs w T.tree.formed)) ?_ T
  clear T
  intro v kA kc keys cA cc kids ih W0 hT w hb
  have ih' : ∀ k ∈ kids, ∀ w1, Below W0.heap.size W0 w1 → Calls Tryd.prog 15 #[k.value] w1 (BoolIs w1 k.tree.formed) := fun k hk w1 h1 => ih k hk W0 (hT.kids k hk) w1 h1
  cases hd : v.head with
  | false =>
    have : (PT.node v kA kc keys cA cc kids).tree.formed = false := by
      rw [show (PT.node v kA kc keys cA cc kids).tree = .node v keys (kids.map PT.tree) from PT.tree_eq _, JT.formed_eq, JT.top_node, hd]; rfl
    rw [this]
    exact form_head _ w hd
  | true =>
    by_cases h5 : v.k = 5
    · exact form_map v kA kc keys cA cc kids W0 w hT hb hd h5 ih'
    · by_cases h6 : v.k = 6
      · exact form_list v kA kc keys cA cc kids W0 w hT hb hd h6 ih'
      · exact form_leaf v kA kc keys cA cc kids w hT.slot.klen hT.slot.clen hd h5 h6

/-- The fault of a tree. -/
def checkV (t : JT) : Value := if t.size ≤ 400 then (if t.formed then .nilIface else .iface 44 (.int .i64 1)) else .iface 44 (.int .i64 4)

set_option maxRecDepth 100000 in
set_option maxHeartbeats 2000000 in
theorem check_any (T : PT) (W0 w : World) (hT : InJ W0 T) (hb : Below W0.heap.size W0 w) : Calls Tryd.prog 12 #[T.value] w fun e w' => e = .returned (checkV T.tree) ∧ Below w.heap.size w w' := by
  have HC := Lib.hid (fun (bl : Nat) (w1 : World) (h1 : W0.heap.size ≤ bl) (h2 : Below W0.heap.size W0 w1) (h3 : Blk w1 bl 3 #[.int .i64 400]) => count_any bl T W0 hT h1 400 w1 h2 h3 (by decide) (by decide))
  have HF := Lib.hid (fun (w1 : World) (h2 : Below W0.heap.size W0 w1) => form_any T W0 hT w1 h2)
  have HB := Lib.hid hb
  unfold PT.value PT.cells JV.cells
  clear hT hb
  go_enter Tryd.func12, Tryd.ntmps12
  go_wp2_with fail
  obtain ⟨w1, hw1⟩ : ∃ w1, (w.alloc (.cells T.cells.toArray 29)).alloc (.cells #[.int .i64 400] 3) = w1 := ⟨_, rfl⟩
  have hb1 : Below w.heap.size w w1 := by rw [← hw1]; exact ((Below.refl _ _).alloc (Nat.le_refl _) _).alloc (by simp) _
  have hB1 : Blk w1 w.heap.size 29 T.cells.toArray := by rw [← hw1]; exact (Blk.new _ _ _).alloc _
  have hL1 : Blk w1 (w.heap.size + 1) 3 #[.int .i64 400] := by rw [← hw1]; exact Blk.newer _ _ _ (by simp)
  have hs1 : w1.heap.size = w.heap.size + 2 := by rw [← hw1]; simp
  have hW1 := HB.out.trans (hb1.mono HB.out.size)
  have hbs := HB.out.size
  subst hw1
  refine (HC.out (w.heap.size + 1) _ (by omega) hW1 hL1).mono ?_
  have HH := Lib.hid (And.intro hb1 (And.intro hB1 (And.intro hs1 hW1)))
  clear hb1 hB1 hL1 hs1 hW1
  rintro e w2 ⟨b, rfl, ho, hr⟩
  have hB2 := HH.out.2.1.only ho (by show w.heap.size ≠ w.heap.size + 1; omega)
  have hb2 : Below w.heap.size w w2 := HH.out.1.trans (ho.below HH.out.1.size (fun k hk e => by omega))
  have HB2 := Lib.hid (And.intro hB2 hb2)
  clear ho hB2 hb2
  rcases hr with ⟨rfl, hsz, _⟩ | ⟨rfl, hsz⟩
  · have g0 : w2.cell? ⟨w.heap.size, 0, none⟩ = some (.int .i64 T.val.k) := HB2.out.1.cell 0
    have g1 : w2.cell? ⟨w.heap.size, 1, none⟩ = some (.int .i64 T.val.n) := HB2.out.1.cell 1
    have g2 : w2.cell? ⟨w.heap.size, 2, none⟩ = some (.string T.val.s) := HB2.out.1.cell 2
    have g3 : w2.cell? ⟨w.heap.size, 3, none⟩ = some (.int .i64 T.val.o) := HB2.out.1.cell 3
    have g4 : w2.cell? ⟨w.heap.size, 4, none⟩ = some (.int .i64 T.val.p) := HB2.out.1.cell 4
    have g5 : w2.cell? ⟨w.heap.size, 5, none⟩ = some (.slice T.kA T.keys.length T.kc) := HB2.out.1.cell 5
    have g6 : w2.cell? ⟨w.heap.size, 6, none⟩ = some (.slice T.cA T.kids.length T.cc) := HB2.out.1.cell 6
    have HS := Lib.hid (show T.tree.size ≤ 400 from by omega)
    clear hsz
    go_wp2_with fail
    refine (HF.out _ (HB.out.trans (HB2.out.2.mono HB.out.size))).mono ?_
    rintro e w3 ⟨rfl, hb3⟩
    have hb4 := HB2.out.2.trans (hb3.mono HB2.out.2.size)
    clear hb3
    cases hf : T.tree.formed with
    | true =>
      have HFM := Lib.hid (show checkV T.tree = .nilIface from by rw [checkV, if_pos HS.out, if_pos hf])
      clear hf
      go_wp2_with fail
      go_ret
      exact ⟨by rw [HFM.out]; rfl, hb4⟩
    | false =>
      have HFM := Lib.hid (show checkV T.tree = .iface 44 (.int .i64 1) from by rw [checkV, if_pos HS.out, hf]; rfl)
      clear hf
      go_wp2_with fail
      go_ret
      exact ⟨by rw [HFM.out]; rfl, hb4⟩
  · have HFM := Lib.hid (show checkV T.tree = .iface 44 (.int .i64 4) from by rw [checkV, if_neg (by omega)])
    clear hsz
    go_wp2_with fail
    go_ret
    exact ⟨by rw [HFM.out]; rfl, HB2.out.2⟩
end Go.Proofs.YtmkebfclaehneaaDoor
