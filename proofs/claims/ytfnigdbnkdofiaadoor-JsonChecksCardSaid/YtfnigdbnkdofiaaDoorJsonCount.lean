/- json.count: the contract. -/
import Derived.Test.YtfnigdbnkdofiaaDoorJsonAny
import Derived.Test.YtfnigdbnkdofiaaDoorBlk
namespace Go.Proofs.YtfnigdbnkdofiaaDoor
open Go.RowKit
set_option linter.unusedVariables false
set_option linter.unusedSimpArgs false

def BoolRes (Q : Bool → World → Prop) (e : Ending) (w' : World) : Prop := ∃ b, e = .returned (.bool b) ∧ Q b w'
def NotRes (Q : Bool → World → Prop) (e : Ending) (w' : World) : Prop := ∃ b, e = .returned (.bool (!b)) ∧ Q b w'

set_option maxRecDepth 100000 in
set_option maxHeartbeats 2000000 in
theorem count1_any (T : PT) (bc bl : Nat) (w : World) (hlt : bc < w.heap.size) (hc : w.cell? ⟨bc, 0, none⟩ = some (.pointer (some ⟨bl, 0, none⟩))) (Q : Bool → World → Prop)
    (h : Calls Tryd.prog 18 #[T.value, .pointer (some ⟨bl, 0, none⟩)] (w.alloc (.cells T.cells.toArray 29)) (BoolRes Q)) :
    Calls Tryd.prog 37 #[T.value, .pointer (some ⟨bc, 0, none⟩)] w (NotRes Q) := by
  have H := Lib.hid h
  clear h
  unfold PT.value PT.cells JV.cells
  go_enter Tryd.func37, Tryd.ntmps37
  go_wp2_with fail
  refine H.out.mono ?_
  rintro e w1 ⟨b, rfl, hq⟩
  go_wp2_with fail
  go_ret
  exact ⟨b, rfl, hq⟩

/-- What counting gives: all of the tree, and what is left; or too many. -/
def CountQ (bl : Nat) (w : World) (size : Nat) (n : Int) (b : Bool) (w' : World) : Prop :=
  Only (· = bl) w w' ∧ ((b = true ∧ (size : Int) ≤ n ∧ Blk w' bl 3 #[.int .i64 (n - size)]) ∨ (b = false ∧ n < size))

set_option maxRecDepth 100000 in
set_option maxHeartbeats 2000000 in
theorem count_any (bl : Nat) : ∀ (T : PT) (W0 : World) (hT : InJ W0 T) (hbl : W0.heap.size ≤ bl) (n : Int) (w : World) (hb : Below W0.heap.size W0 w) (hl : Blk w bl 3 #[.int .i64 n]) (h0 : 0 ≤ n) (h1 : n ≤ 1000),
    Calls Tryd.prog 18 #[T.value, .pointer (some ⟨bl, 0, none⟩)] w (BoolRes (CountQ bl w T.tree.size n)) := by
  intro T
  refine PT.ind (P := fun T => ∀ (W0 : World) (hT : InJ W0 T) (hbl : W0.heap.size ≤ bl) (n : Int) (w : World) (hb : Below W0.heap.size W0 w) (hl : Blk w bl 3 #[.int .i64 n]) (h0 : 0 ≤ n) (h1 : n ≤ 1000),
    Calls Tryd.prog 18 #[T.value, .pointer (some ⟨bl, 0, none⟩)] w (BoolRes (CountQ bl w T.tree.size n))) ?_ T
  clear T
  intro v kA kc keys cA cc kids ih W0 hT hbl n w hb hl h0 h1
  have hlt := hl.lt
  have hc : w.cell? ⟨bl, 0, none⟩ = some (.int .i64 n) := hl.cell 0
  have hf := hl.frozen 0
  have hsl := hT.slot
  have hkids := hT.kids
  have hsz : (PT.node v kA kc keys cA cc kids).tree.size = 1 + JT.sizeL (kids.map PT.tree) := by rw [JT.size_eq, PT.tree_kids]; rfl
  have HT := Lib.hid (And.intro hT (And.intro hb (And.intro hl (And.intro hsl hkids))))
  have HS := Lib.hid hsz
  have IH := Lib.hid ih
  clear hT hb hl hsl hkids hsz ih
  unfold PT.value PT.cells JV.cells
  simp only [PT.val, PT.keys, PT.kids, PT.kA, PT.kc, PT.cA, PT.cc]
  by_cases hn : n - 1 < 0
  · have d : decide (n - 1 < 0) = true := by simpa using hn
    go_enter Tryd.func18, Tryd.ntmps18
    go_wp2_with fail
    go_ret
    refine ⟨false, rfl, ?_, .inr ⟨rfl, ?_⟩⟩
    · exact ((Only.setCell (S := (· = bl)) (p := ⟨bl, 0, none⟩) (Only.refl _ _) rfl _).alloc _).alloc _
    · rw [HS.out]; omega
  · have d : decide (n - 1 < 0) = false := by simpa using hn
    go_enter Tryd.func18, Tryd.ntmps18
    go_wp2_with fail
    have hbs : w.heap.size ≠ bl := by omega
    obtain ⟨w1, hw1⟩ : ∃ w1, ((w.setCell ⟨bl, 0, none⟩ (.int .i64 (n - 1))).alloc (.cells #[.int .i64 v.k, .int .i64 v.n, .string v.s, .int .i64 v.o, .int .i64 v.p, .slice kA keys.length kc, .slice cA kids.length cc] 29)).alloc (.cells #[.pointer (some ⟨bl, 0, none⟩)] 56) = w1 := ⟨_, rfl⟩
    have ho1 : Only (· = bl) w w1 := by rw [← hw1]; exact ((Only.setCell (S := (· = bl)) (p := ⟨bl, 0, none⟩) (Only.refl _ _) rfl _).alloc _).alloc _
    have hl1 : Blk w1 bl 3 #[.int .i64 (n - 1)] := by rw [← hw1]; exact ((HT.out.2.2.1.setc).alloc _).alloc _
    have hp1 : Blk w1 (w.heap.size + 1) 56 #[.pointer (some ⟨bl, 0, none⟩)] := by rw [← hw1]; exact Blk.newer _ _ _ (by simp)
    have hb1 : Below W0.heap.size W0 w1 := HT.out.2.1.trans (ho1.below HT.out.2.1.size (fun q hq e => by omega))
    rw [hw1]
    refine (any_count (w.heap.size + 1) (fun i w2 => Only (· = bl) w1 w2 ∧ (JT.sizeL ((kids.map PT.tree).take i) : Int) ≤ n - 1 ∧ Blk w2 bl 3 #[.int .i64 (n - 1 - JT.sizeL ((kids.map PT.tree).take i))]) (fun w2 => Only (· = bl) w1 w2 ∧ n - 1 < JT.sizeL (kids.map PT.tree)) kids cA cc w1 HT.out.2.2.2.1.clen ?_ ?_ ?_).mono ?_
    · refine ⟨Only.refl _ _, ?_, ?_⟩
      · simp [JT.sizeL]; omega
      · simpa [JT.sizeL] using hl1
    · rintro i w2 ⟨ho, _⟩
      exact (HT.out.2.2.2.1.kids.below (hb1.trans (ho.below hb1.size (fun q hq e => by omega))))
    · rintro i k w2 hk ⟨ho, hle, hl2⟩
      have hkm : (kids.map PT.tree)[i]? = some k.tree := by rw [List.getElem?_map, hk]; rfl
      have hts := JT.sizeL_take_succ hkm
      have htl := JT.sizeL_take_le (kids.map PT.tree) (i + 1)
      have hp2 := hp1.only ho (by show w.heap.size + 1 ≠ bl; omega)
      have hb2 := hb1.trans (ho.below hb1.size (fun q hq e => by omega))
      refine (count1_any k (w.heap.size + 1) bl w2 hp2.lt (hp2.cell 0) _ (IH.out k (List.mem_of_getElem? hk) W0 (HT.out.2.2.2.2 k (List.mem_of_getElem? hk)) hbl (n - 1 - JT.sizeL ((kids.map PT.tree).take i)) (w2.alloc (.cells k.cells.toArray 29))
        (hb2.alloc hb2.size _) (hl2.alloc _) (by omega) (by omega))).mono ?_
      rintro e w3 ⟨b, rfl, hq, hr⟩
      have ho3 : Only (· = bl) w1 w3 := (ho.alloc _).trans hq
      rcases hr with ⟨rfl, hs1, hl3⟩ | ⟨rfl, hs1⟩
      · refine .inr ⟨rfl, ho3, by omega, ?_⟩
        rw [show n - 1 - ((JT.sizeL ((kids.map PT.tree).take (i + 1)) : Nat) : Int) = n - 1 - (JT.sizeL ((kids.map PT.tree).take i) : Nat) - (k.tree.size : Nat) from by omega]
        exact hl3
      · exact .inl ⟨rfl, ho3, by omega⟩
    · rintro e w2 (⟨rfl, ho, hq⟩ | ⟨rfl, ho, hq, hl2⟩)
      · clear hw1
        go_wp2_with fail
        go_ret
        exact ⟨false, by rfl, ho1.trans ho, .inr ⟨rfl, by rw [HS.out]; omega⟩⟩
      · rw [List.take_of_length_le (by simp)] at hq hl2
        have HL := Lib.hid (And.intro hq hl2)
        clear hw1 hq hl2
        go_wp2_with fail
        go_ret
        refine ⟨true, by rfl, ho1.trans ho, .inl ⟨rfl, by rw [HS.out]; have := HL.out.1; omega, ?_⟩⟩
        rw [HS.out, show n - ((1 + JT.sizeL (kids.map PT.tree) : Nat) : Int) = n - 1 - (JT.sizeL (kids.map PT.tree) : Nat) from by omega]
        exact HL.out.2
end Go.Proofs.YtfnigdbnkdofiaaDoor
