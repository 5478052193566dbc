/- json.Paths: the contract. -/
import Derived.Test.YtljemaapicaioaaDoorWalkPaths
import Derived.Test.YtljemaapicaioaaDoorRefCheck
import Derived.Laws.EntriesVeiled
namespace Go.Proofs.YtljemaapicaioaaDoor
open Go.RowKit
set_option linter.unusedVariables false
set_option linter.unusedSimpArgs false

/-- What Paths gives. -/
def PathsQ (w : World) (T : PT) (x : JV) (e : Ending) (w' : World) : Prop :=
  Below w.heap.size w w' ∧ ((checkV T.tree ≠ .nilIface ∧ e = .returned (.tuple #[.slice none 0 0, checkV T.tree])) ∨
    (checkV T.tree = .nilIface ∧ (PT.bare x).tree.formed = false ∧ e = .returned (.tuple #[.slice none 0 0, .iface 100 (.int .i64 1)])) ∨
    (checkV T.tree = .nilIface ∧ (PT.bare x).tree.formed = true ∧ ∃ OA oc l, e = .returned (.tuple #[.slice OA (List.length l) oc, .nilIface]) ∧ List.map SP.p l = T.tree.paths x [] ∧ SlAt w' OA (List.map SP.cell l) ∧ PathsIn w' (fun _ => False) l))

set_option maxRecDepth 100000 in
set_option maxHeartbeats 4000000 in
theorem paths_any (T : PT) (x : JV) (w : World) (hT : InJ w T) (hx : x.Fit) :
    Calls Tryd.prog 21 #[T.value, .agg #[.int .i64 x.k, .int .i64 x.n, .string x.s, .int .i64 x.o, .int .i64 x.p]] w (PathsQ w T x) := by
  have HH := Lib.hid (And.intro hT hx)
  clear hT hx
  rw [PT.value_eq]
  go_enter Tryd.func21, Tryd.ntmps21
  go_wp2_with fail
  refine (check_any T w _ HH.out.1 (((Below.refl _ _).alloc (Nat.le_refl _) _).alloc (by simp) _)).mono ?_
  rintro e w1 ⟨rfl, hb1⟩
  obtain ⟨hb, hB, hX, hs⟩ := boxes2 hb1
  have H1 := Lib.hid (And.intro hb (And.intro hB (And.intro hX hs)))
  have x0 : w1.cell? ⟨w.heap.size + 1, 0, none⟩ = some (.int .i64 x.k) := hX.cell 0
  have x1 : w1.cell? ⟨w.heap.size + 1, 1, none⟩ = some (.int .i64 x.n) := hX.cell 1
  have x2 : w1.cell? ⟨w.heap.size + 1, 2, none⟩ = some (.string x.s) := hX.cell 2
  have x3 : w1.cell? ⟨w.heap.size + 1, 3, none⟩ = some (.int .i64 x.o) := hX.cell 3
  have x4 : w1.cell? ⟨w.heap.size + 1, 4, none⟩ = some (.int .i64 x.p) := hX.cell 4
  have hcv := checkV_cases T.tree
  obtain ⟨cv, hcv'⟩ : ∃ cv, checkV T.tree = cv := ⟨_, rfl⟩
  rw [hcv'] at hcv ⊢
  have HV := Lib.hid hcv'
  clear hcv' hb1 hb hB hX hs
  rcases hcv with rfl | ⟨n, rfl⟩
  · go_wp2_with fail
    have hfm := form_any (PT.bare x) w1 (PT.bare_in w1 HH.out.2) w1 (Below.refl _ _)
    have HFM := Lib.hid hfm
    clear hfm
    refine HFM.out.mono ?_
    clear x0 x1 x2 x3 x4 HFM
    rintro e w2 ⟨rfl, hb2⟩
    have hbb := H1.out.1.trans (hb2.mono H1.out.1.size)
    have hB2 := H1.out.2.1.below hb2 H1.out.2.1.lt
    have hX2 := H1.out.2.2.1.below hb2 H1.out.2.2.1.lt
    have H2 := Lib.hid (And.intro hbb (And.intro hB2 hX2))
    have c0 : w2.cell? ⟨w.heap.size, 0, none⟩ = some (.int .i64 T.val.k) := hB2.cell 0
    have c1 : w2.cell? ⟨w.heap.size, 1, none⟩ = some (.int .i64 T.val.n) := hB2.cell 1
    have c2 : w2.cell? ⟨w.heap.size, 2, none⟩ = some (.string T.val.s) := hB2.cell 2
    have c3 : w2.cell? ⟨w.heap.size, 3, none⟩ = some (.int .i64 T.val.o) := hB2.cell 3
    have c4 : w2.cell? ⟨w.heap.size, 4, none⟩ = some (.int .i64 T.val.p) := hB2.cell 4
    have c5 : w2.cell? ⟨w.heap.size, 5, none⟩ = some (.slice T.kA T.keys.length T.kc) := hB2.cell 5
    have c6 : w2.cell? ⟨w.heap.size, 6, none⟩ = some (.slice T.cA T.kids.length T.cc) := hB2.cell 6
    have hltb := hB2.lt
    clear hb2 hbb hB2 hX2
    cases hf : (PT.bare x).tree.formed with
    | false =>
      have HF := Lib.hid hf
      clear hf
      go_wp2_with fail
      go_ret2
      exact ⟨H2.out.1, .inr (.inl ⟨HV.out, HF.out, rfl⟩)⟩
    | true =>
      have HF := Lib.hid hf
      clear hf
      obtain ⟨hfT, hsT⟩ := checkV_ok HV.out
      have hTi : InJ w2 T := HH.out.1.below H2.out.1
      have hbo : Blk ((w2.alloc (.cells #[.slice none 0 0] 50)).alloc (.cells #[.func (.func 57) #[] #[.pointer (some ⟨w.heap.size + 1, 0, none⟩), .pointer (some ⟨w2.heap.size, 0, none⟩), .pointer (some ⟨w2.heap.size + 1, 0, none⟩)]] 106)) w2.heap.size 50 #[.slice none 0 0] := (Blk.new _ _ _).alloc _
      have hbb : Below w2.heap.size w2 ((w2.alloc (.cells #[.slice none 0 0] 50)).alloc (.cells #[.func (.func 57) #[] #[.pointer (some ⟨w.heap.size + 1, 0, none⟩), .pointer (some ⟨w2.heap.size, 0, none⟩), .pointer (some ⟨w2.heap.size + 1, 0, none⟩)]] 106)) := ((Below.refl _ _).alloc (Nat.le_refl _) _).alloc (by simp) _
      have hlt2 : w.heap.size + 1 < w2.heap.size := H2.out.2.2.lt
      have hE : Env w2 x (w.heap.size + 1) w2.heap.size (w2.heap.size + 1) none 0 [] ((w2.alloc (.cells #[.slice none 0 0] 50)).alloc (.cells #[.func (.func 57) #[] #[.pointer (some ⟨w.heap.size + 1, 0, none⟩), .pointer (some ⟨w2.heap.size, 0, none⟩), .pointer (some ⟨w2.heap.size + 1, 0, none⟩)]] 106)) :=
        ⟨hbb, (H2.out.2.2.alloc _).alloc _, Blk.newer _ _ _ (by simp), hbo, World.ownsRow_nil _ _ _ _, by simp [Value.ownBlock], by intro s hs; simp at hs⟩
      have hW := walk_any x (w.heap.size + 1) w2.heap.size (w2.heap.size + 1) T w2 hTi hfT (Nat.le_refl _) (by omega) (by omega) none 0 [] none 0 [] _ hE (.inl rfl) (Nat.zero_le _) (by simp only [List.length_nil]; omega) (by simp only [List.length_nil]; omega)
      rw [PT.value_eq] at hW
      have HW := Lib.hid hW
      clear hfT hsT hTi hbo hbb hE hW
      go_wp2_with fail
      refine HW.out.mono ?_
      clear c0 c1 c2 c3 c4 c5 c6 hltb hlt2 HW
      rintro e w3 ⟨OA, oc, m, rfl, hE3, hm3, _, _⟩
      rw [List.nil_append] at hE3
      have o0 : w3.cell? ⟨w2.heap.size, 0, none⟩ = some (.slice OA m.length oc) := hE3.o.cell 0
      have HE := Lib.hid (And.intro hE3 hm3)
      clear hE3 hm3
      go_wp2_with fail
      go_ret2
      exact ⟨H2.out.1.trans (HE.out.1.bel.mono H2.out.1.size), .inr (.inr ⟨HV.out, HF.out, OA, oc, m, rfl, HE.out.2, SlAt.of_owns HE.out.1.own, HE.out.1.ins.weak (fun _ h => h.elim)⟩)⟩
  · go_wp2_with fail
    go_ret2
    exact ⟨H1.out.1, .inl ⟨by rw [HV.out]; simp, by rw [HV.out]; rfl⟩⟩
end Go.Proofs.YtljemaapicaioaaDoor
