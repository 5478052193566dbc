/- JsonPaths, Get. -/
import Derived.Test.YtmkebfclaehneaaDoorBg28
import Derived.Test.YtmkebfclaehneaaDoorBg31
import Derived.Laws.EntriesVeiled
/- json.Paths: the contract. -/
namespace Go.Proofs.YtmkebfclaehneaaDoor
open Go.RowKit
set_option linter.unusedVariables false
set_option linter.unusedSimpArgs false

/-- What Paths gives. -/
def PathsQ (w : World) (T : PT) (x : JV) (e : Ending) (w' : World) : Prop :=
  Below w.heap.size w w' ∧ ((checkV T.tree ≠ .nilIface ∧ e = .returned (.tuple #[.slice none 0 0, checkV T.tree])) ∨
    (checkV T.tree = .nilIface ∧ (PT.bare x).tree.formed = false ∧ e = .returned (.tuple #[.slice none 0 0, .iface 44 (.int .i64 1)])) ∨
    (checkV T.tree = .nilIface ∧ (PT.bare x).tree.formed = true ∧ ∃ OA oc l, e = .returned (.tuple #[.slice OA (List.length l) oc, .nilIface]) ∧ List.map SP.p l = T.tree.paths x [] ∧ SlAt w' OA (List.map SP.cell l) ∧ PathsIn w' (fun _ => False) l))

set_option maxRecDepth 100000 in
set_option maxHeartbeats 4000000 in
theorem paths_any (T : PT) (x : JV) (w : World) (hT : InJ w T) (hx : x.Fit) :
    Calls Tryd.prog 7 #[T.value, .agg #[.int .i64 x.k, .int .i64 x.n, .string x.s, .int .i64 x.o, .int .i64 x.p]] w (PathsQ w T x) := by
  have HH := Lib.hid (And.intro hT hx)
  clear hT hx
  rw [PT.value_eq]
  go_enter Tryd.func7, Tryd.ntmps7
  go_wp2_with fail
  refine (check_any T w _ HH.out.1 (((Below.refl _ _).alloc (Nat.le_refl _) _).alloc (by simp) _)).mono ?_
  rintro e w1 ⟨rfl, hb1⟩
  obtain ⟨hb, hB, hX, hs⟩ := boxes2 hb1
  have H1 := Lib.hid (And.intro hb (And.intro hB (And.intro hX hs)))
  have x0 : w1.cell? ⟨w.heap.size + 1, 0, none⟩ = some (.int .i64 x.k) := hX.cell 0
  have x1 : w1.cell? ⟨w.heap.size + 1, 1, none⟩ = some (.int .i64 x.n) := hX.cell 1
  have x2 : w1.cell? ⟨w.heap.size + 1, 2, none⟩ = some (.string x.s) := hX.cell 2
  have x3 : w1.cell? ⟨w.heap.size + 1, 3, none⟩ = some (.int .i64 x.o) := hX.cell 3
  have x4 : w1.cell? ⟨w.heap.size + 1, 4, none⟩ = some (.int .i64 x.p) := hX.cell 4
  have hcv := checkV_cases T.tree
  obtain ⟨cv, hcv'⟩ : ∃ cv, checkV T.tree = cv := ⟨_, rfl⟩
  rw [hcv'] at hcv ⊢
  have HV := Lib.hid hcv'
  clear hcv' hb1 hb hB hX hs
  rcases hcv with rfl | ⟨n, rfl⟩
  · go_wp2_with fail
    have hfm := form_any (PT.bare x) w1 (PT.bare_in w1 HH.out.2) w1 (Below.refl _ _)
    have HFM := Lib.hid hfm
    clear hfm
    refine HFM.out.mono ?_
    clear x0 x1 x2 x3 x4 HFM
    rintro e w2 ⟨rfl, hb2⟩
    have hbb := H1.out.1.trans (hb2.mono H1.out.1.size)
    have hB2 := H1.out.2.1.below hb2 H1.out.2.1.lt
    have hX2 := H1.out.2.2.1.below hb2 H1.out.2.2.1.lt
    have H2 := Lib.hid (And.intro hbb (And.intro hB2 hX2))
    have c0 : w2.cell? ⟨w.heap.size, 0, none⟩ = some (.int .i64 T.val.k) := hB2.cell 0
    have c1 : w2.cell? ⟨w.heap.size, 1, none⟩ = some (.int .i64 T.val.n) := hB2.cell 1
    have c2 : w2.cell? ⟨w.heap.size, 2, none⟩ = some (.string T.val.s) := hB2.cell 2
    have c3 : w2.cell? ⟨w.heap.size, 3, none⟩ = some (.int .i64 T.val.o) := hB2.cell 3
    have c4 : w2.cell? ⟨w.heap.size, 4, none⟩ = some (.int .i64 T.val.p) := hB2.cell 4
    have c5 : w2.cell? ⟨w.heap.size, 5, none⟩ = some (.slice T.kA T.keys.length T.kc) := hB2.cell 5
    have c6 : w2.cell? ⟨w.heap.size, 6, none⟩ = some (.slice T.cA T.kids.length T.cc) := hB2.cell 6
    have hltb := hB2.lt
    clear hb2 hbb hB2 hX2
    cases hf : (PT.bare x).tree.formed with
    | false =>
      have HF := Lib.hid hf
      clear hf
      go_wp2_with fail
      go_ret2
      exact ⟨H2.out.1, .inr (.inl ⟨HV.out, HF.out, rfl⟩)⟩
    | true =>
      have HF := Lib.hid hf
      clear hf
      obtain ⟨hfT, hsT⟩ := checkV_ok HV.out
      have hTi : InJ w2 T := HH.out.1.below H2.out.1
      have hbo : Blk ((w2.alloc (.cells #[.slice none 0 0] 37)).alloc (.cells #[.func (.func 16) #[] #[.pointer (some ⟨w.heap.size + 1, 0, none⟩), .pointer (some ⟨w2.heap.size, 0, none⟩), .pointer (some ⟨w2.heap.size + 1, 0, none⟩)]] 61)) w2.heap.size 37 #[.slice none 0 0] := (Blk.new _ _ _).alloc _
      have hbb : Below w2.heap.size w2 ((w2.alloc (.cells #[.slice none 0 0] 37)).alloc (.cells #[.func (.func 16) #[] #[.pointer (some ⟨w.heap.size + 1, 0, none⟩), .pointer (some ⟨w2.heap.size, 0, none⟩), .pointer (some ⟨w2.heap.size + 1, 0, none⟩)]] 61)) := ((Below.refl _ _).alloc (Nat.le_refl _) _).alloc (by simp) _
      have hlt2 : w.heap.size + 1 < w2.heap.size := H2.out.2.2.lt
      have hE : Env w2 x (w.heap.size + 1) w2.heap.size (w2.heap.size + 1) none 0 [] ((w2.alloc (.cells #[.slice none 0 0] 37)).alloc (.cells #[.func (.func 16) #[] #[.pointer (some ⟨w.heap.size + 1, 0, none⟩), .pointer (some ⟨w2.heap.size, 0, none⟩), .pointer (some ⟨w2.heap.size + 1, 0, none⟩)]] 61)) :=
        ⟨hbb, (H2.out.2.2.alloc _).alloc _, Blk.newer _ _ _ (by simp), hbo, World.ownsRow_nil _ _ _ _, by simp [Value.ownBlock], by intro s hs; simp at hs⟩
      have hW := walk_any x (w.heap.size + 1) w2.heap.size (w2.heap.size + 1) T w2 hTi hfT (Nat.le_refl _) (by omega) (by omega) none 0 [] none 0 [] _ hE (.inl rfl) (Nat.zero_le _) (by simp only [List.length_nil]; omega) (by simp only [List.length_nil]; omega)
      rw [PT.value_eq] at hW
      have HW := Lib.hid hW
      clear hfT hsT hTi hbo hbb hE hW
      go_wp2_with fail
      refine HW.out.mono ?_
      clear c0 c1 c2 c3 c4 c5 c6 hltb hlt2 HW
      rintro e w3 ⟨OA, oc, m, rfl, hE3, hm3, _, _⟩
      rw [List.nil_append] at hE3
      have o0 : w3.cell? ⟨w2.heap.size, 0, none⟩ = some (.slice OA m.length oc) := hE3.o.cell 0
      have HE := Lib.hid (And.intro hE3 hm3)
      clear hE3 hm3
      go_wp2_with fail
      go_ret2
      exact ⟨H2.out.1.trans (HE.out.1.bel.mono H2.out.1.size), .inr (.inr ⟨HV.out, HF.out, OA, oc, m, rfl, HE.out.2, SlAt.of_owns HE.out.1.own, HE.out.1.ins.weak (fun _ h => h.elim)⟩)⟩
  · go_wp2_with fail
    go_ret2
    exact ⟨H1.out.1, .inl ⟨by rw [HV.out]; simp, by rw [HV.out]; rfl⟩⟩
end Go.Proofs.YtmkebfclaehneaaDoor
/- json.Get: the contract. -/
namespace Go.Proofs.YtmkebfclaehneaaDoor
open Go.RowKit
set_option linter.unusedVariables false
set_option linter.unusedSimpArgs false

set_option maxRecDepth 100000 in
set_option maxHeartbeats 2000000 in
theorem get_any (T : PT) (A : Option Addr) (c : Nat) (p : List St) (w : World) (hT : InJ w T) (hA : SlAt w A (stCells p)) (hl : p.length ≤ maxLen) :
    Calls Tryd.prog 8 #[T.value, .slice A p.length c] w (GetQ w T p) := by
  have HC := Lib.hid (fun (w1 : World) (h1 : Below w.heap.size w w1) => check_any T w w1 hT h1)
  have HH := Lib.hid (And.intro hT (And.intro hA hl))
  clear hT hA hl
  unfold PT.value PT.cells JV.cells
  go_enter Tryd.func8, Tryd.ntmps8
  go_wp2_with fail
  have hA1 := ((Below.refl w.heap.size w).alloc (Nat.le_refl _) (.cells T.cells.toArray 29)).alloc (by simp) (.cells #[.int .i64 0, .int .i64 0, .string ⟨#[]⟩, .int .i64 0, .int .i64 0, .slice none 0 0, .slice none 0 0] 29)
  refine (HC.out _ hA1).mono ?_
  clear hA1
  rintro e w1 ⟨rfl, hb1⟩
  obtain ⟨hb, hB, hR, hs⟩ := boxes2 hb1
  have H1 := Lib.hid (And.intro hb (And.intro hB hR))
  clear hb1 hb hB hR HC
  have r0 : w1.cell? ⟨w.heap.size + 1, 0, none⟩ = some (.int .i64 0) := H1.out.2.2.cell 0
  have r1 : w1.cell? ⟨w.heap.size + 1, 1, none⟩ = some (.int .i64 0) := H1.out.2.2.cell 1
  have r2 : w1.cell? ⟨w.heap.size + 1, 2, none⟩ = some (.string ⟨#[]⟩) := H1.out.2.2.cell 2
  have r3 : w1.cell? ⟨w.heap.size + 1, 3, none⟩ = some (.int .i64 0) := H1.out.2.2.cell 3
  have r4 : w1.cell? ⟨w.heap.size + 1, 4, none⟩ = some (.int .i64 0) := H1.out.2.2.cell 4
  have r5 : w1.cell? ⟨w.heap.size + 1, 5, none⟩ = some (.slice none 0 0) := H1.out.2.2.cell 5
  have r6 : w1.cell? ⟨w.heap.size + 1, 6, none⟩ = some (.slice none 0 0) := H1.out.2.2.cell 6
  have zr := H1.out.2.2.frozen
  have hcv := checkV_cases T.tree
  obtain ⟨cv, hcv'⟩ : ∃ cv, checkV T.tree = cv := ⟨_, rfl⟩
  rw [hcv'] at hcv ⊢
  have HV := Lib.hid hcv'
  clear hcv'
  rcases hcv with rfl | ⟨n, rfl⟩
  · clear r0 r1 r2 r3 r4 r5 r6 zr
    go_wp2_with fail
    obtain ⟨hfm, hsz⟩ := checkV_ok HV.out
    have HFS := Lib.hid (And.intro hfm hsz)
    have HCL := Lib.hid (fun (X : PT) (w2 : World) (h1 : Below w.heap.size w w2) (hx : InJ w X) (h2 : X.tree.formed = true) (h3 : X.tree.size ≤ 400) => clone_any X w hx h2 h3 w2 h1)
    refine (find_any T w.heap.size A c p w1 (AtP.of_blk H1.out.2.1) (HH.out.1.below H1.out.1) hfm hsz (HH.out.2.1.below H1.out.1) HH.out.2.2).mono ?_
    clear hfm hsz
    rintro e w2 ⟨hb2, hr⟩
    have hbb := H1.out.1.trans (hb2.mono H1.out.1.size)
    have hR2 := H1.out.2.2.below hb2 H1.out.2.2.lt
    have hs2 := Nat.le_trans hs hb2.size
    have H2 := Lib.hid (And.intro hbb hR2)
    clear hbb hR2 hb2 H1
    have zr := H2.out.2.frozen
    rcases hr with ⟨is, X, b, o, rfl, hL, _, hP⟩ | ⟨rfl, hn, _⟩
    · have q0 : w2.cell? ⟨b, o, none⟩ = some (.int .i64 X.val.k) := hP 0 (by omega)
      have q1 : w2.cell? ⟨b, o + 1, none⟩ = some (.int .i64 X.val.n) := hP 1 (by omega)
      have q2 : w2.cell? ⟨b, o + 2, none⟩ = some (.string X.val.s) := hP 2 (by omega)
      have q3 : w2.cell? ⟨b, o + 3, none⟩ = some (.int .i64 X.val.o) := hP 3 (by omega)
      have q4 : w2.cell? ⟨b, o + 4, none⟩ = some (.int .i64 X.val.p) := hP 4 (by omega)
      have q5 : w2.cell? ⟨b, o + 5, none⟩ = some (.slice X.kA X.keys.length X.kc) := hP 5 (by omega)
      have q6 : w2.cell? ⟨b, o + 6, none⟩ = some (.slice X.cA X.kids.length X.cc) := hP 6 (by omega)
      have HX := Lib.hid (And.intro (HCL.out X w2 H2.out.1 (hL.inJ HH.out.1) (hL.formed HFS.out.1) (Nat.le_trans hL.size HFS.out.2)) hL)
      clear hL hP
      go_wp2_with fail
      clear q0 q1 q2 q3 q4 q5 q6 zr
      refine HX.out.1.mono ?_
      rintro e w3 ⟨T', rfl, hb3, ho3, hn3, hl3, ht3⟩
      have hR3 := H2.out.2.below hb3 H2.out.2.lt
      have hB3 := H2.out.1.trans (hb3.mono H2.out.1.size)
      have hl3' : ∀ b ∈ T'.own, w.heap.size + 2 ≤ b := fun b hb => Nat.le_trans hs2 (hl3 b hb)
      have H3 := Lib.hid (And.intro hB3 (And.intro hR3 (And.intro ho3 (And.intro hn3 (And.intro hl3' ht3)))))
      clear hb3 ho3 hn3 hl3 ht3 hR3 hB3 hl3'
      have zr := H3.out.2.1.frozen
      have r0 : w3.cell? ⟨w.heap.size + 1, 0, none⟩ = some (.int .i64 0) := H3.out.2.1.cell 0
      have r1 : w3.cell? ⟨w.heap.size + 1, 1, none⟩ = some (.int .i64 0) := H3.out.2.1.cell 1
      have r2 : w3.cell? ⟨w.heap.size + 1, 2, none⟩ = some (.string ⟨#[]⟩) := H3.out.2.1.cell 2
      have r3 : w3.cell? ⟨w.heap.size + 1, 3, none⟩ = some (.int .i64 0) := H3.out.2.1.cell 3
      have r4 : w3.cell? ⟨w.heap.size + 1, 4, none⟩ = some (.int .i64 0) := H3.out.2.1.cell 4
      have r5 : w3.cell? ⟨w.heap.size + 1, 5, none⟩ = some (.slice none 0 0) := H3.out.2.1.cell 5
      have r6 : w3.cell? ⟨w.heap.size + 1, 6, none⟩ = some (.slice none 0 0) := H3.out.2.1.cell 6
      rw [PT.value_eq]
      go_wp2_with fail
      clear r0 r1 r2 r3 r4 r5 r6
      refine bodyPost_ret (results_row_tmp Tryd.results8 _ _ (w.heap.size + 1) _ _ _ rfl (blk7 _ _ _ _ _ _ _ H3.out.2.1) Tryd.underlying29 rfl (by kernel_rfl)) rfl ?_
      have ho := only7 w3 (w.heap.size + 1) (.int .i64 T'.val.k) (.int .i64 T'.val.n) (.string T'.val.s) (.int .i64 T'.val.o) (.int .i64 T'.val.p) (.slice T'.kA T'.keys.length T'.kc) (.slice T'.cA T'.kids.length T'.cc) 0 1 2 3 4 5 6
      refine ⟨H3.out.1.trans (ho.below H3.out.1.size (fun q hq e => by omega)), .inr ⟨HV.out, .inr ⟨T', ?_, rfl, H3.out.2.2.1.only ho ?_, H3.out.2.2.2.1, ?_⟩⟩⟩
      · have := Lead.get [] HX.out.2
        rw [List.append_nil] at this
        rw [this, H3.out.2.2.2.2.2]
        rfl
      · intro b hb e
        have := H3.out.2.2.2.2.1 b hb
        omega
      · intro b hb
        have := H3.out.2.2.2.2.1 b hb
        omega
    · have HN := Lib.hid hn
      clear hn
      have r0 : w2.cell? ⟨w.heap.size + 1, 0, none⟩ = some (.int .i64 0) := H2.out.2.cell 0
      have r1 : w2.cell? ⟨w.heap.size + 1, 1, none⟩ = some (.int .i64 0) := H2.out.2.cell 1
      have r2 : w2.cell? ⟨w.heap.size + 1, 2, none⟩ = some (.string ⟨#[]⟩) := H2.out.2.cell 2
      have r3 : w2.cell? ⟨w.heap.size + 1, 3, none⟩ = some (.int .i64 0) := H2.out.2.cell 3
      have r4 : w2.cell? ⟨w.heap.size + 1, 4, none⟩ = some (.int .i64 0) := H2.out.2.cell 4
      have r5 : w2.cell? ⟨w.heap.size + 1, 5, none⟩ = some (.slice none 0 0) := H2.out.2.cell 5
      have r6 : w2.cell? ⟨w.heap.size + 1, 6, none⟩ = some (.slice none 0 0) := H2.out.2.cell 6
      go_wp2_with fail
      clear r0 r1 r2 r3 r4 r5 r6
      refine bodyPost_ret (results_row_tmp Tryd.results8 _ _ (w.heap.size + 1) _ _ _ rfl (blk7 _ _ _ _ _ _ _ H2.out.2) Tryd.underlying29 rfl (by kernel_rfl)) rfl ?_
      exact ⟨H2.out.1.trans ((only7 w2 (w.heap.size + 1) _ _ _ _ _ _ _ _ _ _ _ _ _ _).below H2.out.1.size (fun q hq e => by omega)), .inr ⟨HV.out, .inl ⟨HN.out, rfl⟩⟩⟩
  · go_wp2_with fail
    clear r0 r1 r2 r3 r4 r5 r6
    refine bodyPost_ret (results_row_tmp Tryd.results8 _ _ (w.heap.size + 1) _ _ _ rfl (blk7 _ _ _ _ _ _ _ H1.out.2.2) Tryd.underlying29 rfl (by kernel_rfl)) rfl ?_
    refine ⟨H1.out.1.trans ((only7 w1 (w.heap.size + 1) _ _ _ _ _ _ _ _ _ _ _ _ _ _).below H1.out.1.size (fun q hq e => by omega)), .inl ⟨by rw [HV.out]; simp, by rw [HV.out]; rfl⟩⟩
end Go.Proofs.YtmkebfclaehneaaDoor
