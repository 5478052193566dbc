/- bookref3.Apply: the contract. -/
import Derived.Test.YtbfmdpgghknccaaDoorPatAll
import Derived.Test.YtbfmdpgghknccaaDoorApplyAll
import Derived.Test.YtbfmdpgghknccaaDoorTreeLike
import Derived.Deep.RegionHeld3
namespace Go.Proofs.YtbfmdpgghknccaaDoor
open Go.RowKit
set_option linter.unusedVariables false
set_option linter.unusedSimpArgs false

/-- What the reference's Apply gives. -/
def RApplyQ (w : World) (T : PT) (r : Except Int JT) (e : Ending) (w' : World) : Prop :=
  Below w.heap.size w w' ∧ ((rcheckN T.tree ≠ 0 ∧ e = .returned (.tuple #[zTree, .int .i64 (rcheckN T.tree)])) ∨
    (rcheckN T.tree = 0 ∧ match r with
      | .error n => e = .returned (.tuple #[zTree, .int .i64 n])
      | .ok u => ∃ R : PT, R.tree = u ∧ e = .returned (.tuple #[R.value, .int .i64 0]) ∧ InJ w' R))
/-- What its loop holds. -/
structure RApplyInv (w : World) (T : PT) (l : List Pa) (k : Nat) (S : PT) (wr : World) : Prop where
  le : k ≤ l.length
  box : Blk wr w.heap.size 29 #[.int .i64 S.val.k, .int .i64 S.val.n, .string S.val.s, .int .i64 S.val.o, .int .i64 S.val.p, .slice S.kA S.keys.length S.kc, .slice S.cA S.kids.length S.cc]
  res : Blk wr (w.heap.size + 1) 29 #[.int .i64 0, .int .i64 0, .string ⟨#[]⟩, .int .i64 0, .int .i64 0, .slice none 0 0, .slice none 0 0]
  bel : Below w.heap.size w wr
  lies : Lies (fun b => b = w.heap.size ∨ b = w.heap.size + 1) wr S
  caps : S.Caps
  done : appR T.tree (l.take k) = .ok S.tree
theorem RApplyInv.below {w wr w' : World} {T : PT} {l : List Pa} {k : Nat} {S : PT} (h : RApplyInv w T l k S wr) (hb : Below wr.heap.size wr w') : RApplyInv w T l k S w' :=
  ⟨h.le, h.box.below hb h.box.lt, h.res.below hb h.res.lt, h.bel.trans (hb.mono h.bel.size), h.lies.below hb (fun b _ h => h), h.caps, h.done⟩
theorem rcheck_zero {t : JT} (h : rcheckN t = 0) : t.formed = true ∧ t.size ≤ 400 := by
  unfold rcheckN at h
  split at h
  · split at h
    · rename_i h1 h2; exact ⟨h2, h1⟩
    · cases h
  · cases h
theorem patR_bad {kind : Int} {v : JV} {t : JT} {p : List St} (h : kind < 1 ∨ 3 < kind ∨ (JT.leaf v).formed = false ∨ p.any longB = true) : patR kind v t p = .error 1 := by
  unfold patR
  rw [if_pos h]
theorem patR_good {kind : Int} {v : JV} {t : JT} {p : List St} (h1 : ¬ kind < 1) (h2 : ¬ 3 < kind) (h3 : (JT.leaf v).formed = true) (h4 : p.any longB = false) : patR kind v t p = if p = [] then .error 6 else match JT.pat kind (JT.leaf v) t p with
    | none => .error 6
    | some u => if u.size ≤ 400 then .ok u else .error 4 := by
  unfold patR
  rw [if_neg (by rintro (h | h | h | h); exact h1 h; exact h2 h; rw [h3] at h; cases h; rw [h4] at h; cases h)]
  by_cases hp : p = []
  · rw [if_pos hp, if_pos hp]
  · rw [if_neg hp, if_neg hp]
    cases JT.pat kind (JT.leaf v) t p <;> rfl

set_option maxRecDepth 100000 in
set_option maxHeartbeats 8000000 in
theorem rapply_any (T : PT) (B : Option Addr) (d : Nat) (l : List Pa) (w : World) (hT : InJ w T) (hTc : T.Caps) (hB : SlAt w B (paCells l)) (hok : ∀ x ∈ l, x.Ok w) (hll : l.length ≤ maxLen) :
    Calls Tryd.prog 5 #[T.value, .slice B l.length d] w (RApplyQ w T (appR T.tree l)) := by
  have HC := Lib.hid (fun (w1 : World) (h1 : Below w.heap.size w w1) => rcheck_any T w w1 hT h1)
  have HH := Lib.hid (And.intro hT (And.intro hTc (And.intro hB hok)))
  have hl9 : l.length ≤ 9223372036854775807 := Nat.le_trans hll (by decide)
  clear hT hTc hB hok hll
  unfold PT.value PT.cells JV.cells
  go_enter Tryd.func5, Tryd.ntmps5
  go_wp2_with fail
  have hA1 := ((Below.refl w.heap.size w).alloc (Nat.le_refl _) (.cells T.cells.toArray 29)).alloc (by simp) (.cells #[.int .i64 0, .int .i64 0, .string ⟨#[]⟩, .int .i64 0, .int .i64 0, .slice none 0 0, .slice none 0 0] 29)
  refine (HC.out _ hA1).mono ?_
  clear hA1
  rintro e w1 ⟨rfl, hb1⟩
  obtain ⟨hb, hBx, hR, hs⟩ := boxes2 hb1
  have H1 := Lib.hid (And.intro hb (And.intro hBx hR))
  clear hb1 hb hBx hR HC
  obtain ⟨cv, hcv⟩ : ∃ cv, rcheckN T.tree = cv := ⟨_, rfl⟩
  rw [hcv]
  have HV := Lib.hid hcv
  by_cases hc0 : cv = 0
  · subst hc0
    clear hcv
    go_wp2_with fail
    obtain ⟨hTf, hTs⟩ := rcheck_zero HV.out
    have HFS := Lib.hid (And.intro hTf hTs)
    clear hTf hTs
    go_loopw [7] (fun iv wr => ∃ (k : Nat) (S : PT), iv = .int .i64 k ∧ RApplyInv w T l k S wr) (fun iv _ => l.length - (intOf iv).toNat)
    case atStart =>
      refine ⟨0, T, rfl, Nat.zero_le _, H1.out.2.1, H1.out.2.2, H1.out.1, fun w'' ho => HH.out.1.below (H1.out.1.trans (ho.below H1.out.1.size (fun q hq e => by omega))), HH.out.2.1, rfl⟩
    case round =>
      obtain ⟨k, S, rfl, hI⟩ := hrel
      have HI := Lib.hid hI
      by_cases hk : k < l.length
      · have hki : (k : Int) < (l.length : Int) := by omega
        obtain ⟨x, hx⟩ : ∃ x, l[k]? = some x := ⟨_, List.getElem?_eq_getElem hk⟩
        have hxm := List.mem_of_getElem? hx
        have HO := Lib.hid (HH.out.2.2.2 x hxm)
        obtain ⟨bb, ob, hBe, hBc⟩ : ∃ b o, B = some ⟨b, o, none⟩ ∧ ∀ j u, (paCells l)[j]? = some u → w.cell? ⟨b, o + j, none⟩ = some u := by
          rcases HH.out.2.2.1 with h | h
          · have := paCells_at l k x hx 0 (by omega)
            rw [h] at this
            cases this
          · exact h
        have hbe : ∀ j u, j < 7 → x.cells[j]? = some u → w.cell? ⟨bb, ob + (k * 7 + j), none⟩ = some u := fun j u hj hu => hBc _ u (by rw [paCells_at l k x hx j hj]; exact hu)
        have e0 : w.cell? ⟨bb, ob + k * 7, none⟩ = some (.int .i64 x.kind) := hbe 0 _ (by omega) rfl
        have e1 : w.cell? ⟨bb, ob + k * 7 + 1, none⟩ = some (.slice x.A x.p.length x.c) := hbe 1 _ (by omega) rfl
        have e2 : w.cell? ⟨bb, ob + k * 7 + 2, none⟩ = some (.int .i64 x.v.k) := hbe 2 _ (by omega) rfl
        have e3 : w.cell? ⟨bb, ob + k * 7 + 3, none⟩ = some (.int .i64 x.v.n) := hbe 3 _ (by omega) rfl
        have e4 : w.cell? ⟨bb, ob + k * 7 + 4, none⟩ = some (.string x.v.s) := hbe 4 _ (by omega) rfl
        have e5 : w.cell? ⟨bb, ob + k * 7 + 5, none⟩ = some (.int .i64 x.v.o) := hbe 5 _ (by omega) rfl
        have e6 : w.cell? ⟨bb, ob + k * 7 + 6, none⟩ = some (.int .i64 x.v.p) := hbe 6 _ (by omega) rfl
        have HE := Lib.hid (And.intro e0 (And.intro e1 (And.intro e2 (And.intro e3 (And.intro e4 (And.intro e5 e6))))))
        have hSf := appR_ok (l.take k) T.tree S.tree HFS.out.1 HFS.out.2 hI.done
        have hsn : appR T.tree (l.take (k + 1)) = patR x.kind x.v S.tree x.p := by
          rw [List.take_add_one, hx]
          exact appR_snoc _ _ _ _ hI.done
        have HER := Lib.hid (fun (n : Int) (hr : patR x.kind x.v S.tree x.p = .error n) => (show appR T.tree l = .error n from by rw [← List.take_append_drop (k + 1) l]; exact appR_err _ _ _ (hsn.trans hr)))
        have HS := Lib.hid (And.intro hSf (And.intro hsn hk))
        subst hBe
        clear hI hbe hSf hsn hxm hx hBc e0 e1 e2 e3 e4 e5 e6 hk
        have e0 : wr.cell? ⟨bb, ob + k * 7, none⟩ = some (.int .i64 x.kind) := cell_below HI.out.bel HE.out.1
        have e1 : wr.cell? ⟨bb, ob + k * 7 + 1, none⟩ = some (.slice x.A x.p.length x.c) := cell_below HI.out.bel HE.out.2.1
        have e2 : wr.cell? ⟨bb, ob + k * 7 + 2, none⟩ = some (.int .i64 x.v.k) := cell_below HI.out.bel HE.out.2.2.1
        have e3 : wr.cell? ⟨bb, ob + k * 7 + 3, none⟩ = some (.int .i64 x.v.n) := cell_below HI.out.bel HE.out.2.2.2.1
        have e4 : wr.cell? ⟨bb, ob + k * 7 + 4, none⟩ = some (.string x.v.s) := cell_below HI.out.bel HE.out.2.2.2.2.1
        have e5 : wr.cell? ⟨bb, ob + k * 7 + 5, none⟩ = some (.int .i64 x.v.o) := cell_below HI.out.bel HE.out.2.2.2.2.2.1
        have e6 : wr.cell? ⟨bb, ob + k * 7 + 6, none⟩ = some (.int .i64 x.v.p) := cell_below HI.out.bel HE.out.2.2.2.2.2.2
        go_wp2_with fail
        refine (rform_any (PT.bare x.v) wr (PT.bare_in wr HO.out.fit) wr (Below.refl _ _)).mono ?_
        rintro e w2 ⟨rfl, hb2⟩
        clear e0 e1 e2 e3 e4 e5 e6
        have HI2 := Lib.hid (HI.out.below hb2)
        clear hb2
        rw [PT.bare_tree]
        obtain ⟨fo, hfo⟩ : ∃ fo, (JT.leaf x.v).formed = fo := ⟨_, rfl⟩
        rw [hfo]
        have HFO := Lib.hid hfo
        clear hfo
        have e0 : w2.cell? ⟨bb, ob + k * 7, none⟩ = some (.int .i64 x.kind) := cell_below HI2.out.bel HE.out.1
        have e1 : w2.cell? ⟨bb, ob + k * 7 + 1, none⟩ = some (.slice x.A x.p.length x.c) := cell_below HI2.out.bel HE.out.2.1
        have e2 : w2.cell? ⟨bb, ob + k * 7 + 2, none⟩ = some (.int .i64 x.v.k) := cell_below HI2.out.bel HE.out.2.2.1
        have e3 : w2.cell? ⟨bb, ob + k * 7 + 3, none⟩ = some (.int .i64 x.v.n) := cell_below HI2.out.bel HE.out.2.2.2.1
        have e4 : w2.cell? ⟨bb, ob + k * 7 + 4, none⟩ = some (.string x.v.s) := cell_below HI2.out.bel HE.out.2.2.2.2.1
        have e5 : w2.cell? ⟨bb, ob + k * 7 + 5, none⟩ = some (.int .i64 x.v.o) := cell_below HI2.out.bel HE.out.2.2.2.2.2.1
        have e6 : w2.cell? ⟨bb, ob + k * 7 + 6, none⟩ = some (.int .i64 x.v.p) := cell_below HI2.out.bel HE.out.2.2.2.2.2.2
        by_cases k1 : x.kind < 1
        · have HN := Lib.hid (HER.out 1 (patR_bad (.inl k1)))
          have r0 : w2.cell? ⟨w.heap.size + 1, 0, none⟩ = some (.int .i64 0) := (HI2.out.res).cell 0
          have r1 : w2.cell? ⟨w.heap.size + 1, 1, none⟩ = some (.int .i64 0) := (HI2.out.res).cell 1
          have r2 : w2.cell? ⟨w.heap.size + 1, 2, none⟩ = some (.string ⟨#[]⟩) := (HI2.out.res).cell 2
          have r3 : w2.cell? ⟨w.heap.size + 1, 3, none⟩ = some (.int .i64 0) := (HI2.out.res).cell 3
          have r4 : w2.cell? ⟨w.heap.size + 1, 4, none⟩ = some (.int .i64 0) := (HI2.out.res).cell 4
          have r5 : w2.cell? ⟨w.heap.size + 1, 5, none⟩ = some (.slice none 0 0) := (HI2.out.res).cell 5
          have r6 : w2.cell? ⟨w.heap.size + 1, 6, none⟩ = some (.slice none 0 0) := (HI2.out.res).cell 6
          have zr := (HI2.out.res).frozen
          go_wp2_with fail
          clear r0 r1 r2 r3 r4 r5 r6
          refine bodyPost_ret (results_row_tmp Tryd.results5 _ _ (w.heap.size + 1) _ _ _ rfl (blk7 _ _ _ _ _ _ _ (HI2.out.res)) Tryd.underlying29 rfl (by kernel_rfl)) rfl ?_
          refine ⟨(HI2.out.bel).trans ((only7 w2 (w.heap.size + 1) _ _ _ _ _ _ _ 0 1 2 3 4 5 6).below (HI2.out.bel).size (fun q hq e => by omega)), .inr ⟨HV.out, ?_⟩⟩
          rw [HN.out]
          rfl
        by_cases k3 : 3 < x.kind
        · have HN := Lib.hid (HER.out 1 (patR_bad (.inr (.inl k3))))
          have r0 : w2.cell? ⟨w.heap.size + 1, 0, none⟩ = some (.int .i64 0) := (HI2.out.res).cell 0
          have r1 : w2.cell? ⟨w.heap.size + 1, 1, none⟩ = some (.int .i64 0) := (HI2.out.res).cell 1
          have r2 : w2.cell? ⟨w.heap.size + 1, 2, none⟩ = some (.string ⟨#[]⟩) := (HI2.out.res).cell 2
          have r3 : w2.cell? ⟨w.heap.size + 1, 3, none⟩ = some (.int .i64 0) := (HI2.out.res).cell 3
          have r4 : w2.cell? ⟨w.heap.size + 1, 4, none⟩ = some (.int .i64 0) := (HI2.out.res).cell 4
          have r5 : w2.cell? ⟨w.heap.size + 1, 5, none⟩ = some (.slice none 0 0) := (HI2.out.res).cell 5
          have r6 : w2.cell? ⟨w.heap.size + 1, 6, none⟩ = some (.slice none 0 0) := (HI2.out.res).cell 6
          have zr := (HI2.out.res).frozen
          go_wp2_with fail
          clear r0 r1 r2 r3 r4 r5 r6
          refine bodyPost_ret (results_row_tmp Tryd.results5 _ _ (w.heap.size + 1) _ _ _ rfl (blk7 _ _ _ _ _ _ _ (HI2.out.res)) Tryd.underlying29 rfl (by kernel_rfl)) rfl ?_
          refine ⟨(HI2.out.bel).trans ((only7 w2 (w.heap.size + 1) _ _ _ _ _ _ _ 0 1 2 3 4 5 6).below (HI2.out.bel).size (fun q hq e => by omega)), .inr ⟨HV.out, ?_⟩⟩
          rw [HN.out]
          rfl
        cases fo
        · have HN := Lib.hid (HER.out 1 (patR_bad (.inr (.inr (.inl HFO.out)))))
          have r0 : w2.cell? ⟨w.heap.size + 1, 0, none⟩ = some (.int .i64 0) := (HI2.out.res).cell 0
          have r1 : w2.cell? ⟨w.heap.size + 1, 1, none⟩ = some (.int .i64 0) := (HI2.out.res).cell 1
          have r2 : w2.cell? ⟨w.heap.size + 1, 2, none⟩ = some (.string ⟨#[]⟩) := (HI2.out.res).cell 2
          have r3 : w2.cell? ⟨w.heap.size + 1, 3, none⟩ = some (.int .i64 0) := (HI2.out.res).cell 3
          have r4 : w2.cell? ⟨w.heap.size + 1, 4, none⟩ = some (.int .i64 0) := (HI2.out.res).cell 4
          have r5 : w2.cell? ⟨w.heap.size + 1, 5, none⟩ = some (.slice none 0 0) := (HI2.out.res).cell 5
          have r6 : w2.cell? ⟨w.heap.size + 1, 6, none⟩ = some (.slice none 0 0) := (HI2.out.res).cell 6
          have zr := (HI2.out.res).frozen
          go_wp2_with fail
          clear r0 r1 r2 r3 r4 r5 r6
          refine bodyPost_ret (results_row_tmp Tryd.results5 _ _ (w.heap.size + 1) _ _ _ rfl (blk7 _ _ _ _ _ _ _ (HI2.out.res)) Tryd.underlying29 rfl (by kernel_rfl)) rfl ?_
          refine ⟨(HI2.out.bel).trans ((only7 w2 (w.heap.size + 1) _ _ _ _ _ _ _ 0 1 2 3 4 5 6).below (HI2.out.bel).size (fun q hq e => by omega)), .inr ⟨HV.out, ?_⟩⟩
          rw [HN.out]
          rfl
        have hpl9 : x.p.length ≤ 9223372036854775807 := Nat.le_trans HO.out.len (by decide)
        have HK := Lib.hid (And.intro k1 k3)
        go_wp2_with fail
        clear e0 e1 e2 e3 e4 e5 e6 k1 k3
        go_loopw [9] (fun iv wz => ∃ j : Nat, iv = .int .i64 j ∧ j ≤ x.p.length ∧ (x.p.take j).any longB = false ∧ Below w2.heap.size w2 wz) (fun iv _ => x.p.length - (intOf iv).toNat)
        case atStart => exact ⟨0, rfl, by omega, rfl, Below.refl _ _⟩
        case round =>
          obtain ⟨j, rfl, hj, hlo, hb3⟩ := hrel
          have HI3 := Lib.hid (HI2.out.below hb3)
          have HJ := Lib.hid (And.intro hlo hb3)
          clear hlo hb3
          have e0 : wr.cell? ⟨bb, ob + k * 7, none⟩ = some (.int .i64 x.kind) := cell_below HI3.out.bel HE.out.1
          have e1 : wr.cell? ⟨bb, ob + k * 7 + 1, none⟩ = some (.slice x.A x.p.length x.c) := cell_below HI3.out.bel HE.out.2.1
          have e2 : wr.cell? ⟨bb, ob + k * 7 + 2, none⟩ = some (.int .i64 x.v.k) := cell_below HI3.out.bel HE.out.2.2.1
          have e3 : wr.cell? ⟨bb, ob + k * 7 + 3, none⟩ = some (.int .i64 x.v.n) := cell_below HI3.out.bel HE.out.2.2.2.1
          have e4 : wr.cell? ⟨bb, ob + k * 7 + 4, none⟩ = some (.string x.v.s) := cell_below HI3.out.bel HE.out.2.2.2.2.1
          have e5 : wr.cell? ⟨bb, ob + k * 7 + 5, none⟩ = some (.int .i64 x.v.o) := cell_below HI3.out.bel HE.out.2.2.2.2.2.1
          have e6 : wr.cell? ⟨bb, ob + k * 7 + 6, none⟩ = some (.int .i64 x.v.p) := cell_below HI3.out.bel HE.out.2.2.2.2.2.2
          by_cases hjl : j < x.p.length
          · have hji : (j : Int) < (x.p.length : Int) := by omega
            obtain ⟨s, hs⟩ : ∃ s, x.p[j]? = some s := ⟨_, List.getElem?_eq_getElem hjl⟩
            obtain ⟨bp, op, hbp, g0, g1⟩ := (HO.out.path.below HI3.out.bel).step hs
            rw [hbp] at e1
            have HSS := Lib.hid (And.intro hs hjl)
            clear hs
            by_cases hlong : (20 : Int) < (s.key.size : Int)
            · have HN := Lib.hid (HER.out 1 (patR_bad (.inr (.inr (.inr (by
                rw [List.any_eq_true]
                exact ⟨s, List.mem_of_getElem? HSS.out.1, by unfold longB; simpa using hlong⟩))))))
              have r0 : wr.cell? ⟨w.heap.size + 1, 0, none⟩ = some (.int .i64 0) := (HI3.out.res).cell 0
              have r1 : wr.cell? ⟨w.heap.size + 1, 1, none⟩ = some (.int .i64 0) := (HI3.out.res).cell 1
              have r2 : wr.cell? ⟨w.heap.size + 1, 2, none⟩ = some (.string ⟨#[]⟩) := (HI3.out.res).cell 2
              have r3 : wr.cell? ⟨w.heap.size + 1, 3, none⟩ = some (.int .i64 0) := (HI3.out.res).cell 3
              have r4 : wr.cell? ⟨w.heap.size + 1, 4, none⟩ = some (.int .i64 0) := (HI3.out.res).cell 4
              have r5 : wr.cell? ⟨w.heap.size + 1, 5, none⟩ = some (.slice none 0 0) := (HI3.out.res).cell 5
              have r6 : wr.cell? ⟨w.heap.size + 1, 6, none⟩ = some (.slice none 0 0) := (HI3.out.res).cell 6
              have zr := (HI3.out.res).frozen
              go_wp2_with fail
              clear r0 r1 r2 r3 r4 r5 r6
              refine bodyPost_ret (results_row_tmp Tryd.results5 _ _ (w.heap.size + 1) _ _ _ rfl (blk7 _ _ _ _ _ _ _ (HI3.out.res)) Tryd.underlying29 rfl (by kernel_rfl)) rfl ?_
              refine ⟨(HI3.out.bel).trans ((only7 wr (w.heap.size + 1) _ _ _ _ _ _ _ 0 1 2 3 4 5 6).below (HI3.out.bel).size (fun q hq e => by omega)), .inr ⟨HV.out, ?_⟩⟩
              rw [HN.out]
              rfl
            · go_wp2_with fail
              go_roundw
              case rel =>
                refine ⟨j + 1, by go_num, by omega, ?_, HJ.out.2⟩
                rw [List.take_add_one, HSS.out.1, List.any_append, HJ.out.1]
                simp [longB]
                omega
              case measure => simp [intOf] <;> omega
          · have hji : ¬ (j : Int) < (x.p.length : Int) := by omega
            have hany : x.p.any longB = false := by
              have := HJ.out.1
              rwa [List.take_of_length_le (by omega)] at this
            have HP := Lib.hid (patR_good (t := S.tree) (kind := x.kind) (by have := HK.out.1; omega) (by have := HK.out.2; omega) HFO.out hany)
            have HANY := Lib.hid hany
            clear hany hj hjl
            by_cases hpe : x.p = []
            · have hp0 : ((x.p.length : Int) == 0) = true := by rw [hpe]; rfl
              have hp0' : (x.p.length : Int) = 0 := by rw [hpe]; rfl
              have HN := Lib.hid (HER.out 6 (HP.out.trans (if_pos hpe)))
              have r0 : wr.cell? ⟨w.heap.size + 1, 0, none⟩ = some (.int .i64 0) := (HI3.out.res).cell 0
              have r1 : wr.cell? ⟨w.heap.size + 1, 1, none⟩ = some (.int .i64 0) := (HI3.out.res).cell 1
              have r2 : wr.cell? ⟨w.heap.size + 1, 2, none⟩ = some (.string ⟨#[]⟩) := (HI3.out.res).cell 2
              have r3 : wr.cell? ⟨w.heap.size + 1, 3, none⟩ = some (.int .i64 0) := (HI3.out.res).cell 3
              have r4 : wr.cell? ⟨w.heap.size + 1, 4, none⟩ = some (.int .i64 0) := (HI3.out.res).cell 4
              have r5 : wr.cell? ⟨w.heap.size + 1, 5, none⟩ = some (.slice none 0 0) := (HI3.out.res).cell 5
              have r6 : wr.cell? ⟨w.heap.size + 1, 6, none⟩ = some (.slice none 0 0) := (HI3.out.res).cell 6
              have zr := (HI3.out.res).frozen
              go_wp2_with fail
              clear r0 r1 r2 r3 r4 r5 r6
              refine bodyPost_ret (results_row_tmp Tryd.results5 _ _ (w.heap.size + 1) _ _ _ rfl (blk7 _ _ _ _ _ _ _ (HI3.out.res)) Tryd.underlying29 rfl (by kernel_rfl)) rfl ?_
              refine ⟨(HI3.out.bel).trans ((only7 wr (w.heap.size + 1) _ _ _ _ _ _ _ 0 1 2 3 4 5 6).below (HI3.out.bel).size (fun q hq e => by omega)), .inr ⟨HV.out, ?_⟩⟩
              rw [HN.out]
              rfl
            · have hpn : ((x.p.length : Int) == 0) = false := by
                have := List.length_pos_iff.2 hpe
                simp
                exact hpe
              have hpi : ¬ (x.p.length : Int) = 0 := by
                have := List.length_pos_iff.2 hpe
                omega
              have hcall := fun (v1 : World) (h1 : Below wr.heap.size wr v1) (S1 : Nat → Prop) (h2 : ∀ b, S1 b → b < v1.heap.size) (h3 : ∀ b, b < wr.heap.size → S1 b → (fun b => b = w.heap.size ∨ b = w.heap.size + 1) b) => rpat_any x.kind ⟨by have := HK.out.1; omega, by have := HK.out.2; omega⟩ x.v HO.out.fit x.A x.p.length x.c x.p hpe S x.A x.c S1 v1 h2 (HI3.out.lies.below h1 h3) HI3.out.caps ((HO.out.path.below HI3.out.bel).below h1) HS.out.1.1 (Nat.le_trans HS.out.1.2 (by decide)) HO.out.cap HO.out.len (fun s hs => by
                have := List.any_eq_false.1 HANY.out s hs
                unfold longB at this
                simp at this
                simp only [maxLen]
                omega)
              rw [PT.value_eq] at hcall
              obtain ⟨pr, hpr⟩ : ∃ pr, JT.pat x.kind (JT.leaf x.v) S.tree x.p = pr := ⟨_, rfl⟩
              have hP2 := HP.out.trans (if_neg hpe)
              rw [hpr] at hcall hP2
              have HP2 := Lib.hid hP2
              have b0 : wr.cell? ⟨w.heap.size, 0, none⟩ = some (.int .i64 S.val.k) := (HI3.out.box).cell 0
              have b1 : wr.cell? ⟨w.heap.size, 1, none⟩ = some (.int .i64 S.val.n) := (HI3.out.box).cell 1
              have b2 : wr.cell? ⟨w.heap.size, 2, none⟩ = some (.string S.val.s) := (HI3.out.box).cell 2
              have b3 : wr.cell? ⟨w.heap.size, 3, none⟩ = some (.int .i64 S.val.o) := (HI3.out.box).cell 3
              have b4 : wr.cell? ⟨w.heap.size, 4, none⟩ = some (.int .i64 S.val.p) := (HI3.out.box).cell 4
              have b5 : wr.cell? ⟨w.heap.size, 5, none⟩ = some (.slice S.kA S.keys.length S.kc) := (HI3.out.box).cell 5
              have b6 : wr.cell? ⟨w.heap.size, 6, none⟩ = some (.slice S.cA S.kids.length S.cc) := (HI3.out.box).cell 6
              have HBA := Lib.hid (Below.refl wr.heap.size wr).drew
              have HBB := Lib.hid ((Below.refl wr.heap.size wr).alloc (Nat.le_refl _) (.cells #[.int .i64 0, .int .i64 0, .string ⟨#[]⟩, .int .i64 0, .int .i64 0, .slice none 0 0, .slice none 0 0] 29)).drew
              have HBZ := Lib.hid (show Blk (wr.alloc (.cells #[.int .i64 0, .int .i64 0, .string ⟨#[]⟩, .int .i64 0, .int .i64 0, .slice none 0 0, .slice none 0 0] 29)).drew wr.heap.size 29 #[.int .i64 0, .int .i64 0, .string ⟨#[]⟩, .int .i64 0, .int .i64 0, .slice none 0 0, .slice none 0 0] from Blk.new wr _ _)
              have hw1 : w.heap.size + 1 < wr.heap.size := HI3.out.res.lt
              have HCA := Lib.hid (hcall wr.drew HBA.out (fun b => b = w.heap.size ∨ b = w.heap.size + 1) (fun b hb => by
                show b < wr.heap.size
                rcases hb with hb | hb <;> omega) (fun b hb hs => hs))
              have HCB := Lib.hid (hcall (wr.alloc (.cells #[.int .i64 0, .int .i64 0, .string ⟨#[]⟩, .int .i64 0, .int .i64 0, .slice none 0 0, .slice none 0 0] 29)).drew HBB.out (fun b => (b = w.heap.size ∨ b = w.heap.size + 1) ∨ b = wr.heap.size) (fun b hb => by
                have e : (wr.alloc (.cells #[.int .i64 0, .int .i64 0, .string ⟨#[]⟩, .int .i64 0, .int .i64 0, .slice none 0 0, .slice none 0 0] 29)).drew.heap.size = wr.heap.size + 1 := by simp
                rcases hb with (hb | hb) | hb <;> omega) (fun b hb hs => by
                rcases hs with hs | hs
                · exact hs
                · omega))
              have hw0 : w.heap.size < wr.heap.size := by omega
              have hw2 : bb < wr.heap.size := cell_lt e0
              have HKS := Lib.hid (fun (w' : World) (h : Below wr.heap.size wr w') => (show w'.cell? ⟨w.heap.size, 0, none⟩ = some (.int .i64 S.val.k) ∧ w'.cell? ⟨w.heap.size, 1, none⟩ = some (.int .i64 S.val.n) ∧ w'.cell? ⟨w.heap.size, 2, none⟩ = some (.string S.val.s) ∧ w'.cell? ⟨w.heap.size, 3, none⟩ = some (.int .i64 S.val.o) ∧ w'.cell? ⟨w.heap.size, 4, none⟩ = some (.int .i64 S.val.p) ∧ w'.cell? ⟨w.heap.size, 5, none⟩ = some (.slice S.kA S.keys.length S.kc) ∧ w'.cell? ⟨w.heap.size, 6, none⟩ = some (.slice S.cA S.kids.length S.cc) ∧ w'.cell? ⟨bb, ob + k * 7, none⟩ = some (.int .i64 x.kind) ∧ w'.cell? ⟨bb, ob + k * 7 + 1, none⟩ = some (.slice x.A x.p.length x.c) ∧ w'.cell? ⟨bb, ob + k * 7 + 2, none⟩ = some (.int .i64 x.v.k) ∧ w'.cell? ⟨bb, ob + k * 7 + 3, none⟩ = some (.int .i64 x.v.n) ∧ w'.cell? ⟨bb, ob + k * 7 + 4, none⟩ = some (.string x.v.s) ∧ w'.cell? ⟨bb, ob + k * 7 + 5, none⟩ = some (.int .i64 x.v.o) ∧ w'.cell? ⟨bb, ob + k * 7 + 6, none⟩ = some (.int .i64 x.v.p) from ⟨cell_below h b0, cell_below h b1, cell_below h b2, cell_below h b3, cell_below h b4, cell_below h b5, cell_below h b6, cell_below h e0, cell_below h e1, cell_below h e2, cell_below h e3, cell_below h e4, cell_below h e5, cell_below h e6⟩))
              clear hcall hP2 hpr hpe
              cases pr with
              | none =>
                have HN := Lib.hid (HER.out 6 HP2.out)
                go_wp2_with fail
                go_region_held3 (fun w' => w'.cell? ⟨w.heap.size, 0, none⟩ = some (.int .i64 S.val.k) ∧ w'.cell? ⟨w.heap.size, 1, none⟩ = some (.int .i64 S.val.n) ∧ w'.cell? ⟨w.heap.size, 2, none⟩ = some (.string S.val.s) ∧ w'.cell? ⟨w.heap.size, 3, none⟩ = some (.int .i64 S.val.o) ∧ w'.cell? ⟨w.heap.size, 4, none⟩ = some (.int .i64 S.val.p) ∧ w'.cell? ⟨w.heap.size, 5, none⟩ = some (.slice S.kA S.keys.length S.kc) ∧ w'.cell? ⟨w.heap.size, 6, none⟩ = some (.slice S.cA S.kids.length S.cc) ∧ w'.cell? ⟨bb, ob + k * 7, none⟩ = some (.int .i64 x.kind) ∧ w'.cell? ⟨bb, ob + k * 7 + 1, none⟩ = some (.slice x.A x.p.length x.c) ∧ w'.cell? ⟨bb, ob + k * 7 + 2, none⟩ = some (.int .i64 x.v.k) ∧ w'.cell? ⟨bb, ob + k * 7 + 3, none⟩ = some (.int .i64 x.v.n) ∧ w'.cell? ⟨bb, ob + k * 7 + 4, none⟩ = some (.string x.v.s) ∧ w'.cell? ⟨bb, ob + k * 7 + 5, none⟩ = some (.int .i64 x.v.o) ∧ w'.cell? ⟨bb, ob + k * 7 + 6, none⟩ = some (.int .i64 x.v.p)) (first | (with_reducible exact HKS.out _ HBA.out) | (with_reducible exact HKS.out _ HBB.out) | (with_reducible exact HKS.out _ hbx) | (with_reducible exact HKS.out _ (hbx.alloc hbx.size _)) | (with_reducible exact HKS.out _ (hbx.trans ((only7 wq wr.heap.size _ _ _ _ _ _ _ 0 1 2 3 4 5 6).below hbx.size (fun q hq e => by omega))))) (first | (go_at_call 20; (with_reducible refine HCA.out.mono ?_); rintro e wq ⟨hb3, rfl⟩; have hbx : Below wr.heap.size wr wq := HBA.out.trans (hb3.mono HBA.out.size); clear hb3; rw [PT.value_eq]) | (go_at_call 20; (with_reducible refine HCB.out.mono ?_); rintro e wq ⟨hb3, rfl⟩; rw [PT.value_eq]; have hBg := HBZ.out.below hb3 HBZ.out.lt; have hbx : Below wr.heap.size wr wq := HBB.out.trans (hb3.mono HBB.out.size); clear hb3; have y0 : wq.cell? ⟨wr.heap.size, 0, none⟩ = some (.int .i64 0) := hBg.cell 0; have y1 : wq.cell? ⟨wr.heap.size, 1, none⟩ = some (.int .i64 0) := hBg.cell 1; have y2 : wq.cell? ⟨wr.heap.size, 2, none⟩ = some (.string ⟨#[]⟩) := hBg.cell 2; have y3 : wq.cell? ⟨wr.heap.size, 3, none⟩ = some (.int .i64 0) := hBg.cell 3; have y4 : wq.cell? ⟨wr.heap.size, 4, none⟩ = some (.int .i64 0) := hBg.cell 4; have y5 : wq.cell? ⟨wr.heap.size, 5, none⟩ = some (.slice none 0 0) := hBg.cell 5; have y6 : wq.cell? ⟨wr.heap.size, 6, none⟩ = some (.slice none 0 0) := hBg.cell 6; have zy := hBg.frozen; have HBg := Lib.hid hBg; clear hBg))
                all_goals
                  refine rq_at (fun W => Below wr.heap.size wr W) (by first | (with_reducible exact hbx.alloc hbx.size _) | (with_reducible exact hbx.trans ((only7 wq wr.heap.size _ _ _ _ _ _ _ 0 1 2 3 4 5 6).below hbx.size (fun q hq e => by omega)))) ?_
                  clear e0 e1 e2 e3 e4 e5 e6 b0 b1 b2 b3 b4 b5 b6
                  rintro W hbW
                  have HI4 := Lib.hid (HI3.out.below hbW)
                  clear hbW
                  have r0 : W.cell? ⟨w.heap.size + 1, 0, none⟩ = some (.int .i64 0) := (HI4.out.res).cell 0
                  have r1 : W.cell? ⟨w.heap.size + 1, 1, none⟩ = some (.int .i64 0) := (HI4.out.res).cell 1
                  have r2 : W.cell? ⟨w.heap.size + 1, 2, none⟩ = some (.string ⟨#[]⟩) := (HI4.out.res).cell 2
                  have r3 : W.cell? ⟨w.heap.size + 1, 3, none⟩ = some (.int .i64 0) := (HI4.out.res).cell 3
                  have r4 : W.cell? ⟨w.heap.size + 1, 4, none⟩ = some (.int .i64 0) := (HI4.out.res).cell 4
                  have r5 : W.cell? ⟨w.heap.size + 1, 5, none⟩ = some (.slice none 0 0) := (HI4.out.res).cell 5
                  have r6 : W.cell? ⟨w.heap.size + 1, 6, none⟩ = some (.slice none 0 0) := (HI4.out.res).cell 6
                  have zr := (HI4.out.res).frozen
                  go_wp2_with fail
                  clear r0 r1 r2 r3 r4 r5 r6
                  refine bodyPost_ret (results_row_tmp Tryd.results5 _ _ (w.heap.size + 1) _ _ _ rfl (blk7 _ _ _ _ _ _ _ (HI4.out.res)) Tryd.underlying29 rfl (by kernel_rfl)) rfl ?_
                  refine ⟨(HI4.out.bel).trans ((only7 W (w.heap.size + 1) _ _ _ _ _ _ _ 0 1 2 3 4 5 6).below (HI4.out.bel).size (fun q hq e => by omega)), .inr ⟨HV.out, ?_⟩⟩
                  rw [HN.out]
                  rfl
              | some u =>
                go_wp2_with fail
                go_region_held3 (fun w' => w'.cell? ⟨w.heap.size, 0, none⟩ = some (.int .i64 S.val.k) ∧ w'.cell? ⟨w.heap.size, 1, none⟩ = some (.int .i64 S.val.n) ∧ w'.cell? ⟨w.heap.size, 2, none⟩ = some (.string S.val.s) ∧ w'.cell? ⟨w.heap.size, 3, none⟩ = some (.int .i64 S.val.o) ∧ w'.cell? ⟨w.heap.size, 4, none⟩ = some (.int .i64 S.val.p) ∧ w'.cell? ⟨w.heap.size, 5, none⟩ = some (.slice S.kA S.keys.length S.kc) ∧ w'.cell? ⟨w.heap.size, 6, none⟩ = some (.slice S.cA S.kids.length S.cc) ∧ w'.cell? ⟨bb, ob + k * 7, none⟩ = some (.int .i64 x.kind) ∧ w'.cell? ⟨bb, ob + k * 7 + 1, none⟩ = some (.slice x.A x.p.length x.c) ∧ w'.cell? ⟨bb, ob + k * 7 + 2, none⟩ = some (.int .i64 x.v.k) ∧ w'.cell? ⟨bb, ob + k * 7 + 3, none⟩ = some (.int .i64 x.v.n) ∧ w'.cell? ⟨bb, ob + k * 7 + 4, none⟩ = some (.string x.v.s) ∧ w'.cell? ⟨bb, ob + k * 7 + 5, none⟩ = some (.int .i64 x.v.o) ∧ w'.cell? ⟨bb, ob + k * 7 + 6, none⟩ = some (.int .i64 x.v.p)) (first | (with_reducible exact HKS.out _ HBA.out) | (with_reducible exact HKS.out _ HBB.out) | (with_reducible exact HKS.out _ hbx) | (with_reducible exact HKS.out _ (hbx.alloc hbx.size _)) | (with_reducible exact HKS.out _ (hbx.trans ((only7 wq wr.heap.size _ _ _ _ _ _ _ 0 1 2 3 4 5 6).below hbx.size (fun q hq e => by omega))))) (first | (go_at_call 20; (with_reducible refine HCA.out.mono ?_); rintro e wq ⟨hb3, R, rfl, hR1, hR2, hR3⟩; have hbx : Below wr.heap.size wr wq := HBA.out.trans (hb3.mono HBA.out.size); clear hb3; rw [PT.value_eq]) | (go_at_call 20; (with_reducible refine HCB.out.mono ?_); rintro e wq ⟨hb3, R, rfl, hR1, hR2, hR3⟩; rw [PT.value_eq]; have hBg := HBZ.out.below hb3 HBZ.out.lt; have hbx : Below wr.heap.size wr wq := HBB.out.trans (hb3.mono HBB.out.size); clear hb3; have y0 : wq.cell? ⟨wr.heap.size, 0, none⟩ = some (.int .i64 0) := hBg.cell 0; have y1 : wq.cell? ⟨wr.heap.size, 1, none⟩ = some (.int .i64 0) := hBg.cell 1; have y2 : wq.cell? ⟨wr.heap.size, 2, none⟩ = some (.string ⟨#[]⟩) := hBg.cell 2; have y3 : wq.cell? ⟨wr.heap.size, 3, none⟩ = some (.int .i64 0) := hBg.cell 3; have y4 : wq.cell? ⟨wr.heap.size, 4, none⟩ = some (.int .i64 0) := hBg.cell 4; have y5 : wq.cell? ⟨wr.heap.size, 5, none⟩ = some (.slice none 0 0) := hBg.cell 5; have y6 : wq.cell? ⟨wr.heap.size, 6, none⟩ = some (.slice none 0 0) := hBg.cell 6; have zy := hBg.frozen; have HBg := Lib.hid hBg; clear hBg))
                all_goals
                  have hsb : ∀ b, b < wq.heap.size → (fun b => b = w.heap.size ∨ b = w.heap.size + 1) b → (fun b => (b = w.heap.size ∨ b = w.heap.size + 1) ∨ b = wr.heap.size) b := fun b _ h => .inl h
                  first
                  | (with_reducible refine rq_at (fun W => Below wr.heap.size wr W ∧ Lies (fun b => b = w.heap.size ∨ b = w.heap.size + 1) W R ∧ Blk W wq.heap.size 29 #[.int .i64 R.val.k, .int .i64 R.val.n, .string R.val.s, .int .i64 R.val.o, .int .i64 R.val.p, .slice R.kA R.keys.length R.kc, .slice R.cA R.kids.length R.cc]) ⟨hbx.alloc hbx.size _, hR2.below ((Below.refl _ _).alloc (Nat.le_refl _) _) (fun b _ h => h), Blk.new _ _ _⟩ ?_)
                  | (with_reducible refine rq_at (fun W => Below wr.heap.size wr W ∧ Lies (fun b => b = w.heap.size ∨ b = w.heap.size + 1) W R ∧ Blk W wr.heap.size 29 #[.int .i64 R.val.k, .int .i64 R.val.n, .string R.val.s, .int .i64 R.val.o, .int .i64 R.val.p, .slice R.kA R.keys.length R.kc, .slice R.cA R.kids.length R.cc]) ⟨hbx.trans ((only7 wq wr.heap.size _ _ _ _ _ _ _ 0 1 2 3 4 5 6).below hbx.size (fun q hq e => by omega)), hR2.only (only7 wq wr.heap.size _ _ _ _ _ _ _ 0 1 2 3 4 5 6) (fun b _ e => .inr e) hsb, blk7 _ _ _ _ _ _ _ HBg.out⟩ ?_)
                  clear e0 e1 e2 e3 e4 e5 e6 b0 b1 b2 b3 b4 b5 b6
                  rintro W ⟨hbW, hLW, hBW⟩
                  have HI4 := Lib.hid (HI3.out.below hbW)
                  have HW := Lib.hid (And.intro hLW (And.intro hR1 (And.intro hR3 hBW)))
                  have q0 := hBW.cell 0
                  have q1 := hBW.cell 1
                  have q2 := hBW.cell 2
                  have q3 := hBW.cell 3
                  have q4 := hBW.cell 4
                  have q5 := hBW.cell 5
                  have q6 := hBW.cell 6
                  simp at q0 q1 q2 q3 q4 q5 q6
                  clear hbW hLW hBW hR1 hR2 hR3 hbx hsb
                  have b0 : W.cell? ⟨w.heap.size, 0, none⟩ = some (.int .i64 S.val.k) := (HI4.out.box).cell 0
                  have b1 : W.cell? ⟨w.heap.size, 1, none⟩ = some (.int .i64 S.val.n) := (HI4.out.box).cell 1
                  have b2 : W.cell? ⟨w.heap.size, 2, none⟩ = some (.string S.val.s) := (HI4.out.box).cell 2
                  have b3 : W.cell? ⟨w.heap.size, 3, none⟩ = some (.int .i64 S.val.o) := (HI4.out.box).cell 3
                  have b4 : W.cell? ⟨w.heap.size, 4, none⟩ = some (.int .i64 S.val.p) := (HI4.out.box).cell 4
                  have b5 : W.cell? ⟨w.heap.size, 5, none⟩ = some (.slice S.kA S.keys.length S.kc) := (HI4.out.box).cell 5
                  have b6 : W.cell? ⟨w.heap.size, 6, none⟩ = some (.slice S.cA S.kids.length S.cc) := (HI4.out.box).cell 6
                  have zb := HI4.out.box.frozen
                  go_wp2_with fail
                  have ho := only7 W w.heap.size (.int .i64 R.val.k) (.int .i64 R.val.n) (.string R.val.s) (.int .i64 R.val.o) (.int .i64 R.val.p) (.slice R.kA R.keys.length R.kc) (.slice R.cA R.kids.length R.cc) 0 1 2 3 4 5 6
                  refine calls_at (fun W2 => Below w.heap.size w W2 ∧ Blk W2 w.heap.size 29 #[.int .i64 R.val.k, .int .i64 R.val.n, .string R.val.s, .int .i64 R.val.o, .int .i64 R.val.p, .slice R.kA R.keys.length R.kc, .slice R.cA R.kids.length R.cc] ∧ Blk W2 (w.heap.size + 1) 29 #[.int .i64 0, .int .i64 0, .string ⟨#[]⟩, .int .i64 0, .int .i64 0, .slice none 0 0, .slice none 0 0] ∧ Lies (fun b => b = w.heap.size ∨ b = w.heap.size + 1) W2 R) ⟨HI4.out.bel.trans (ho.below HI4.out.bel.size (fun q hq e => by omega)), blk7 _ _ _ _ _ _ _ HI4.out.box, HI4.out.res.only ho (by show w.heap.size + 1 ≠ w.heap.size; omega), HW.out.1.only ho (fun b _ e => .inl e) (fun b _ h => h)⟩ ?_
                  clear ho q0 q1 q2 q3 q4 q5 q6 b0 b1 b2 b3 b4 b5 b6 zb
                  rintro W2 ⟨c1, c2, c3, c4⟩
                  have hct := rcount_any R W2 c4.here 400 (by decide) W2 (Below.refl _ _)
                  rw [PT.value_eq, HW.out.2.1] at hct
                  refine hct.mono ?_
                  clear hct
                  rintro e W3 ⟨rfl, hb3⟩
                  have HX := Lib.hid (And.intro (c1.trans (hb3.mono c1.size)) (And.intro (c2.below hb3 c2.lt) (And.intro (c3.below hb3 c3.lt) (c4.below hb3 (fun b _ h => h)))))
                  clear c1 c2 c3 c4 hb3
                  obtain ⟨q, hq⟩ : ∃ q, min u.size (400 + 1) = q := ⟨_, rfl⟩
                  rw [hq]
                  by_cases hsz : u.size ≤ 400
                  · have hqn : ¬ (400 : Int) < (q : Int) := by omega
                    have HD := Lib.hid (HS.out.2.1.trans (HP2.out.trans (if_pos hsz)))
                    clear hq hsz
                    go_wp2_with fail
                    go_roundw
                    case rel => exact ⟨k + 1, R, by go_num, HS.out.2.2, HX.out.2.1, HX.out.2.2.1, HX.out.1, HX.out.2.2.2, HW.out.2.2.1, by rw [HD.out, HW.out.2.1]⟩
                    case measure => simp [intOf] <;> (have := HS.out.2.2; omega)
                  · have hqn : (400 : Int) < (q : Int) := by omega
                    have HN := Lib.hid (HER.out 4 (HP2.out.trans (if_neg hsz)))
                    clear hq hsz
                    have r0 : W3.cell? ⟨w.heap.size + 1, 0, none⟩ = some (.int .i64 0) := (HX.out.2.2.1).cell 0
                    have r1 : W3.cell? ⟨w.heap.size + 1, 1, none⟩ = some (.int .i64 0) := (HX.out.2.2.1).cell 1
                    have r2 : W3.cell? ⟨w.heap.size + 1, 2, none⟩ = some (.string ⟨#[]⟩) := (HX.out.2.2.1).cell 2
                    have r3 : W3.cell? ⟨w.heap.size + 1, 3, none⟩ = some (.int .i64 0) := (HX.out.2.2.1).cell 3
                    have r4 : W3.cell? ⟨w.heap.size + 1, 4, none⟩ = some (.int .i64 0) := (HX.out.2.2.1).cell 4
                    have r5 : W3.cell? ⟨w.heap.size + 1, 5, none⟩ = some (.slice none 0 0) := (HX.out.2.2.1).cell 5
                    have r6 : W3.cell? ⟨w.heap.size + 1, 6, none⟩ = some (.slice none 0 0) := (HX.out.2.2.1).cell 6
                    have zr := (HX.out.2.2.1).frozen
                    go_wp2_with fail
                    clear r0 r1 r2 r3 r4 r5 r6
                    refine bodyPost_ret (results_row_tmp Tryd.results5 _ _ (w.heap.size + 1) _ _ _ rfl (blk7 _ _ _ _ _ _ _ (HX.out.2.2.1)) Tryd.underlying29 rfl (by kernel_rfl)) rfl ?_
                    refine ⟨(HX.out.1).trans ((only7 W3 (w.heap.size + 1) _ _ _ _ _ _ _ 0 1 2 3 4 5 6).below (HX.out.1).size (fun q hq e => by omega)), .inr ⟨HV.out, ?_⟩⟩
                    rw [HN.out]
                    rfl
      · have hki : ¬ (k : Int) < (l.length : Int) := by omega
        have hk1 : k = l.length := by have := hI.le; omega
        have HK1 := Lib.hid hk1
        clear hI hk1
        have b0 : wr.cell? ⟨w.heap.size, 0, none⟩ = some (.int .i64 S.val.k) := (HI.out.box).cell 0
        have b1 : wr.cell? ⟨w.heap.size, 1, none⟩ = some (.int .i64 S.val.n) := (HI.out.box).cell 1
        have b2 : wr.cell? ⟨w.heap.size, 2, none⟩ = some (.string S.val.s) := (HI.out.box).cell 2
        have b3 : wr.cell? ⟨w.heap.size, 3, none⟩ = some (.int .i64 S.val.o) := (HI.out.box).cell 3
        have b4 : wr.cell? ⟨w.heap.size, 4, none⟩ = some (.int .i64 S.val.p) := (HI.out.box).cell 4
        have b5 : wr.cell? ⟨w.heap.size, 5, none⟩ = some (.slice S.kA S.keys.length S.kc) := (HI.out.box).cell 5
        have b6 : wr.cell? ⟨w.heap.size, 6, none⟩ = some (.slice S.cA S.kids.length S.cc) := (HI.out.box).cell 6
        have r0 : wr.cell? ⟨w.heap.size + 1, 0, none⟩ = some (.int .i64 0) := (HI.out.res).cell 0
        have r1 : wr.cell? ⟨w.heap.size + 1, 1, none⟩ = some (.int .i64 0) := (HI.out.res).cell 1
        have r2 : wr.cell? ⟨w.heap.size + 1, 2, none⟩ = some (.string ⟨#[]⟩) := (HI.out.res).cell 2
        have r3 : wr.cell? ⟨w.heap.size + 1, 3, none⟩ = some (.int .i64 0) := (HI.out.res).cell 3
        have r4 : wr.cell? ⟨w.heap.size + 1, 4, none⟩ = some (.int .i64 0) := (HI.out.res).cell 4
        have r5 : wr.cell? ⟨w.heap.size + 1, 5, none⟩ = some (.slice none 0 0) := (HI.out.res).cell 5
        have r6 : wr.cell? ⟨w.heap.size + 1, 6, none⟩ = some (.slice none 0 0) := (HI.out.res).cell 6
        have zr := HI.out.res.frozen
        go_wp2_with fail
        clear b0 b1 b2 b3 b4 b5 b6 r0 r1 r2 r3 r4 r5 r6
        refine bodyPost_ret (results_row_tmp Tryd.results5 _ _ (w.heap.size + 1) _ _ _ rfl (blk7 _ _ _ _ _ _ _ HI.out.res) Tryd.underlying29 rfl (by kernel_rfl)) rfl ?_
        have ho := only7 wr (w.heap.size + 1) (.int .i64 S.val.k) (.int .i64 S.val.n) (.string S.val.s) (.int .i64 S.val.o) (.int .i64 S.val.p) (.slice S.kA S.keys.length S.kc) (.slice S.cA S.kids.length S.cc) 0 1 2 3 4 5 6
        refine ⟨HI.out.bel.trans (ho.below HI.out.bel.size (fun q hq e => by omega)), .inr ⟨HV.out, ?_⟩⟩
        have hdn := HI.out.done
        rw [HK1.out, List.take_of_length_le (Nat.le_refl _)] at hdn
        rw [hdn]
        exact ⟨S, rfl, by rw [PT.value_eq]; rfl, HI.out.lies _ (ho.mono (fun b _ e => .inr e))⟩
  · clear hcv
    have r0 : w1.cell? ⟨w.heap.size + 1, 0, none⟩ = some (.int .i64 0) := (H1.out.2.2).cell 0
    have r1 : w1.cell? ⟨w.heap.size + 1, 1, none⟩ = some (.int .i64 0) := (H1.out.2.2).cell 1
    have r2 : w1.cell? ⟨w.heap.size + 1, 2, none⟩ = some (.string ⟨#[]⟩) := (H1.out.2.2).cell 2
    have r3 : w1.cell? ⟨w.heap.size + 1, 3, none⟩ = some (.int .i64 0) := (H1.out.2.2).cell 3
    have r4 : w1.cell? ⟨w.heap.size + 1, 4, none⟩ = some (.int .i64 0) := (H1.out.2.2).cell 4
    have r5 : w1.cell? ⟨w.heap.size + 1, 5, none⟩ = some (.slice none 0 0) := (H1.out.2.2).cell 5
    have r6 : w1.cell? ⟨w.heap.size + 1, 6, none⟩ = some (.slice none 0 0) := (H1.out.2.2).cell 6
    have zr := H1.out.2.2.frozen
    have hc0' : (cv != 0) = true := by simpa using hc0
    go_wp2_with fail
    clear r0 r1 r2 r3 r4 r5 r6
    refine bodyPost_ret (results_row_tmp Tryd.results5 _ _ (w.heap.size + 1) _ _ _ rfl (blk7 _ _ _ _ _ _ _ H1.out.2.2) Tryd.underlying29 rfl (by kernel_rfl)) rfl ?_
    exact ⟨H1.out.1.trans ((only7 w1 (w.heap.size + 1) _ _ _ _ _ _ _ 0 1 2 3 4 5 6).below H1.out.1.size (fun q hq e => by omega)), .inl ⟨by rw [HV.out]; exact hc0, by rw [HV.out]; rfl⟩⟩
end Go.Proofs.YtbfmdpgghknccaaDoor
