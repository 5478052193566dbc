/- json.Apply of one patch that sets: the contract. -/
import Derived.Test.YthbjlbnaoaolbaaPatchSet
import Derived.Test.YthbjlbnaoaolbaaGet
namespace Go.Proofs.Ythbjlbnaoaolbaa
open Go.RowKit
set_option linter.unusedVariables false
set_option linter.unusedSimpArgs false

theorem patch_one (b0 : Nat) (T : PT) (A : Option Addr) (c : Nat) (v : JV) (hv : v.Fit) (p : List St) (w : World) (hO : OwnedT 9 29 w b0 T) (hf : T.tree.formed = true) (hs : T.tree.size ≤ 400) (hA : SlAt w A (stCells p)) (hl : p.length ≤ maxLen) (hcap : p.length ≤ c) :
    Calls Try.prog 18 #[.pointer (some ⟨b0, 0, none⟩), patchV 1 A p.length c v] w (PatchQ w T b0 (patR 1 v T.tree p)) := by
  by_cases h : (JT.leaf v).formed = false ∨ p.any longB = true
  · refine (patch_range b0 A p.length c v hv p rfl w hA hl h).mono ?_
    rintro e w' ⟨rfl, hb⟩
    refine ⟨Only.of_below hb, ?_⟩
    have : patR 1 v T.tree p = .error 1 := by
      unfold patR
      rw [if_pos (.inr (.inr h))]
    rw [this]
  · have h1 : (JT.leaf v).formed = true := by
      cases hx : (JT.leaf v).formed with
      | true => rfl
      | false => exact absurd (.inl hx) h
    have h2 : p.any longB = false := by
      cases hx : p.any longB with
      | false => rfl
      | true => exact absurd (.inr hx) h
    exact patch_set b0 T A c v hv p w hO hf hs hA hl hcap h1 h2

/-- The cells of a patch. -/
def patchCells (kind : Int) (A : Option Addr) (n c : Nat) (v : JV) : List Value := [.int .i64 kind, .slice A n c, .int .i64 v.k, .int .i64 v.n, .string v.s, .int .i64 v.o, .int .i64 v.p]

/-- What Apply's loop holds. -/
structure Apply1Inv (w : World) (T : PT) (v : JV) (p : List St) (k : Nat) (S : PT) (wr : World) : Prop where
  le : k ≤ 1
  own : OwnedT 9 29 wr w.heap.size S
  low : ∀ r ∈ S.own, w.heap.size + 2 ≤ r
  res : Blk wr (w.heap.size + 1) 29 #[.int .i64 0, .int .i64 0, .string ⟨#[]⟩, .int .i64 0, .int .i64 0, .slice none 0 0, .slice none 0 0]
  bel : Below w.heap.size w wr
  same : k = 0 → S.tree = T.tree
  done : k = 1 → patR 1 v T.tree p = .ok S.tree
/-- What Apply gives. -/
def ApplyQ (w : World) (T : PT) (r : Except Int JT) (e : Ending) (w' : World) : Prop :=
  Below w.heap.size w w' ∧ ((checkV T.tree ≠ .nilIface ∧ e = .returned (.tuple #[zTree, checkV T.tree])) ∨
    (checkV T.tree = .nilIface ∧ match r with
      | .error n => e = .returned (.tuple #[zTree, errV n])
      | .ok u => ∃ T' : PT, T'.tree = u ∧ e = .returned (.tuple #[T'.value, .nilIface]) ∧ OwnJ 9 29 w' T' ∧ T'.own.Nodup ∧ ∀ b ∈ T'.own, w.heap.size ≤ b))

set_option maxRecDepth 100000 in
set_option maxHeartbeats 4000000 in
theorem apply_set1 (T : PT) (A B : Option Addr) (c d : Nat) (v : JV) (hv : v.Fit) (p : List St) (w : World) (hT : InJ w T) (hA : SlAt w A (stCells p)) (hl : p.length ≤ maxLen) (hcap : p.length ≤ c) (hB : SlAt w B (patchCells 1 A p.length c v)) :
    Calls Try.prog 5 #[T.value, .slice B 1 d] w (ApplyQ w T (patR 1 v T.tree p)) := by
  have HC := Lib.hid (fun (w1 : World) (h1 : Below w.heap.size w w1) => check_any T w w1 hT h1)
  have HCL := Lib.hid (fun (w1 : World) (h1 : Below w.heap.size w w1) (h2 : T.tree.formed = true) (h3 : T.tree.size ≤ 400) => clone_any T w hT h2 h3 w1 h1)
  obtain ⟨bb, ob, rfl, hBc⟩ : ∃ b o, B = some ⟨b, o, none⟩ ∧ ∀ j u, (patchCells 1 A p.length c v)[j]? = some u → w.cell? ⟨b, o + j, none⟩ = some u := by
    rcases hB with h | h
    · simp [patchCells] at h
    · exact h
  have HH := Lib.hid (And.intro hT (And.intro hA (And.intro hl (And.intro hcap hBc))))
  clear hT hA hl hcap hB hBc
  unfold PT.value PT.cells JV.cells
  go_enter Try.func5, Try.ntmps5
  go_wp2_with fail
  have hA1 := ((Below.refl w.heap.size w).alloc (Nat.le_refl _) (.cells T.cells.toArray 29)).alloc (by simp) (.cells #[.int .i64 0, .int .i64 0, .string ⟨#[]⟩, .int .i64 0, .int .i64 0, .slice none 0 0, .slice none 0 0] 29)
  refine (HC.out _ hA1).mono ?_
  clear hA1
  rintro e w1 ⟨rfl, hb1⟩
  obtain ⟨hb, hB, hR, hs⟩ := boxes2 hb1
  have H1 := Lib.hid (And.intro hb (And.intro hB hR))
  clear hb1 hb hB hR HC
  have hcv := checkV_cases T.tree
  obtain ⟨cv, hcv'⟩ : ∃ cv, checkV T.tree = cv := ⟨_, rfl⟩
  rw [hcv'] at hcv ⊢
  have HV := Lib.hid hcv'
  clear hcv'
  rcases hcv with rfl | ⟨n, rfl⟩
  · have q0 : w1.cell? ⟨w.heap.size, 0, none⟩ = some (.int .i64 T.val.k) := H1.out.2.1.cell 0
    have q1 : w1.cell? ⟨w.heap.size, 1, none⟩ = some (.int .i64 T.val.n) := H1.out.2.1.cell 1
    have q2 : w1.cell? ⟨w.heap.size, 2, none⟩ = some (.string T.val.s) := H1.out.2.1.cell 2
    have q3 : w1.cell? ⟨w.heap.size, 3, none⟩ = some (.int .i64 T.val.o) := H1.out.2.1.cell 3
    have q4 : w1.cell? ⟨w.heap.size, 4, none⟩ = some (.int .i64 T.val.p) := H1.out.2.1.cell 4
    have q5 : w1.cell? ⟨w.heap.size, 5, none⟩ = some (.slice T.kA T.keys.length T.kc) := H1.out.2.1.cell 5
    have q6 : w1.cell? ⟨w.heap.size, 6, none⟩ = some (.slice T.cA T.kids.length T.cc) := H1.out.2.1.cell 6
    go_wp2_with fail
    obtain ⟨hfm, hsz⟩ := checkV_ok HV.out
    have HFS := Lib.hid (And.intro hfm hsz)
    refine (HCL.out _ H1.out.1 hfm hsz).mono ?_
    clear hfm hsz q0 q1 q2 q3 q4 q5 q6
    rintro e w2 ⟨T1, rfl, hb2, ho2, hn2, hl2, ht2⟩
    have hB2 := H1.out.2.1.below hb2 H1.out.2.1.lt
    have hR2 := H1.out.2.2.below hb2 H1.out.2.2.lt
    have hbb := H1.out.1.trans (hb2.mono H1.out.1.size)
    have hl2' : ∀ b ∈ T1.own, w.heap.size + 2 ≤ b := fun b hb => Nat.le_trans hs (hl2 b hb)
    have H2 := Lib.hid (And.intro hB2 (And.intro hR2 (And.intro hbb (And.intro ho2 (And.intro hn2 (And.intro hl2' ht2))))))
    have zb := hB2.frozen
    have q0 : w2.cell? ⟨w.heap.size, 0, none⟩ = some (.int .i64 T.val.k) := hB2.cell 0
    have q1 : w2.cell? ⟨w.heap.size, 1, none⟩ = some (.int .i64 T.val.n) := hB2.cell 1
    have q2 : w2.cell? ⟨w.heap.size, 2, none⟩ = some (.string T.val.s) := hB2.cell 2
    have q3 : w2.cell? ⟨w.heap.size, 3, none⟩ = some (.int .i64 T.val.o) := hB2.cell 3
    have q4 : w2.cell? ⟨w.heap.size, 4, none⟩ = some (.int .i64 T.val.p) := hB2.cell 4
    have q5 : w2.cell? ⟨w.heap.size, 5, none⟩ = some (.slice T.kA T.keys.length T.kc) := hB2.cell 5
    have q6 : w2.cell? ⟨w.heap.size, 6, none⟩ = some (.slice T.cA T.kids.length T.cc) := hB2.cell 6
    clear hB2 hR2 hbb ho2 hn2 hl2 hl2' ht2 hb2
    rw [PT.value_eq]
    go_wp2_with fail
    clear q0 q1 q2 q3 q4 q5 q6 zb
    go_loopw [20] (fun iv wr => ∃ (k : Nat) (S : PT), iv = .int .i64 k ∧ Apply1Inv w T v p k S wr) (fun iv _ => 1 - (intOf iv).toNat)
    case atStart =>
      have ho := only7 w2 w.heap.size (.int .i64 T1.val.k) (.int .i64 T1.val.n) (.string T1.val.s) (.int .i64 T1.val.o) (.int .i64 T1.val.p) (.slice T1.kA T1.keys.length T1.kc) (.slice T1.cA T1.kids.length T1.cc) 0 1 2 3 4 5 6
      refine ⟨0, T1, rfl, by omega, ⟨blk7 _ _ _ _ _ _ _ H2.out.1, H2.out.2.2.2.1.only ho ?_, List.nodup_cons.2 ⟨?_, H2.out.2.2.2.2.1⟩⟩, H2.out.2.2.2.2.2.1, H2.out.2.1.only ho (by show w.heap.size + 1 ≠ w.heap.size; omega), H2.out.2.2.1.trans (ho.below H2.out.2.2.1.size (fun q hq e => by omega)), fun _ => H2.out.2.2.2.2.2.2, fun h => by omega⟩
      · intro r hr e
        have := H2.out.2.2.2.2.2.1 r hr
        omega
      · intro hm
        have := H2.out.2.2.2.2.2.1 _ hm
        omega
    case round =>
      obtain ⟨k, S, rfl, hI⟩ := hrel
      have HI := Lib.hid hI
      by_cases hk : k = 0
      · subst hk
        have hbe : ∀ j u, (patchCells 1 A p.length c v)[j]? = some u → wr.cell? ⟨bb, ob + j, none⟩ = some u := fun j u hu => cell_below (hI.bel) (HH.out.2.2.2.2 j u hu)
        have e0 : wr.cell? ⟨bb, ob, none⟩ = some (.int .i64 1) := hbe 0 _ rfl
        have e1 : wr.cell? ⟨bb, ob + 1, none⟩ = some (.slice A p.length c) := hbe 1 _ rfl
        have e2 : wr.cell? ⟨bb, ob + 2, none⟩ = some (.int .i64 v.k) := hbe 2 _ rfl
        have e3 : wr.cell? ⟨bb, ob + 3, none⟩ = some (.int .i64 v.n) := hbe 3 _ rfl
        have e4 : wr.cell? ⟨bb, ob + 4, none⟩ = some (.string v.s) := hbe 4 _ rfl
        have e5 : wr.cell? ⟨bb, ob + 5, none⟩ = some (.int .i64 v.o) := hbe 5 _ rfl
        have e6 : wr.cell? ⟨bb, ob + 6, none⟩ = some (.int .i64 v.p) := hbe 6 _ rfl
        have hst := hI.same rfl
        have hba : Below wr.heap.size wr (wr.alloc (.cells (patchCells 1 A p.length c v).toArray 38)) := (Below.refl _ _).alloc (Nat.le_refl _) _
        have HP := Lib.hid (patch_one w.heap.size S A c v hv p (wr.alloc (.cells (patchCells 1 A p.length c v).toArray 38)) (hI.own.below hba) (by rw [hst]; exact HFS.out.1) (by rw [hst]; exact HFS.out.2) ((HH.out.2.1.below hI.bel).below hba) HH.out.2.2.1 HH.out.2.2.2.1)
        have HBA := Lib.hid (And.intro hba hst)
        clear hI hbe hba hst
        go_wp2_with fail
        refine HP.out.mono ?_
        rintro e w4 ⟨ho4, hq⟩
        have hs4 := HBA.out.1.size
        have hrs := HI.out.res
        have o4 : Only (· ∈ w.heap.size :: S.own) wr w4 := (Only.of_below HBA.out.1).trans ho4
        have hres4 : Blk w4 (w.heap.size + 1) 29 #[.int .i64 0, .int .i64 0, .string ⟨#[]⟩, .int .i64 0, .int .i64 0, .slice none 0 0, .slice none 0 0] := HI.out.res.only o4 (fun h => by
          rcases List.mem_cons.1 h with h | h
          · omega
          · have := HI.out.low _ h; omega)
        have hb4 : Below w.heap.size w w4 := HI.out.bel.trans (o4.below HI.out.bel.size (fun q hq h => by
          rcases List.mem_cons.1 h with h | h
          · omega
          · have := HI.out.low _ h; omega))
        have H4 := Lib.hid (And.intro hres4 hb4)
        clear o4 ho4 hres4 hb4 hrs e0 e1 e2 e3 e4 e5 e6
        rw [HBA.out.2] at hq
        cases hr : patR 1 v T.tree p with
        | error n =>
          rw [hr] at hq
          simp only at hq
          subst hq
          have HE := Lib.hid hr
          clear hr
          have r0 : w4.cell? ⟨w.heap.size + 1, 0, none⟩ = some (.int .i64 0) := H4.out.1.cell 0
          have r1 : w4.cell? ⟨w.heap.size + 1, 1, none⟩ = some (.int .i64 0) := H4.out.1.cell 1
          have r2 : w4.cell? ⟨w.heap.size + 1, 2, none⟩ = some (.string ⟨#[]⟩) := H4.out.1.cell 2
          have r3 : w4.cell? ⟨w.heap.size + 1, 3, none⟩ = some (.int .i64 0) := H4.out.1.cell 3
          have r4 : w4.cell? ⟨w.heap.size + 1, 4, none⟩ = some (.int .i64 0) := H4.out.1.cell 4
          have r5 : w4.cell? ⟨w.heap.size + 1, 5, none⟩ = some (.slice none 0 0) := H4.out.1.cell 5
          have r6 : w4.cell? ⟨w.heap.size + 1, 6, none⟩ = some (.slice none 0 0) := H4.out.1.cell 6
          have zr := H4.out.1.frozen
          unfold errV
          go_wp2_with fail
          clear r0 r1 r2 r3 r4 r5 r6
          refine bodyPost_ret (results_row_tmp Try.results5 _ _ (w.heap.size + 1) _ _ _ rfl (blk7 _ _ _ _ _ _ _ H4.out.1) Try.underlying29 rfl (by kernel_rfl)) rfl ?_
          refine ⟨H4.out.2.trans ((only7 w4 (w.heap.size + 1) _ _ _ _ _ _ _ _ _ _ _ _ _ _).below H4.out.2.size (fun q hq e => by omega)), .inr ⟨HV.out, by rw [HE.out]; rfl⟩⟩
        | ok u =>
          rw [hr] at hq
          simp only at hq
          obtain ⟨S', rfl, hS', hO', hlow'⟩ := hq
          have HE := Lib.hid (And.intro hr (And.intro hS' (And.intro hO' hlow')))
          clear hr hS' hO' hlow'
          go_wp2_with fail
          go_roundw
          case rel =>
            refine ⟨1, S', by go_num, by omega, HE.out.2.2.1, fun r hr => ?_, H4.out.1, H4.out.2, fun h => by omega, fun _ => by rw [HE.out.1, HE.out.2.1]⟩
            rcases HE.out.2.2.2 r hr with h | h
            · exact HI.out.low r h
            · have h1 := hs4
              have h2 := HI.out.res.lt
              omega
          case measure => simp [intOf]
      · have hk1 : k = 1 := by have := hI.le; omega
        subst hk1
        clear hI
        have q0 : wr.cell? ⟨w.heap.size, 0, none⟩ = some (.int .i64 S.val.k) := HI.out.own.root.cell 0
        have q1 : wr.cell? ⟨w.heap.size, 1, none⟩ = some (.int .i64 S.val.n) := HI.out.own.root.cell 1
        have q2 : wr.cell? ⟨w.heap.size, 2, none⟩ = some (.string S.val.s) := HI.out.own.root.cell 2
        have q3 : wr.cell? ⟨w.heap.size, 3, none⟩ = some (.int .i64 S.val.o) := HI.out.own.root.cell 3
        have q4 : wr.cell? ⟨w.heap.size, 4, none⟩ = some (.int .i64 S.val.p) := HI.out.own.root.cell 4
        have q5 : wr.cell? ⟨w.heap.size, 5, none⟩ = some (.slice S.kA S.keys.length S.kc) := HI.out.own.root.cell 5
        have q6 : wr.cell? ⟨w.heap.size, 6, none⟩ = some (.slice S.cA S.kids.length S.cc) := HI.out.own.root.cell 6
        have r0 : wr.cell? ⟨w.heap.size + 1, 0, none⟩ = some (.int .i64 0) := HI.out.res.cell 0
        have r1 : wr.cell? ⟨w.heap.size + 1, 1, none⟩ = some (.int .i64 0) := HI.out.res.cell 1
        have r2 : wr.cell? ⟨w.heap.size + 1, 2, none⟩ = some (.string ⟨#[]⟩) := HI.out.res.cell 2
        have r3 : wr.cell? ⟨w.heap.size + 1, 3, none⟩ = some (.int .i64 0) := HI.out.res.cell 3
        have r4 : wr.cell? ⟨w.heap.size + 1, 4, none⟩ = some (.int .i64 0) := HI.out.res.cell 4
        have r5 : wr.cell? ⟨w.heap.size + 1, 5, none⟩ = some (.slice none 0 0) := HI.out.res.cell 5
        have r6 : wr.cell? ⟨w.heap.size + 1, 6, none⟩ = some (.slice none 0 0) := HI.out.res.cell 6
        have zr := HI.out.res.frozen
        go_wp2_with fail
        clear q0 q1 q2 q3 q4 q5 q6 r0 r1 r2 r3 r4 r5 r6
        refine bodyPost_ret (results_row_tmp Try.results5 _ _ (w.heap.size + 1) _ _ _ rfl (blk7 _ _ _ _ _ _ _ HI.out.res) Try.underlying29 rfl (by kernel_rfl)) rfl ?_
        have ho := only7 wr (w.heap.size + 1) (.int .i64 S.val.k) (.int .i64 S.val.n) (.string S.val.s) (.int .i64 S.val.o) (.int .i64 S.val.p) (.slice S.kA S.keys.length S.kc) (.slice S.cA S.kids.length S.cc) 0 1 2 3 4 5 6
        refine ⟨HI.out.bel.trans (ho.below HI.out.bel.size (fun q hq e => by omega)), .inr ⟨HV.out, ?_⟩⟩
        rw [HI.out.done rfl]
        refine ⟨S, rfl, rfl, HI.out.own.own.only ho ?_, (List.nodup_cons.1 HI.out.own.nd).2, ?_⟩
        · intro r hr e
          have := HI.out.low r hr
          omega
        · intro r hr
          have := HI.out.low r hr
          omega
  · have r0 : w1.cell? ⟨w.heap.size + 1, 0, none⟩ = some (.int .i64 0) := H1.out.2.2.cell 0
    have r1 : w1.cell? ⟨w.heap.size + 1, 1, none⟩ = some (.int .i64 0) := H1.out.2.2.cell 1
    have r2 : w1.cell? ⟨w.heap.size + 1, 2, none⟩ = some (.string ⟨#[]⟩) := H1.out.2.2.cell 2
    have r3 : w1.cell? ⟨w.heap.size + 1, 3, none⟩ = some (.int .i64 0) := H1.out.2.2.cell 3
    have r4 : w1.cell? ⟨w.heap.size + 1, 4, none⟩ = some (.int .i64 0) := H1.out.2.2.cell 4
    have r5 : w1.cell? ⟨w.heap.size + 1, 5, none⟩ = some (.slice none 0 0) := H1.out.2.2.cell 5
    have r6 : w1.cell? ⟨w.heap.size + 1, 6, none⟩ = some (.slice none 0 0) := H1.out.2.2.cell 6
    have zr := H1.out.2.2.frozen
    go_wp2_with fail
    clear r0 r1 r2 r3 r4 r5 r6
    refine bodyPost_ret (results_row_tmp Try.results5 _ _ (w.heap.size + 1) _ _ _ rfl (blk7 _ _ _ _ _ _ _ H1.out.2.2) Try.underlying29 rfl (by kernel_rfl)) rfl ?_
    refine ⟨H1.out.1.trans ((only7 w1 (w.heap.size + 1) _ _ _ _ _ _ _ _ _ _ _ _ _ _).below H1.out.1.size (fun q hq e => by omega)), .inl ⟨by rw [HV.out]; simp, by rw [HV.out]; rfl⟩⟩
end Go.Proofs.Ythbjlbnaoaolbaa
