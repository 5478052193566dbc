/- json.patch: patches that set. -/
import Derived.Test.YtbfmdpgghknccaaDoorPatchEnd
import Derived.Test.YtbfmdpgghknccaaDoorAppend
import Derived.Deep.MidRow
namespace Go.Proofs.YtbfmdpgghknccaaDoor
open Go.RowKit
set_option linter.unusedVariables false
set_option linter.unusedSimpArgs false

/-- The rest of a region is walked in a world of which this alone is known. -/

theorem q_at {Q : Exit → Act → World → Prop} {e : Exit} {a : Act} {w : World} (F : World → Prop) (hF : F w) (h : ∀ w1, F w1 → Q e a w1) : Q e a w := h w hF

def errV (n : Int) : Value := .iface 98 (.int .i64 n)
/-- What a patch makes of a tree: or its fault. -/
def patR (kind : Int) (v : JV) (t : JT) (p : List St) : Except Int JT :=
  if kind < 1 ∨ 3 < kind ∨ (JT.leaf v).formed = false ∨ p.any longB = true then .error 1
  else if p = [] then .error 6
  else match JT.pat kind (JT.leaf v) t p with
    | none => .error 6
    | some u => if u.size ≤ 400 then .ok u else .error 4
def patchV (kind : Int) (A : Option Addr) (n c : Nat) (v : JV) : Value := .agg #[.int .i64 kind, .slice A n c, .int .i64 v.k, .int .i64 v.n, .string v.s, .int .i64 v.o, .int .i64 v.p]

/-- What patch gives. -/
def PatchQ (w : World) (T : PT) (b0 : Nat) (r : Except Int JT) (e : Ending) (w' : World) : Prop :=
  Only (· ∈ b0 :: T.own) w w' ∧ match r with
    | .error n => e = .returned (errV n)
    | .ok u => ∃ T' : PT, e = .returned .nilIface ∧ T'.tree = u ∧ OwnedT 9 29 w' b0 T' ∧ ∀ b ∈ T'.own, b ∈ T.own ∨ w.heap.size ≤ b

set_option maxRecDepth 100000 in
set_option maxHeartbeats 2000000 in
/-- A patch that may not be. -/
theorem patch_range (b0 : Nat) (A : Option Addr) (n c : Nat) (v : JV) (hv : v.Fit) (p : List St) (hn : p.length = n) (w : World) (hA : SlAt w A (stCells p)) (hl : p.length ≤ maxLen) (h : (JT.leaf v).formed = false ∨ p.any longB = true) :
    Calls Tryd.prog 24 #[.pointer (some ⟨b0, 0, none⟩), patchV 1 A n c v] w fun e w' => e = .returned (errV 1) ∧ Below w.heap.size w w' := by
  subst hn
  have hfm : ∀ w1, Calls Tryd.prog 46 #[(PT.bare v).value] w1 (BoolIs w1 (JT.leaf v).formed) := fun w1 => by
    rw [← PT.bare_tree]
    exact form_any _ w1 (PT.bare_in w1 hv) w1 (Below.refl _ _)
  have HF := Lib.hid hfm
  have HA := Lib.hid (fun w1 (h1 : Below w.heap.size w w1) => any_steps A c p w1 (hA.below h1) hl)
  obtain ⟨r1, hr1⟩ : ∃ r, (JT.leaf v).formed = r := ⟨_, rfl⟩
  obtain ⟨r2, hr2⟩ : ∃ r, p.any longB = r := ⟨_, rfl⟩
  rw [hr1] at HF h
  rw [hr2] at HA h
  clear hfm hA hl hr1 hr2
  unfold patchV
  cases r1
  · go_enter Tryd.func24, Tryd.ntmps24
    go_wp2_with fail
    refine (HF.out _).mono ?_
    rintro e w1 ⟨rfl, hb1⟩
    go_wp2_with fail
    go_ret
    exact ⟨rfl, ((Below.refl _ _).alloc (Nat.le_refl _) _).trans (hb1.mono (by simp))⟩
  · obtain rfl : r2 = true := by simpa using h
    go_enter Tryd.func24, Tryd.ntmps24
    go_wp2_with fail
    refine (HF.out _).mono ?_
    rintro e w1 ⟨rfl, hb1⟩
    have hB1 := (Blk.new w _ _).below hb1 (by simp)
    have hb2 : Below w.heap.size w w1 := ((Below.refl _ _).alloc (Nat.le_refl _) _).trans (hb1.mono (by simp))
    have c1 : w1.cell? ⟨w.heap.size, 1, none⟩ = some (.slice A p.length c) := hB1.cell 1
    have HB := Lib.hid hb2
    clear hB1 hb1 hb2
    go_wp2_with fail
    refine (HA.out _ HB.out).mono ?_
    rintro e w2 ⟨rfl, hb2⟩
    go_wp2_with fail
    go_ret
    exact ⟨rfl, HB.out.trans (hb2.mono HB.out.size)⟩

theorem stCells_take (p : List St) (n : Nat) : ∀ (j : Nat) (u : Value), (stCells (p.take n))[j]? = some u → (stCells p)[j]? = some u := by
  intro j u h
  have e : stCells p = stCells (p.take n) ++ stCells (p.drop n) := by
    rw [stCells, stCells, stCells, ← List.flatMap_append, List.take_append_drop]
  rw [e, List.getElem?_append_left (List.getElem?_eq_some_iff.1 h).1]
  exact h
theorem SlAt.stTake {w : World} {A : Option Addr} {p : List St} (h : SlAt w A (stCells p)) (n : Nat) : SlAt w A (stCells (p.take n)) := by
  rcases h with h | ⟨b, off, hA, hc⟩
  · refine .inl ?_
    cases hq : stCells (p.take n) with
    | nil => rfl
    | cons u l =>
      have := stCells_take p n 0 u (by rw [hq]; rfl)
      rw [h] at this
      simp at this
  · exact .inr ⟨b, off, hA, fun j u hu => hc j u (stCells_take p n j u hu)⟩

set_option maxRecDepth 100000 in
set_option maxHeartbeats 40000000 in
theorem patch_set (b0 : Nat) (T : PT) (A : Option Addr) (c : Nat) (v : JV) (hv : v.Fit) (p : List St) (w : World) (hO : OwnedT 9 29 w b0 T) (hf : T.tree.formed = true) (hs : T.tree.size ≤ 400) (hA : SlAt w A (stCells p)) (hl : p.length ≤ maxLen) (hcap : p.length ≤ c) (hvf : (JT.leaf v).formed = true) (hpl : p.any longB = false) :
    Calls Tryd.prog 24 #[.pointer (some ⟨b0, 0, none⟩), patchV 1 A p.length c v] w (PatchQ w T b0 (patR 1 v T.tree p)) := by
  have hfm : ∀ w1, Calls Tryd.prog 46 #[(PT.bare v).value] w1 (BoolIs w1 true) := fun w1 => by
    have := form_any _ w1 (PT.bare_in w1 hv) w1 (Below.refl _ _)
    rwa [PT.bare_tree, hvf] at this
  have HF := Lib.hid hfm
  have HA := Lib.hid (fun w1 (h1 : Below w.heap.size w w1) => (show Calls Tryd.prog 49 #[.slice A p.length c, (.func (.func 50) #[] #[])] w1 (BoolIs w1 false) from by rw [← hpl]; exact any_steps A c p w1 (hA.below h1) hl))
  have hml : p.length ≤ 9223372036854775807 := Nat.le_trans hl (by decide)
  have HH := Lib.hid (And.intro hO (And.intro hf (And.intro hs (And.intro hA (And.intro hl (And.intro hvf hpl))))))
  clear hfm hO hf hs hA hl hvf hpl
  unfold patchV
  by_cases hp : p = []
  · subst hp
    have HE := Lib.hid (show patR 1 v T.tree [] = .error 6 from by
      unfold patR
      rw [if_neg (by rw [HH.out.2.2.2.2.2.1]; simp), if_pos rfl])
    go_enter Tryd.func24, Tryd.ntmps24
    go_wp2_with fail
    refine (HF.out _).mono ?_
    rintro e w1 ⟨rfl, hb1⟩
    have hB1 := (Blk.new w _ _).below hb1 (by simp)
    have hb2 : Below w.heap.size w w1 := ((Below.refl _ _).alloc (Nat.le_refl _) _).trans (hb1.mono (by simp))
    have c1 : w1.cell? ⟨w.heap.size, 1, none⟩ = some (.slice A 0 c) := hB1.cell 1
    have HB := Lib.hid (And.intro hb2 hB1)
    clear hB1 hb1 hb2
    go_wp2_with fail
    refine (HA.out _ HB.out.1).mono ?_
    rintro e w2 ⟨rfl, hb2⟩
    have c2 : w2.cell? ⟨w.heap.size, 1, none⟩ = some (.slice A 0 c) := (HB.out.2.below hb2 HB.out.2.lt).cell 1
    have HC := Lib.hid (HB.out.1.trans (hb2.mono HB.out.1.size))
    clear hb2 c1
    go_wp2_with fail
    go_ret
    exact ⟨Only.of_below HC.out, by rw [HE.out]; rfl⟩
  · obtain ⟨q, s, rfl⟩ : ∃ q s, p = q ++ [s] := ⟨_, _, (List.dropLast_concat_getLast hp).symm⟩
    clear hp
    have hql : (q ++ [s]).length = q.length + 1 := by simp
    rw [hql] at HA hml hcap ⊢
    clear hql
    have hcap' : q.length ≤ c := by omega
    go_enter Tryd.func24, Tryd.ntmps24
    go_wp2_with fail
    refine (HF.out _).mono ?_
    rintro e w1 ⟨rfl, hb1⟩
    have hB1 := (Blk.new w _ _).below hb1 (by simp)
    have hb2 : Below w.heap.size w w1 := ((Below.refl _ _).alloc (Nat.le_refl _) _).trans (hb1.mono (by simp))
    have c1 : w1.cell? ⟨w.heap.size, 1, none⟩ = some (.slice A (q.length + 1) c) := hB1.cell 1
    have HB := Lib.hid (And.intro hb2 hB1)
    clear hB1 hb1 hb2
    go_wp2_with fail
    refine (HA.out _ HB.out.1).mono ?_
    rintro e w2 ⟨rfl, hb2⟩
    have hB2 := HB.out.2.below hb2 HB.out.2.lt
    have c2 : w2.cell? ⟨w.heap.size, 1, none⟩ = some (.slice A (q.length + 1) c) := hB2.cell 1
    have HC := Lib.hid (And.intro (HB.out.1.trans (hb2.mono HB.out.1.size)) hB2)
    clear hb2 c1 hB2
    go_wp2_with fail
    have HO2 := Lib.hid (And.intro ((AtP.of_blk HH.out.1.root).below HC.out.1) (And.intro (HH.out.1.own.inJ.below HC.out.1) (HH.out.2.2.2.1.below HC.out.1)))
    refine (find_any T b0 A c q w2 HO2.out.1 HO2.out.2.1 HH.out.2.1 HH.out.2.2.1 (by have := HO2.out.2.2.stTake q.length; rwa [List.take_left] at this) (by have := HH.out.2.2.2.2.1; simp at this; omega)).mono ?_
    rintro e w3 ⟨hb3, hr⟩
    have hB3 := HC.out.2.below hb3 HC.out.2.lt
    have hb4 := HC.out.1.trans (hb3.mono HC.out.1.size)
    have HD := Lib.hid (And.intro hb4 hB3)
    clear hb3 hB3 hb4 c2
    have c3 : w3.cell? ⟨w.heap.size, 1, none⟩ = some (.slice A (q.length + 1) c) := HD.out.2.cell 1
    rcases hr with ⟨is, X, b, o, rfl, hL, had, hP⟩ | ⟨rfl, _, hn⟩
    · obtain ⟨ba, oa, rfl, g0, g1⟩ := (HH.out.2.2.2.1.below HD.out.1).step (k := q.length) (s := s) (by simp)
      have d0 : w3.cell? ⟨w.heap.size, 0, none⟩ = some (.int .i64 1) := HD.out.2.cell 0
      have d2 : w3.cell? ⟨w.heap.size, 2, none⟩ = some (.int .i64 v.k) := HD.out.2.cell 2
      have d3 : w3.cell? ⟨w.heap.size, 3, none⟩ = some (.int .i64 v.n) := HD.out.2.cell 3
      have d4 : w3.cell? ⟨w.heap.size, 4, none⟩ = some (.string v.s) := HD.out.2.cell 4
      have d5 : w3.cell? ⟨w.heap.size, 5, none⟩ = some (.int .i64 v.o) := HD.out.2.cell 5
      have d6 : w3.cell? ⟨w.heap.size, 6, none⟩ = some (.int .i64 v.p) := HD.out.2.cell 6
      have HX := Lib.hid (And.intro hL (And.intro had hP))
      clear hL had hP
      have hqq : (q.length : Int) < (q.length : Int) + 1 := by omega
      have hXi : InJ w3 X := (HX.out.1.inJ HH.out.1.own.inJ).below HD.out.1
      have hXf : X.tree.formed = true := HX.out.1.formed HH.out.2.1
      have hXk : X.keys.length ≤ 400 ∧ X.kids.length ≤ 400 := by
        have h1 := JT.keys_le hXf
        rw [PT.tree_keys] at h1
        have h2 := HX.out.1.size
        have h3 := HH.out.2.2.1
        have h4 := JT.length_le_sizeL X.tree.kids
        rw [PT.tree_kids, List.length_map] at h4
        have h5 := JT.size_eq X.tree
        rw [PT.tree_kids] at h5
        omega
      have hba : Below w3.heap.size w3 (w3.alloc (.cells #[.string s.key, .int .i64 s.at_] 69)) := (Below.refl _ _).alloc (Nat.le_refl _) _
      have HI := Lib.hid (index_any X b o s.key s.at_ (w3.alloc (.cells #[.string s.key, .int .i64 s.at_] 69)) (HX.out.2.2.below hba) (hXi.below hba) hXf hXk.1)
      have HXX := Lib.hid (And.intro hXi (And.intro hXf (And.intro hXk hba)))
      clear hXi hXf hXk hba
      go_wp2_with fail
      refine HI.out.mono ?_
      rintro e w4 ⟨rfl, hb4⟩
      have hS4 := (Blk.new w3 _ _).below hb4 (by simp)
      have hb34 := HXX.out.2.2.2.trans (hb4.mono (by simp))
      have hB4 := HD.out.2.below hb34 HD.out.2.lt
      have H4 := Lib.hid (And.intro hb34 (And.intro hB4 hS4))
      clear hb4 hS4 hb34 hB4 c3 g0 g1 d0 d2 d3 d4 d5 d6
      have d0 : w4.cell? ⟨w.heap.size, 0, none⟩ = some (.int .i64 1) := H4.out.2.1.cell 0
      have d2 : w4.cell? ⟨w.heap.size, 2, none⟩ = some (.int .i64 v.k) := H4.out.2.1.cell 2
      have d3 : w4.cell? ⟨w.heap.size, 3, none⟩ = some (.int .i64 v.n) := H4.out.2.1.cell 3
      have d4 : w4.cell? ⟨w.heap.size, 4, none⟩ = some (.string v.s) := H4.out.2.1.cell 4
      have d5 : w4.cell? ⟨w.heap.size, 5, none⟩ = some (.int .i64 v.o) := H4.out.2.1.cell 5
      have d6 : w4.cell? ⟨w.heap.size, 6, none⟩ = some (.int .i64 v.p) := H4.out.2.1.cell 6
      have s0 : w4.cell? ⟨w3.heap.size, 0, none⟩ = some (.string s.key) := H4.out.2.2.cell 0
      have hbpw : w.heap.size < w4.heap.size := H4.out.2.1.lt
      have hbsw : w3.heap.size < w4.heap.size := H4.out.2.2.lt
      obtain ⟨ia, hia⟩ : ∃ a, idxAt X.val X.keys X.kids.length ⟨s.key, s.at_⟩ = a := ⟨_, rfl⟩
      obtain ⟨ih, hih⟩ : ∃ a, idxHas X.val X.keys X.kids.length ⟨s.key, s.at_⟩ = a := ⟨_, rfl⟩
      obtain ⟨im, him⟩ : ∃ a, idxMay X.val X.kids.length ⟨s.key, s.at_⟩ = a := ⟨_, rfl⟩
      rw [hia, hih, him]
      have HR := Lib.hid (And.intro hia (And.intro hih him))
      clear hia hih him
      cases ih with
      | true =>
        obtain ⟨i, hi, hie⟩ := idx_has HR.out.2.1
        rw [HR.out.1] at hie
        subst hie
        have hi' : X.tree.idx s = some i := by
          unfold JT.idx
          rw [PT.tree_val, PT.tree_keys, PT.tree_kids, List.length_map]; exact hi
        have hil := JT.idx_lt hi' ((JT.formed_iff _).1 HXX.out.2.1).1
        rw [PT.tree_kids, List.length_map] at hil
        have hcl : X.kids.length ≤ 400 := HXX.out.2.2.1.2
        obtain ⟨K, hK⟩ : ∃ K, X.kids[i]? = some K := ⟨_, List.getElem?_eq_getElem hil⟩
        have hb04 : Below w.heap.size w w4 := HD.out.1.trans (H4.out.1.mono HD.out.1.size)
        have hO4 := HH.out.1.below hb04
        obtain ⟨_, _, _, hXo, _, _⟩ := hO4.place HX.out.1.sub HX.out.2.1
        obtain ⟨g, cur, hgA, hgB, hgs, hgo⟩ := kids_row hXo hK
        have hP4 := HX.out.2.2.below H4.out.1
        have x6 : w4.cell? ⟨b, o + 6, none⟩ = some (.slice (some ⟨g, 0, none⟩) X.kids.length X.cc) := by rw [← hgA]; exact hP4 6 (by omega)
        have hbb : b < w4.heap.size := cell_lt x6
        have hii : (i : Int) < (X.kids.length : Int) := by omega
        have hgw : g < w4.heap.size := hgB.lt
        have HG := Lib.hid (And.intro hi' (And.intro hK (And.intro hb04 (And.intro hO4 (And.intro hgA (And.intro hgB (And.intro hgs hgo)))))))
        obtain ⟨bk, ok, hbk, hPk⟩ := AtP.of_kid hXo.slot.slot hK
        rw [hgA] at hbk
        injection hbk with hbk
        injection hbk with e1 e2
        subst e1 e2
        simp only [Nat.zero_add] at hPk
        have HPK := Lib.hid (And.intro hPk (And.intro x6 hbb))
        clear hi hi' hK hb04 hO4 hXo hgA hgB hgs hgo hP4 hPk
        go_wp2_with fail
        refine wp_at (fun W => Below w4.heap.size w4 W ∧ Blk W w4.heap.size 29 #[.int .i64 v.k, .int .i64 v.n, .string v.s, .int .i64 v.o, .int .i64 v.p, .slice none 0 0, .slice none 0 0]) ⟨(Below.refl _ _).alloc (Nat.le_refl _) _, Blk.new _ _ _⟩ ?_
        rintro W ⟨hbW, hkW⟩
        clear d0 d2 d3 d4 d5 d6 s0 x6
        have x6 : W.cell? ⟨b, o + 6, none⟩ = some (.slice (some ⟨g, 0, none⟩) X.kids.length X.cc) := cell_below hbW HPK.out.2.1
        have k0 : W.cell? ⟨w4.heap.size, 0, none⟩ = some (.int .i64 v.k) := hkW.cell 0
        have k1 : W.cell? ⟨w4.heap.size, 1, none⟩ = some (.int .i64 v.n) := hkW.cell 1
        have k2 : W.cell? ⟨w4.heap.size, 2, none⟩ = some (.string v.s) := hkW.cell 2
        have k3 : W.cell? ⟨w4.heap.size, 3, none⟩ = some (.int .i64 v.o) := hkW.cell 3
        have k4 : W.cell? ⟨w4.heap.size, 4, none⟩ = some (.int .i64 v.p) := hkW.cell 4
        have k5 : W.cell? ⟨w4.heap.size, 5, none⟩ = some (.slice none 0 0) := hkW.cell 5
        have k6 : W.cell? ⟨w4.heap.size, 6, none⟩ = some (.slice none 0 0) := hkW.cell 6
        have HW := Lib.hid (And.intro hbW hkW)
        clear hbW hkW
        go_still_tail 7, (by kernel_rfl)
        clear x6 k0 k1 k2 k3 k4 k5 k6
        have hth : World.there { W with drawn := W.drawn + 1 } g (i * 7) (#[Value.int .i64 v.k, .int .i64 v.n, .string v.s, .int .i64 v.o, .int .i64 v.p, .slice none 0 0, .slice none 0 0] : Array Value).size := fun j hj => by
          have hj7 : j < 7 := hj
          have h1 := (HPK.out.1.below HW.out.1) j hj7
          have hgW : Blk W g 29 cur := HG.out.2.2.2.2.2.1.below HW.out.1 hgw
          refine ⟨?_, (show Blk { W with drawn := W.drawn + 1 } g _ cur from hgW).frozen _⟩
          show (W.cell? ⟨g, i * 7 + j, none⟩).isSome = true
          rw [h1, List.getElem?_eq_getElem (by rw [PT.cells_length]; exact hj7)]
          rfl
        refine wpList_store_mid rfl 29 _ _ rfl g (i * 7) #[.int .i64 v.k, .int .i64 v.n, .string v.s, .int .i64 v.o, .int .i64 v.p, .slice none 0 0, .slice none 0 0] (by simp [Act.eval, Act.put]) (by simp [Act.eval, Act.put]) hth (by kernel_rfl) (by simp [Value.oneCell']) ?_
        clear hth
        refine wpList_at (fun W5 => ∃ T' : PT, OwnedT 9 29 W5 b0 T' ∧ (∀ r ∈ T'.own, r ∈ T.own ∨ w.heap.size ≤ r) ∧ JT.pat 1 (JT.leaf v) T.tree (q ++ [s]) = some T'.tree ∧ Only (· ∈ b0 :: T.own) w W5) ?_ ?_
        · have hWd : Below w4.heap.size w4 { W with drawn := W.drawn + 1 } := ⟨HW.out.1.os, HW.out.1.tape, HW.out.1.output, HW.out.1.size, HW.out.1.block⟩
          obtain ⟨T', r1, r2, r3, r4⟩ := set_end hv (HG.out.2.2.2.1.below hWd) HX.out.1 HG.out.1 HG.out.2.1 HG.out.2.2.2.2.1 (W5 := World.setCells { W with drawn := W.drawn + 1 } g (i * 7) [.int .i64 v.k, .int .i64 v.n, .string v.s, .int .i64 v.o, .int .i64 v.p, .slice none 0 0, .slice none 0 0]) rfl
          have h4 := HG.out.2.2.1
          have hw5 : Below w.heap.size w { W with drawn := W.drawn + 1 } := h4.trans (hWd.mono h4.size)
          refine ⟨T', r1, fun r hr => ?_, r3, (Only.of_below hw5).trans (r4.mono (fun k _ h => List.mem_cons_of_mem _ h))⟩
          rcases r2 r hr with h | h
          · exact .inl h
          · have := hw5.size; exact .inr (by omega)
        rintro W5 ⟨T', hO5, hown5, hpat5, ho5⟩
        have HT := Lib.hid (And.intro hO5 (And.intro hown5 (And.intro hpat5 ho5)))
        have t0 : W5.cell? ⟨b0, 0, none⟩ = some (.int .i64 T'.val.k) := hO5.root.cell 0
        have t1 : W5.cell? ⟨b0, 1, none⟩ = some (.int .i64 T'.val.n) := hO5.root.cell 1
        have t2 : W5.cell? ⟨b0, 2, none⟩ = some (.string T'.val.s) := hO5.root.cell 2
        have t3 : W5.cell? ⟨b0, 3, none⟩ = some (.int .i64 T'.val.o) := hO5.root.cell 3
        have t4 : W5.cell? ⟨b0, 4, none⟩ = some (.int .i64 T'.val.p) := hO5.root.cell 4
        have t5 : W5.cell? ⟨b0, 5, none⟩ = some (.slice T'.kA T'.keys.length T'.kc) := hO5.root.cell 5
        have t6 : W5.cell? ⟨b0, 6, none⟩ = some (.slice T'.cA T'.kids.length T'.cc) := hO5.root.cell 6
        have hb05 : b0 < W5.heap.size := hO5.root.lt
        clear hO5 hown5 hpat5 ho5
        go_wp2_with fail
        clear t0 t1 t2 t3 t4 t5 t6
        have ha5 : Below W5.heap.size W5 (W5.alloc (.cells #[.int .i64 400] 3)) := (Below.refl _ _).alloc (Nat.le_refl _) _
        refine (count_any W5.heap.size T' W5 HT.out.1.own.inJ (Nat.le_refl _) 400 _ ha5 (Blk.new _ _ _) (by decide) (by decide)).mono ?_
        have HA5 := Lib.hid ha5
        clear ha5
        rintro e W6 ⟨r, rfl, ho6, hr⟩
        have hlow : ∀ x ∈ b0 :: T'.own, x ≠ W5.heap.size := fun x hx e => by
          rcases List.mem_cons.1 hx with h | h
          · omega
          · have := HT.out.1.own.lt x h; omega
        have o56 : Only (· = W5.heap.size) W5 W6 := (Only.of_below HA5.out).trans ho6
        have hO6 : OwnedT 9 29 W6 b0 T' := ⟨HT.out.1.root.only o56 (fun e => hlow b0 (by simp) e), HT.out.1.own.only o56 (fun x hx e => hlow x (by simp [hx]) e), HT.out.1.nd⟩
        have o06 : Only (· ∈ b0 :: T.own) w W6 := by
          refine ⟨o56.os.trans HT.out.2.2.2.os, o56.tape.trans HT.out.2.2.2.tape, o56.output.trans HT.out.2.2.2.output, Nat.le_trans HT.out.2.2.2.size o56.size, fun k hk hn => ?_⟩
          have h5 := HT.out.2.2.2.size
          rw [o56.block k (by omega) (by omega)]
          exact HT.out.2.2.2.block k hk hn
        have hpr : patR 1 v T.tree (q ++ [s]) = if T'.tree.size ≤ 400 then .ok T'.tree else .error 4 := by
          unfold patR
          rw [if_neg (by rw [HH.out.2.2.2.2.2.1, HH.out.2.2.2.2.2.2]; simp), if_neg (by simp), HT.out.2.2.1]
        rcases hr with ⟨rfl, hle, _⟩ | ⟨rfl, hle⟩
        · have HE := Lib.hid (And.intro (show patR 1 v T.tree (q ++ [s]) = .ok T'.tree from by rw [hpr, if_pos (by omega)]) (And.intro hO6 o06))
          clear hle hpr hO6 o06 o56 ho6 hlow
          go_wp2_with fail
          go_ret
          exact ⟨HE.out.2.2, by rw [HE.out.1]; exact ⟨T', rfl, rfl, HE.out.2.1, HT.out.2.1⟩⟩
        · have HE := Lib.hid (And.intro (show patR 1 v T.tree (q ++ [s]) = .error 4 from by rw [hpr, if_neg (by omega)]) o06)
          clear hle hpr hO6 o06 o56 ho6 hlow
          go_wp2_with fail
          go_ret
          exact ⟨HE.out.2, by rw [HE.out.1]; rfl⟩
      | false =>
        have hn : X.tree.idx s = none := by
          unfold JT.idx
          rw [PT.tree_val, PT.tree_keys, PT.tree_kids, List.length_map]; exact idx_hasnt HR.out.2.1
        have hb04 : Below w.heap.size w w4 := HD.out.1.trans (H4.out.1.mono HD.out.1.size)
        cases hm : isMapStep X.val s with
        | false =>
          have HE := Lib.hid (And.intro (show patR 1 v T.tree (q ++ [s]) = .error 6 from by
            have hp : JT.pat 1 (JT.leaf v) X.tree [s] = none := by
              simp only [JT.pat]
              unfold JT.pat1
              rw [if_pos rfl, hn, PT.tree_val, hm]
              rfl
            unfold patR
            rw [if_neg (by rw [HH.out.2.2.2.2.2.1, HH.out.2.2.2.2.2.2]; simp), if_neg (by simp), (Lead.pat 1 (JT.leaf v) HX.out.1).1 hp]) hb04)
          have hsk : im = false ∨ s.key.toList = [] := by
            rw [← HR.out.2.2]
            unfold idxMay
            rw [hm]
            cases hl : isListStep X.val ⟨s.key, s.at_⟩ X.kids.length with
            | false => exact .inl rfl
            | true => unfold isListStep at hl; simp at hl; exact .inr hl.1.1.2
          clear hn hb04 hm
          have hsk2 : im = false ∨ (im = true ∧ s.key.toList = []) := by cases im <;> simp_all
          clear hsk
          rcases hsk2 with rfl | ⟨rfl, hke⟩
          all_goals
            go_wp2_with fail
            go_ret
            exact ⟨(Only.of_below HE.out.2).trans (Only.of_below ((Below.refl _ _).alloc (Nat.le_refl _) _)), by rw [HE.out.1]; rfl⟩
        | true =>
          have hm' := hm
          unfold isMapStep at hm'
          simp at hm'
          have hke : (!s.key.toList.isEmpty) = true := by simp [hm'.1.2]
          obtain rfl : im = true := by
            rw [← HR.out.2.2]; unfold idxMay
            rw [show isMapStep X.val ⟨s.key, s.at_⟩ = true from hm]; rfl
          have hie : ia = (plc X.keys s.key : Int) := by
            rw [← HR.out.1]; unfold idxAt
            rw [show isMapStep X.val ⟨s.key, s.at_⟩ = true from hm]; rfl
          obtain ⟨i, hii⟩ : ∃ i, plc X.keys s.key = i := ⟨_, rfl⟩
          rw [hii] at hie
          subst hie
          have hO4 := HH.out.1.below hb04
          obtain ⟨⟨cur, hBb⟩, hnb, hsubX, hXo, hXn, hinb⟩ := hO4.place HX.out.1.sub HX.out.2.1
          have hP4 := HX.out.2.2.below H4.out.1
          have hIM := Lib.hid (And.intro hm (And.intro hii (And.intro hn (And.intro hO4 (And.intro hBb (And.intro hnb (And.intro hsubX (And.intro hXo (And.intro hXn (And.intro hP4 hb04))))))))))
          have hbb : b < w4.heap.size := hBb.lt
          clear hm' hm hii hn hO4 hBb hnb hsubX hXo hXn hP4 hb04
          go_wp2_with fail
          refine wp_at (fun W => Below w4.heap.size w4 W ∧ Blk W w4.heap.size 29 #[.int .i64 v.k, .int .i64 v.n, .string v.s, .int .i64 v.o, .int .i64 v.p, .slice none 0 0, .slice none 0 0]) ⟨(Below.refl _ _).alloc (Nat.le_refl _) _, Blk.new _ _ _⟩ ?_
          rintro W ⟨hbW, hkW⟩
          clear d0 d2 d3 d4 d5 d6 s0
          have y5 : W.cell? ⟨b, o + 5, none⟩ = some (.slice X.kA X.keys.length X.kc) := (hIM.out.2.2.2.2.2.2.2.2.2.1.below hbW) 5 (by omega)
          have s0 : W.cell? ⟨w3.heap.size, 0, none⟩ = some (.string s.key) := (H4.out.2.2.below hbW hbsw).cell 0
          have HW := Lib.hid (And.intro hbW hkW)
          clear hbW hkW
          have hbw' : b < W.heap.size := Nat.lt_of_lt_of_le hbb HW.out.1.size
          have hsw' : w3.heap.size < W.heap.size := Nat.lt_of_lt_of_le hbsw HW.out.1.size
          have HIC := Lib.hid (show s.key.size ≤ maxLen ∧ i ≤ X.kids.length from by
            have h20 : longB s = false := by
              have h := HH.out.2.2.2.2.2.2
              rw [List.any_append] at h
              simp at h
              exact h.2
            unfold longB at h20
            simp at h20
            have h5 := hIM.out.1
            unfold isMapStep at h5
            simp at h5
            have ht := ((JT.formed_iff _).1 HXX.out.2.1).1
            unfold JT.top at ht
            rw [PT.tree_val, if_pos h5.1.1, PT.tree_keys, PT.tree_kids, List.length_map] at ht
            simp only [Bool.and_eq_true, beq_iff_eq] at ht
            have hp := plc_le X.keys s.key
            rw [hIM.out.2.1] at hp
            exact ⟨by simp only [maxLen]; omega, by omega⟩)
          have HIK := Lib.hid (fun (W1 : World) (h1 : Below w4.heap.size w4 W1) (vb : Nat) (hvb : Blk W1 vb 9 #[.string s.key]) (hne : vb ∉ blkOf X.kA) => insertStr_any X.kA X.keys.length X.kc i (X.keys.map Value.string) vb [.string s.key] W1 (own_keep hIM.out.2.2.2.2.2.2.2.1.slot.keys (fun r _ hlt => h1.block r hlt)) (by have := HXX.out.2.2.1.1; omega) (by rw [← hIM.out.2.1]; exact plc_le _ _) hvb rfl (by simp [Value.oneCell']) (one_cells X.keys) hne)
          have hWA : Below w4.heap.size w4 (W.alloc (.cells #[.string s.key] 9)) := HW.out.1.trans (((Below.refl _ _).alloc (Nat.le_refl _) _).mono HW.out.1.size)
          have HWA := Lib.hid hWA.drew
          have HKA := Lib.hid (show Blk (W.alloc (.cells #[.string s.key] 9)).drew _ _ _ from HW.out.2.alloc (.cells #[.string s.key] 9))
          have HVB := Lib.hid (show Blk (W.alloc (.cells #[.string s.key] 9)).drew W.heap.size 9 #[.string s.key] from Blk.new W 9 #[.string s.key])
          have hkA : ∀ r ∈ blkOf X.kA, r < w4.heap.size := fun r hr => ((own_parts hIM.out.2.2.2.2.2.2.2.1 hIM.out.2.2.2.2.2.2.2.2.1).1 r hr).1
          have hne1 : W.heap.size ∉ blkOf X.kA := fun h => by have := hkA _ h; have := HW.out.1.size; omega
          have hbk : b ∉ blkOf X.kA := fun h => hIM.out.2.2.2.2.2.1 (by rw [PT.own_eq]; exact List.mem_append_left _ h)
          have HP5 := Lib.hid (fun (W1 W2 : World) (h1 : Below w4.heap.size w4 W1) (ho : Only (· ∈ blkOf X.kA) W1 W2) => (hIM.out.2.2.2.2.1.below h1 hbb).only ho hbk)
          have HY := Lib.hid (show cur[o + 5]? = some (.slice X.kA X.keys.length X.kc) from by rw [← hIM.out.2.2.2.2.1.cell]; exact hIM.out.2.2.2.2.2.2.2.2.2.1 5 (by omega))
          have HNE := Lib.hid hne1
          clear hWA hkA hne1 hbk
          go_region_with (go_at_call 53; refine (HIK.out _ HWA.out W.heap.size HVB.out HNE.out).mono ?_; rintro e W2 ⟨A', ac, rfl, hrow, ho, hA⟩; have hbl2 := HP5.out _ _ HWA.out ho; have y5' : W2.cell? ⟨b, o + 5, none⟩ = some (.slice X.kA X.keys.length X.kc) := (by rw [hbl2.cell]; exact HY.out); have z5' : W2.frozen? ⟨b, o + 5, none⟩ = false := hbl2.frozen _; clear hbl2)
          all_goals
            refine q_at (fun W3 => Ins1 9 29 w4 W3 X b o i s.key cur A' ac #[.int .i64 v.k, .int .i64 v.n, .string v.s, .int .i64 v.o, .int .i64 v.p, .slice none 0 0, .slice none 0 0]) (ins1_mk hIM.out.2.2.2.2.2.2.2.1 hIM.out.2.2.2.2.2.2.2.2.1 hIM.out.2.2.2.2.2.1 hIM.out.2.2.2.2.1 HWA.out HKA.out hrow ho hA) ?_
            clear hrow ho hA y5' z5' y5 s0 hbw' hsw'
            rintro W3 hI3
            have HI3 := Lib.hid hI3
            have y6 : W3.cell? ⟨b, o + 6, none⟩ = some (.slice X.cA X.kids.length X.cc) := by
              rw [hI3.row.cell, Array.getElem?_setIfInBounds_ne (by omega), ← hIM.out.2.2.2.2.1.cell]
              exact hIM.out.2.2.2.2.2.2.2.2.2.1 6 (by omega)
            have k0 : W3.cell? ⟨w4.heap.size, 0, none⟩ = some (.int .i64 v.k) := hI3.kid.cell 0
            have k1 : W3.cell? ⟨w4.heap.size, 1, none⟩ = some (.int .i64 v.n) := hI3.kid.cell 1
            have k2 : W3.cell? ⟨w4.heap.size, 2, none⟩ = some (.string v.s) := hI3.kid.cell 2
            have k3 : W3.cell? ⟨w4.heap.size, 3, none⟩ = some (.int .i64 v.o) := hI3.kid.cell 3
            have k4 : W3.cell? ⟨w4.heap.size, 4, none⟩ = some (.int .i64 v.p) := hI3.kid.cell 4
            have k5 : W3.cell? ⟨w4.heap.size, 5, none⟩ = some (.slice none 0 0) := hI3.kid.cell 5
            have k6 : W3.cell? ⟨w4.heap.size, 6, none⟩ = some (.slice none 0 0) := hI3.kid.cell 6
            have hbw3 : b < W3.heap.size := hI3.row.lt
            have hkw3 : w4.heap.size < W3.heap.size := hI3.kid.lt
            clear hI3
            go_wp2_with fail
            have HWB := Lib.hid (((Below.refl W3.heap.size W3).alloc (Nat.le_refl _) (.cells #[.int .i64 v.k, .int .i64 v.n, .string v.s, .int .i64 v.o, .int .i64 v.p, .slice none 0 0, .slice none 0 0] 29)).drew)
            have HVC := Lib.hid (show Blk (W3.alloc (.cells #[.int .i64 v.k, .int .i64 v.n, .string v.s, .int .i64 v.o, .int .i64 v.p, .slice none 0 0, .slice none 0 0] 29)).drew W3.heap.size 29 (PT.bare v).cells.toArray from Blk.new W3 29 _)
            have hcA : ∀ r ∈ blkOf X.cA, r < w4.heap.size ∧ r ∉ blkOf X.kA := (own_parts hIM.out.2.2.2.2.2.2.2.1 hIM.out.2.2.2.2.2.2.2.2.1).2
            have hbc : b ∉ blkOf X.cA := fun h => hIM.out.2.2.2.2.2.1 (by rw [PT.own_eq]; exact List.mem_append_right _ (List.mem_append_left _ h))
            have HNC := Lib.hid (show W3.heap.size ∉ blkOf X.cA from fun h => by have := (hcA _ h).1; omega)
            have HKR := Lib.hid (show W3.ownsRow 0 29 7 (.slice X.cA X.kids.length X.cc) X.kids.length (PT.cellsL X.kids) from own_keep hIM.out.2.2.2.2.2.2.2.1.slot.kids (fun r hr hlt => HI3.out.only.block r hlt (fun h => by
              rcases h with h | h
              · exact (hcA r hr).2 h
              · exact hbc (by rw [← h]; exact hr))))
            have HIT := Lib.hid (insertTree_any X.cA X.kids.length X.cc i (PT.cellsL X.kids) W3.heap.size (PT.bare v).cells (W3.alloc (.cells #[.int .i64 v.k, .int .i64 v.n, .string v.s, .int .i64 v.o, .int .i64 v.p, .slice none 0 0, .slice none 0 0] 29)).drew (owns_below HKR.out HWB.out) (by have := HXX.out.2.2.1.2; omega) HIC.out.2 HVC.out (PT.cells_length _) (one_pt _) (one_ptL _) HNC.out)
            have HP6 := Lib.hid (fun (W1 W4 : World) (h1 : Below W3.heap.size W3 W1) (ho : Only (· ∈ blkOf X.cA) W1 W4) => (HI3.out.row.below h1 hbw3).only ho hbc)
            have HY6 := Lib.hid (show (cur.setIfInBounds (o + 5) (.slice A' (X.keys.length + 1) ac))[o + 6]? = some (.slice X.cA X.kids.length X.cc) from by rw [← HI3.out.row.cell]; exact y6)
            clear hcA hbc
            go_region_with (go_at_call 54; refine HIT.out.mono ?_; rintro e W4 ⟨C', cc', rfl, hrow4, ho4, hC4⟩; have hbl4 := HP6.out _ _ HWB.out ho4; have y6' : W4.cell? ⟨b, o + 6, none⟩ = some (.slice X.cA X.kids.length X.cc) := (by rw [hbl4.cell]; exact HY6.out); have z6' : W4.frozen? ⟨b, o + 6, none⟩ = false := hbl4.frozen _; clear hbl4)
            all_goals
              refine q_at (fun W5 => ∃ T' : PT, OwnedT 9 29 W5 b0 T' ∧ (∀ r ∈ T'.own, r ∈ T.own ∨ w.heap.size ≤ r) ∧ JT.pat 1 (JT.leaf v) T.tree (q ++ [s]) = some T'.tree ∧ Only (· ∈ b0 :: T.own) w W5) ?_ ?_
              · obtain ⟨T', r1, r2, r3, r4⟩ := ins2_mk hv hIM.out.2.2.2.1 HX.out.1 HX.out.2.1 hIM.out.2.2.2.2.2.2.2.2.2.1 hIM.out.2.2.1 hIM.out.1 hIM.out.2.1 HIC.out.1 HIC.out.2 hIM.out.2.2.2.2.1 HI3.out HWB.out hrow4 ho4 hC4
                have h04 := hIM.out.2.2.2.2.2.2.2.2.2.2
                refine ⟨T', r1, fun r hr => ?_, r3, (Only.of_below h04).trans r4⟩
                rcases r2 r hr with h | h
                · exact .inl h
                · have := h04.size; exact .inr (by omega)
              clear hrow4 ho4 hC4 y6' z6' y6 k0 k1 k2 k3 k4 k5 k6 hbw3 hkw3
              rintro W5 ⟨T', hO5, hown5, hpat5, ho5⟩
              have HT := Lib.hid (And.intro hO5 (And.intro hown5 (And.intro hpat5 ho5)))
              have t0 : W5.cell? ⟨b0, 0, none⟩ = some (.int .i64 T'.val.k) := hO5.root.cell 0
              have t1 : W5.cell? ⟨b0, 1, none⟩ = some (.int .i64 T'.val.n) := hO5.root.cell 1
              have t2 : W5.cell? ⟨b0, 2, none⟩ = some (.string T'.val.s) := hO5.root.cell 2
              have t3 : W5.cell? ⟨b0, 3, none⟩ = some (.int .i64 T'.val.o) := hO5.root.cell 3
              have t4 : W5.cell? ⟨b0, 4, none⟩ = some (.int .i64 T'.val.p) := hO5.root.cell 4
              have t5 : W5.cell? ⟨b0, 5, none⟩ = some (.slice T'.kA T'.keys.length T'.kc) := hO5.root.cell 5
              have t6 : W5.cell? ⟨b0, 6, none⟩ = some (.slice T'.cA T'.kids.length T'.cc) := hO5.root.cell 6
              have hb05 : b0 < W5.heap.size := hO5.root.lt
              clear hO5 hown5 hpat5 ho5
              go_wp2_with fail
              clear t0 t1 t2 t3 t4 t5 t6
              have ha5 : Below W5.heap.size W5 (W5.alloc (.cells #[.int .i64 400] 3)) := (Below.refl _ _).alloc (Nat.le_refl _) _
              refine (count_any W5.heap.size T' W5 HT.out.1.own.inJ (Nat.le_refl _) 400 _ ha5 (Blk.new _ _ _) (by decide) (by decide)).mono ?_
              have HA5 := Lib.hid ha5
              clear ha5
              rintro e W6 ⟨r, rfl, ho6, hr⟩
              have hlow : ∀ x ∈ b0 :: T'.own, x ≠ W5.heap.size := fun x hx e => by
                rcases List.mem_cons.1 hx with h | h
                · omega
                · have := HT.out.1.own.lt x h; omega
              have o56 : Only (· = W5.heap.size) W5 W6 := (Only.of_below HA5.out).trans ho6
              have hO6 : OwnedT 9 29 W6 b0 T' := ⟨HT.out.1.root.only o56 (fun e => hlow b0 (by simp) e), HT.out.1.own.only o56 (fun x hx e => hlow x (by simp [hx]) e), HT.out.1.nd⟩
              have o06 : Only (· ∈ b0 :: T.own) w W6 := by
                refine ⟨o56.os.trans HT.out.2.2.2.os, o56.tape.trans HT.out.2.2.2.tape, o56.output.trans HT.out.2.2.2.output, Nat.le_trans HT.out.2.2.2.size o56.size, fun k hk hn => ?_⟩
                have h5 := HT.out.2.2.2.size
                rw [o56.block k (by omega) (by omega)]
                exact HT.out.2.2.2.block k hk hn
              have hpr : patR 1 v T.tree (q ++ [s]) = if T'.tree.size ≤ 400 then .ok T'.tree else .error 4 := by
                unfold patR
                rw [if_neg (by rw [HH.out.2.2.2.2.2.1, HH.out.2.2.2.2.2.2]; simp), if_neg (by simp), HT.out.2.2.1]
              rcases hr with ⟨rfl, hle, _⟩ | ⟨rfl, hle⟩
              · have HE := Lib.hid (And.intro (show patR 1 v T.tree (q ++ [s]) = .ok T'.tree from by rw [hpr, if_pos (by omega)]) (And.intro hO6 o06))
                clear hle hpr hO6 o06 o56 ho6 hlow
                go_wp2_with fail
                go_ret
                exact ⟨HE.out.2.2, by rw [HE.out.1]; exact ⟨T', rfl, rfl, HE.out.2.1, HT.out.2.1⟩⟩
              · have HE := Lib.hid (And.intro (show patR 1 v T.tree (q ++ [s]) = .error 4 from by rw [hpr, if_neg (by omega)]) o06)
                clear hle hpr hO6 o06 o56 ho6 hlow
                go_wp2_with fail
                go_ret
                exact ⟨HE.out.2, by rw [HE.out.1]; rfl⟩
    · have HE := Lib.hid (show patR 1 v T.tree (q ++ [s]) = .error 6 from by
        unfold patR
        rw [if_neg (by rw [HH.out.2.2.2.2.2.1, HH.out.2.2.2.2.2.2]; simp), if_neg (by simp), hn 1 (JT.leaf v) [s] (by simp)])
      clear hn
      go_wp2_with fail
      go_ret
      exact ⟨Only.of_below HD.out.1, by rw [HE.out]; rfl⟩
end Go.Proofs.YtbfmdpgghknccaaDoor
