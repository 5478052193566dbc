/- DiskPlays: what Do does to K, told by its likeness. -/
import Derived.Test.YtbfmdpgghknccaaDoorPlayCrash
import Derived.Test.YtbfmdpgghknccaaDoorKDo1
import Derived.Test.YtbfmdpgghknccaaDoorKDo2
import Derived.Test.YtbfmdpgghknccaaDoorKDo3
import Derived.Test.YtbfmdpgghknccaaDoorKDo4
import Derived.Test.YtbfmdpgghknccaaDoorKDo5
import Derived.Test.YtbfmdpgghknccaaDoorKDo6
import Derived.Test.YtbfmdpgghknccaaDoorKDo7
import Derived.Test.YtbfmdpgghknccaaDoorKDoFull
namespace Go.Proofs.YtbfmdpgghknccaaDoor
open Go.RowKit Go.Maps
set_option linter.unusedVariables false
set_option linter.unusedSimpArgs false
set_option linter.unusedSectionVars false

section
variable {B0 m : Nat} {w : World} {k : Nat} {fm : List FM} {FA : Option Addr} {Fc : Nat} {NA : Option Addr} {Nc : Nat} {SA : Option Addr} {Sc : Nat} {ks : KZ}
theorem KSide.len (h : KSide B0 w k fm FA Fc NA Nc SA Sc ks) : fm.length = ks.files.length := by rw [← h.fs, List.length_map]
theorem KSide.at_ (h : KSide B0 w k fm FA Fc NA Nc SA Sc ks) {i : Nat} (hi : i < ks.files.length) : ∃ f, fm[i]? = some f ∧ ks.files[i]? = some (f.b, f.s) := by
  obtain ⟨f, h1⟩ : ∃ f, fm[i]? = some f := ⟨_, List.getElem?_eq_getElem (by rw [h.len]; exact hi)⟩
  exact ⟨f, h1, by rw [← h.fs, List.getElem?_map, h1]; rfl⟩
theorem KSide.bd (h : KSide B0 w k fm FA Fc NA Nc SA Sc ks) (hw : Wf ks m) (hm : m ≤ 1000) : fm.length ≤ 1000000 ∧ ks.names.length ≤ 1000000 ∧ ks.safe.length ≤ 1000000 ∧ 0 ≤ ks.steps ∧ ks.steps ≤ 1000000000000 := by
  have h1 := hw.bd
  rw [h.len]
  omega
theorem KPost.of (h : KSide B0 w k fm FA Fc NA Nc SA Sc ks) {P : List FM → Prop} {ks' : KZ} {e : Ending} {w' : World} (hq : KDoQ w k fm FA P ks'.names ks'.safe ks'.steps ks'.stop e w') (hP : ∀ l, P l → l.map (fun f => (f.b, f.s)) = ks'.files) : KPost B0 w k fm FA 0 ks' e w' := by
  obtain ⟨rfl, fmn, FA', Fc', NA', Nc', SA', Sc', hka, hp, hA, hFA, ho⟩ := hq
  have hB : B0 ≤ w.heap.size := by
    have := h.base.1
    have := h.ka.blk.lt
    omega
  refine ⟨rfl, fmn, FA', Fc', NA', Nc', SA', Sc', ⟨hka, hP fmn hp, h.base.1, fun a ha => ?_⟩, ho, hA⟩
  rcases hFA with hFA | ⟨a', hFA, hlt⟩
  · exact h.base.2 a (by rw [← hFA]; exact ha)
  · rw [hFA] at ha
    injection ha with ha
    subst ha
    omega

variable (h : KSide B0 w k fm FA Fc NA Nc SA Sc ks) (hw : Wf ks m) (hm : m ≤ 1000) (nm tn : ByteArray) (hs : nm.size ≤ maxLen) (ht : tn.size ≤ maxLen) (B : Option Addr) (n : Int)
include h hw hm hs ht
theorem k_1 (bl bc : Nat) : Calls Tryd.prog 34 #[.pointer (some ⟨k, 0, none⟩), wV 1 nm tn B bl bc n] w (KPost B0 w k fm FA (ks.fault 1 (rnamedB nm) (kFile ks.names nm.data.toList) 0) (ks.nx 1 (rnamedB nm) nm.data.toList [] [])) := by
  obtain ⟨hfl, hnl, hsl, hst0, hst9⟩ := h.bd hw hm
  by_cases hgo : Goes ks.steps ks.stop
  · have hg0 := KZ.go_true hgo
    cases hg : rnamedB nm with
    | false =>
      have e1 : ks.fault 1 false (kFile ks.names nm.data.toList) 0 = 2 := by simp [KZ.fault, hg0]
      have e2 : ks.nx 1 false nm.data.toList [] [] = ks := by simp [KZ.nx, e1]
      rw [e1, e2]
      refine (kdo_1_bad k fm _ _ _ _ FA Fc NA Nc SA Sc nm tn B bl bc n _ w h.ka hnl hs ht rfl hgo hg).mono ?_
      rintro e w' ⟨rfl, hb⟩
      exact .no h hb _
    | true =>
      cases hk : kFile ks.names nm.data.toList with
      | some i =>
        have e1 : ks.fault 1 true (some i) 0 = 8 := by simp [KZ.fault, hg0]
        have e2 : ks.nx 1 true nm.data.toList [] [] = ks := by simp [KZ.nx, hk, e1]
        rw [e1, e2]
        refine (kdo_1_there k fm _ _ _ _ FA Fc NA Nc SA Sc nm tn B bl bc n _ w h.ka hnl hs ht rfl hgo hg i hk).mono ?_
        rintro e w' ⟨rfl, hb⟩
        exact .no h hb _
      | none =>
        have e1 : ks.fault 1 true none 0 = 0 := by simp [KZ.fault, hg0]
        have e2 : ks.nx 1 true nm.data.toList [] [] = { ks with steps := ks.steps + 1, files := ks.files ++ [([], 0)], names := without ks.names [] ++ [(nm.data.toList, fm.length)] } := by simp [KZ.nx, hk, e1, KZ.step, h.len]
        rw [e1, e2]
        refine (kdo_1 k fm _ _ _ _ FA Fc NA Nc SA Sc nm tn B bl bc n _ w h.ka hnl hs ht rfl hgo hst0 hst9 hg hk hfl).mono ?_
        intro e w' hq
        refine .of h hq ?_
        rintro l rfl
        simp [h.fs]
  · have e1 : ∀ g at_, ks.fault 1 g at_ 0 = 7 := fun g at_ => by simp [KZ.fault, KZ.go_false hgo]
    have e2 : ks.nx 1 (rnamedB nm) nm.data.toList [] [] = ks := by simp [KZ.nx, e1]
    rw [e1, e2]
    refine (kdo_stopped k fm _ _ _ _ FA Fc NA Nc SA Sc nm tn B bl bc n 1 w h.ka rfl rfl hgo).mono ?_
    rintro e w' ⟨rfl, hb⟩
    exact .no h hb _

theorem k_2 (ys : List Int) (bc : Nat) (hB : SlAt w B (u8s ys)) (hBd : ys ≠ [] → ∀ a, B = some a → a.block < B0) (hl : ys.length ≤ maxLen) : Calls Tryd.prog 34 #[.pointer (some ⟨k, 0, none⟩), wV 2 nm tn B ys.length bc n] w (KPost B0 w k fm FA (ks.fault 2 (rnamedB nm) (kFile ks.names nm.data.toList) ys.length) (ks.nx 2 (rnamedB nm) nm.data.toList [] ys)) := by
  obtain ⟨hfl, hnl, hsl, hst0, hst9⟩ := h.bd hw hm
  by_cases hgo : Goes ks.steps ks.stop
  · have hg0 := KZ.go_true hgo
    cases hg : rnamedB nm with
    | false =>
      have e1 : ∀ l, ks.fault 2 false (kFile ks.names nm.data.toList) l = 2 := fun l => by simp [KZ.fault, hg0]
      have e2 : ks.nx 2 false nm.data.toList [] ys = ks := by simp [KZ.nx, e1]
      rw [e1, e2]
      refine (kdo_2_bad k fm _ _ _ _ FA Fc NA Nc SA Sc nm tn B ys.length bc n _ w h.ka hnl hs ht rfl hgo hg).mono ?_
      rintro e w' ⟨rfl, hb⟩
      exact .no h hb _
    | true =>
      cases hk : kFile ks.names nm.data.toList with
      | none =>
        have e1 : ∀ l, ks.fault 2 true none l = 6 := fun l => by simp [KZ.fault, hg0]
        have e2 : ks.nx 2 true nm.data.toList [] ys = ks := by simp [KZ.nx, hk, e1]
        rw [e1, e2]
        refine (kdo_2_none k fm _ _ _ _ FA Fc NA Nc SA Sc nm tn B ys.length bc n _ w h.ka hnl hs ht rfl hgo hg hk).mono ?_
        rintro e w' ⟨rfl, hb⟩
        exact .no h hb _
      | some i =>
        obtain ⟨f, hf, hfx⟩ := h.at_ (hw.idx hk)
        have hsz := hw.sz _ (List.mem_of_getElem? hfx)
        by_cases hfull : 60000 < f.b.length + ys.length
        · have e1 : ks.fault 2 true (some i) ys.length = 4 := by simp [KZ.fault, hg0, hfx, hfull]
          have e2 : ks.nx 2 true nm.data.toList [] ys = ks := by simp [KZ.nx, hk, e1]
          rw [e1, e2]
          refine (kdo_2_full k fm _ _ _ _ FA Fc NA Nc SA Sc nm tn B ys.length bc n _ w h.ka hnl hs ht rfl hgo hg i hk f (Lib.hid hf) hfl hl hsz.2 hfull).mono ?_
          rintro e w' ⟨rfl, hb⟩
          exact .no h hb _
        · have e1 : ks.fault 2 true (some i) ys.length = 0 := by simp [KZ.fault, hg0, hfx, hfull]
          have e2 : ks.nx 2 true nm.data.toList [] ys = { ks with steps := ks.steps + 1, files := ks.files.set i (f.b ++ ys, f.s) } := by simp [KZ.nx, hk, e1, KZ.step, modify_is hfx]
          rw [e1, e2]
          refine (kdo_2 k fm _ _ _ _ FA Fc NA Nc SA Sc nm tn B ys.length bc n _ w h.ka hnl hs ht rfl hgo hst0 hst9 hg i hk f (Lib.hid hf) hfl ys hB rfl (by omega) (fun hy a ha e => by have := hBd hy a ha; have := h.base.1; omega)).mono ?_
          intro e w' hq
          refine .of h hq ?_
          rintro l ⟨A', c', rfl⟩
          rw [List.map_set, h.fs]
  · have e1 : ∀ g at_ l, ks.fault 2 g at_ l = 7 := fun g at_ l => by simp [KZ.fault, KZ.go_false hgo]
    have e2 : ks.nx 2 (rnamedB nm) nm.data.toList [] ys = ks := by simp [KZ.nx, e1]
    rw [e1, e2]
    refine (kdo_stopped k fm _ _ _ _ FA Fc NA Nc SA Sc nm tn B ys.length bc n 2 w h.ka rfl rfl hgo).mono ?_
    rintro e w' ⟨rfl, hb⟩
    exact .no h hb _

theorem k_3 (bl bc : Nat) : Calls Tryd.prog 34 #[.pointer (some ⟨k, 0, none⟩), wV 3 nm tn B bl bc n] w (KPost B0 w k fm FA (ks.fault 3 (rnamedB nm) (kFile ks.names nm.data.toList) 0) (ks.nx 3 (rnamedB nm) nm.data.toList [] [])) := by
  obtain ⟨hfl, hnl, hsl, hst0, hst9⟩ := h.bd hw hm
  by_cases hgo : Goes ks.steps ks.stop
  · have hg0 := KZ.go_true hgo
    cases hg : rnamedB nm with
    | false =>
      have e1 : ks.fault 3 false (kFile ks.names nm.data.toList) 0 = 2 := by simp [KZ.fault, hg0]
      have e2 : ks.nx 3 false nm.data.toList [] [] = ks := by simp [KZ.nx, e1]
      rw [e1, e2]
      refine (kdo_3_bad k fm _ _ _ _ FA Fc NA Nc SA Sc nm tn B bl bc n _ w h.ka hnl hs ht rfl hgo hg).mono ?_
      rintro e w' ⟨rfl, hb⟩
      exact .no h hb _
    | true =>
      cases hk : kFile ks.names nm.data.toList with
      | none =>
        have e1 : ks.fault 3 true none 0 = 6 := by simp [KZ.fault, hg0]
        have e2 : ks.nx 3 true nm.data.toList [] [] = ks := by simp [KZ.nx, hk, e1]
        rw [e1, e2]
        refine (kdo_3_none k fm _ _ _ _ FA Fc NA Nc SA Sc nm tn B bl bc n _ w h.ka hnl hs ht rfl hgo hg hk).mono ?_
        rintro e w' ⟨rfl, hb⟩
        exact .no h hb _
      | some i =>
        obtain ⟨f, hf, hfx⟩ := h.at_ (hw.idx hk)
        have e1 : ks.fault 3 true (some i) 0 = 0 := by simp [KZ.fault, hg0]
        have e2 : ks.nx 3 true nm.data.toList [] [] = { ks with steps := ks.steps + 1, files := ks.files.set i (f.b, f.b.length) } := by simp [KZ.nx, hk, e1, KZ.step, modify_is hfx]
        rw [e1, e2]
        refine (kdo_3 k fm _ _ _ _ FA Fc NA Nc SA Sc nm tn B bl bc n _ w h.ka hnl hs ht rfl hgo hst0 hst9 hg i hk f (Lib.hid hf) hfl).mono ?_
        intro e w' hq
        refine .of h hq ?_
        rintro l rfl
        rw [List.map_set, h.fs]
  · have e1 : ∀ g at_, ks.fault 3 g at_ 0 = 7 := fun g at_ => by simp [KZ.fault, KZ.go_false hgo]
    have e2 : ks.nx 3 (rnamedB nm) nm.data.toList [] [] = ks := by simp [KZ.nx, e1]
    rw [e1, e2]
    refine (kdo_stopped k fm _ _ _ _ FA Fc NA Nc SA Sc nm tn B bl bc n 3 w h.ka rfl rfl hgo).mono ?_
    rintro e w' ⟨rfl, hb⟩
    exact .no h hb _

theorem k_4 (bl bc : Nat) (g : Bool) (s : List UInt8) : Calls Tryd.prog 34 #[.pointer (some ⟨k, 0, none⟩), wV 4 nm tn B bl bc n] w (KPost B0 w k fm FA (ks.fault 4 g (kFile ks.names s) 0) (ks.nx 4 g s [] [])) := by
  obtain ⟨hfl, hnl, hsl, hst0, hst9⟩ := h.bd hw hm
  by_cases hgo : Goes ks.steps ks.stop
  · have e1 : ks.fault 4 g (kFile ks.names s) 0 = 0 := by simp [KZ.fault, KZ.go_true hgo]
    have e2 : ks.nx 4 g s [] [] = { ks with steps := ks.steps + 1, safe := without ks.names [] } := by simp [KZ.nx, e1, KZ.step]
    rw [e1, e2]
    refine (kdo_4 k fm _ _ _ _ FA Fc NA Nc SA Sc nm tn B bl bc n _ w h.ka hnl hs ht rfl hgo hst0 hst9).mono ?_
    intro e w' hq
    refine .of h hq ?_
    rintro l rfl
    exact h.fs
  · have e1 : ∀ g at_, ks.fault 4 g at_ 0 = 7 := fun g at_ => by simp [KZ.fault, KZ.go_false hgo]
    have e2 : ks.nx 4 g s [] [] = ks := by simp [KZ.nx, e1]
    rw [e1, e2]
    refine (kdo_stopped k fm _ _ _ _ FA Fc NA Nc SA Sc nm tn B bl bc n 4 w h.ka rfl rfl hgo).mono ?_
    rintro e w' ⟨rfl, hb⟩
    exact .no h hb _

theorem k_6 (bl bc : Nat) : Calls Tryd.prog 34 #[.pointer (some ⟨k, 0, none⟩), wV 6 nm tn B bl bc n] w (KPost B0 w k fm FA (ks.fault 6 (rnamedB nm) (kFile ks.names nm.data.toList) 0) (ks.nx 6 (rnamedB nm) nm.data.toList [] [])) := by
  obtain ⟨hfl, hnl, hsl, hst0, hst9⟩ := h.bd hw hm
  by_cases hgo : Goes ks.steps ks.stop
  · have hg0 := KZ.go_true hgo
    cases hg : rnamedB nm with
    | false =>
      have e1 : ks.fault 6 false (kFile ks.names nm.data.toList) 0 = 2 := by simp [KZ.fault, hg0]
      have e2 : ks.nx 6 false nm.data.toList [] [] = ks := by simp [KZ.nx, e1]
      rw [e1, e2]
      refine (kdo_6_bad k fm _ _ _ _ FA Fc NA Nc SA Sc nm tn B bl bc n _ w h.ka hnl hs ht rfl hgo hg).mono ?_
      rintro e w' ⟨rfl, hb⟩
      exact .no h hb _
    | true =>
      cases hk : kFile ks.names nm.data.toList with
      | none =>
        have e1 : ks.fault 6 true none 0 = 6 := by simp [KZ.fault, hg0]
        have e2 : ks.nx 6 true nm.data.toList [] [] = ks := by simp [KZ.nx, hk, e1]
        rw [e1, e2]
        refine (kdo_6_none k fm _ _ _ _ FA Fc NA Nc SA Sc nm tn B bl bc n _ w h.ka hnl hs ht rfl hgo hg hk).mono ?_
        rintro e w' ⟨rfl, hb⟩
        exact .no h hb _
      | some i =>
        have e1 : ks.fault 6 true (some i) 0 = 0 := by simp [KZ.fault, hg0]
        have e2 : ks.nx 6 true nm.data.toList [] [] = { ks with steps := ks.steps + 1, names := without ks.names nm.data.toList } := by simp [KZ.nx, hk, e1, KZ.step]
        rw [e1, e2]
        refine (kdo_6 k fm _ _ _ _ FA Fc NA Nc SA Sc nm tn B bl bc n _ w h.ka hnl hs ht rfl hgo hst0 hst9 hg i hk).mono ?_
        intro e w' hq
        refine .of h hq ?_
        rintro l rfl
        exact h.fs
  · have e1 : ∀ g at_, ks.fault 6 g at_ 0 = 7 := fun g at_ => by simp [KZ.fault, KZ.go_false hgo]
    have e2 : ks.nx 6 (rnamedB nm) nm.data.toList [] [] = ks := by simp [KZ.nx, e1]
    rw [e1, e2]
    refine (kdo_stopped k fm _ _ _ _ FA Fc NA Nc SA Sc nm tn B bl bc n 6 w h.ka rfl rfl hgo).mono ?_
    rintro e w' ⟨rfl, hb⟩
    exact .no h hb _

theorem k_5 (bl bc : Nat) : Calls Tryd.prog 34 #[.pointer (some ⟨k, 0, none⟩), wV 5 nm tn B bl bc n] w (KPost B0 w k fm FA (ks.fault 5 (rnamedB nm && rnamedB tn) (kFile ks.names nm.data.toList) 0) (ks.nx 5 (rnamedB nm && rnamedB tn) nm.data.toList tn.data.toList [])) := by
  obtain ⟨hfl, hnl, hsl, hst0, hst9⟩ := h.bd hw hm
  by_cases hgo : Goes ks.steps ks.stop
  · have hg0 := KZ.go_true hgo
    have e1 : ks.fault 5 false (kFile ks.names nm.data.toList) 0 = 2 := by simp [KZ.fault, hg0]
    have e2 : ks.nx 5 false nm.data.toList tn.data.toList [] = ks := by simp [KZ.nx, e1]
    cases hg : rnamedB nm with
    | false =>
      rw [Bool.false_and, e1, e2]
      refine (kdo_5_bad k fm _ _ _ _ FA Fc NA Nc SA Sc nm tn B bl bc n _ w h.ka hnl hs ht rfl hgo hg).mono ?_
      rintro e w' ⟨rfl, hb⟩
      exact .no h hb _
    | true =>
      rw [Bool.true_and]
      cases hgt : rnamedB tn with
      | false =>
        rw [e1, e2]
        refine (kdo_5_bad2 k fm _ _ _ _ FA Fc NA Nc SA Sc nm tn B bl bc n _ w h.ka hnl hs ht rfl hgo hg hgt).mono ?_
        rintro e w' ⟨rfl, hb⟩
        exact .no h hb _
      | true =>
        cases hk : kFile ks.names nm.data.toList with
        | none =>
          have e1 : ks.fault 5 true none 0 = 6 := by simp [KZ.fault, hg0]
          have e2 : ks.nx 5 true nm.data.toList tn.data.toList [] = ks := by simp [KZ.nx, hk, e1]
          rw [e1, e2]
          refine (kdo_5_none k fm _ _ _ _ FA Fc NA Nc SA Sc nm tn B bl bc n _ w h.ka hnl hs ht rfl hgo hg hgt hk).mono ?_
          rintro e w' ⟨rfl, hb⟩
          exact .no h hb _
        | some i =>
          have e1 : ks.fault 5 true (some i) 0 = 0 := by simp [KZ.fault, hg0]
          have e2 : ks.nx 5 true nm.data.toList tn.data.toList [] = { ks with steps := ks.steps + 1, names := without (without ks.names nm.data.toList) tn.data.toList ++ [(tn.data.toList, i)] } := by simp [KZ.nx, hk, e1, KZ.step]
          rw [e1, e2]
          refine (kdo_5 k fm _ _ _ _ FA Fc NA Nc SA Sc nm tn B bl bc n _ w h.ka hnl hs ht rfl hgo hst0 hst9 hg i hk hgt).mono ?_
          intro e w' hq
          refine .of h hq ?_
          rintro l rfl
          exact h.fs
  · have e1 : ∀ g at_, ks.fault 5 g at_ 0 = 7 := fun g at_ => by simp [KZ.fault, KZ.go_false hgo]
    have e2 : ks.nx 5 (rnamedB nm && rnamedB tn) nm.data.toList tn.data.toList [] = ks := by simp [KZ.nx, e1]
    rw [e1, e2]
    refine (kdo_stopped k fm _ _ _ _ FA Fc NA Nc SA Sc nm tn B bl bc n 5 w h.ka rfl rfl hgo).mono ?_
    rintro e w' ⟨rfl, hb⟩
    exact .no h hb _

theorem k_7 (bl bc : Nat) : Calls Tryd.prog 34 #[.pointer (some ⟨k, 0, none⟩), wV 7 nm tn B bl bc n] w (KPost B0 w k fm FA 0 (ks.crash n)) := by
  obtain ⟨hfl, hnl, hsl, hst0, hst9⟩ := h.bd hw hm
  have hsz : ∀ f ∈ fm, f.s ≤ f.b.length ∧ f.b.length ≤ 60000 := by
    intro f hf
    have : (f.b, f.s) ∈ ks.files := by rw [← h.fs]; exact List.mem_map.2 ⟨f, hf, rfl⟩
    exact hw.sz _ this
  have hq7 := kdo_7 k fm ks.names ks.safe ks.steps ks.stop FA Fc NA Nc SA Sc nm tn B bl bc n w h.ka hsl hfl (fun x hx => by rw [h.len]; exact (hw.ix x (.inr hx)).1) hsz
  rw [h.len] at hq7
  refine hq7.mono ?_
  intro e w' hq
  refine .of h (ks' := ks.crash n) hq ?_
  rintro l ⟨gs, rfl, hgs⟩
  rw [List.map_append, hgs, h.fs]
  show _ = ks.files ++ ks.safe.map _
  congr 1
  refine List.map_congr_left (fun x hx => ?_)
  congr 1
  unfold fbs
  rw [List.getD_eq_getElem?_getD, ← h.fs, List.getElem?_map]
theorem k_8 (bl bc : Nat) : Calls Tryd.prog 34 #[.pointer (some ⟨k, 0, none⟩), wV 8 nm tn B bl bc n] w (KPost B0 w k fm FA 0 { ks with stop := max (-1) n }) := by
  refine (kdo_8 k fm _ _ _ _ FA Fc NA Nc SA Sc nm tn B bl bc n w h.ka).mono ?_
  rintro e w' ⟨rfl, hka, ho⟩
  exact ⟨rfl, fm, FA, Fc, NA, Nc, SA, Sc, ⟨hka, h.fs, h.base⟩, ho.mono (fun q _ hq => .inl hq), fun f hf a ha => .inl ⟨f, hf, ha⟩⟩
end
end Go.Proofs.YtbfmdpgghknccaaDoor
