/- DiskPlays: what each operation does to a disk, told by its likeness. -/
import Derived.Test.YtbfmdpgghknccaaDoorPlaySt
namespace Go.Proofs.YtbfmdpgghknccaaDoor
open Go.RowKit Go.Maps
set_option linter.unusedVariables false
set_option linter.unusedSimpArgs false

theorem get_snoc {α : Type} {l : List α} {a x : α} {i : Nat} (h : (l ++ [a])[i]? = some x) : l[i]? = some x ∨ (i = l.length ∧ x = a) := by
  rcases Nat.lt_trichotomy i l.length with hi | hi | hi
  · exact .inl (by rw [List.getElem?_append_left hi] at h; exact h)
  · subst hi
    rw [List.getElem?_append_right (Nat.le_refl _)] at h
    exact .inr ⟨rfl, by simpa using h.symm⟩
  · rw [List.getElem?_append_right (by omega), List.getElem?_eq_none (by simp; omega)] at h
    cases h
theorem KZ.go_true {ks : KZ} (h : Goes ks.steps ks.stop) : ks.go = true := by
  unfold KZ.go
  unfold Goes at h
  simp
  omega
theorem KZ.go_false {ks : KZ} (h : ¬ Goes ks.steps ks.stop) : ks.go = false := by
  unfold KZ.go
  unfold Goes at h
  simp
  omega
theorem stepE_no {steps stop : Int} {err : Option Int} (h : ¬ Goes steps stop) : stepE steps stop err = some 7 := by
  unfold stepE Goes at *
  rw [if_pos (Classical.not_not.1 h)]
def KZ.nx (k : KZ) (kind : Int) (g : Bool) (s t : List UInt8) (b : List Int) : KZ := if k.fault kind g (kFile k.names s) b.length = 0 then k.step kind s t b (kFile k.names s) else k

section
variable {B0 m : Nat} {w : World} {d bn bs : Nat} {N S : DataW Nat} {dl : List DF} {ks : KZ}
theorem DSide.fls_dk (h : DSide B0 w d bn bs N S dl ks) {w' : World} (ho : Only (fun k => k = d ∨ k = bn) w w') : ∀ (i : Nat) (x : DF) (g : List Int × Nat), dl[i]? = some x → ks.files[i]? = some g → Fl w' x.f x.A x.c g.1 g.2 :=
  fun i x g hx hg => (h.fl i x g hx hg).dk h.dk ho
theorem DSide.sizeN (h : DSide B0 w d bn bs N S dl ks) (hw : Wf ks m) (hm : m ≤ 1000) : Maps.size N < maxLen := by
  rw [h.mN.size h.dk.nm.tight hw.nn]
  have := hw.bd.1
  unfold maxLen
  omega
theorem DSide.sizeS (h : DSide B0 w d bn bs N S dl ks) (hw : Wf ks m) (hm : m ≤ 1000) : Maps.size S < maxLen := by
  rw [h.mS.size h.dk.sf.tight hw.ns]
  have := hw.bd.2.1
  unfold maxLen
  omega
theorem DX.of_dk {q : Nat} (h : q = d ∨ q = bn) : DX d bn dl q := h.imp id .inl
theorem Wf.steps9 {ks : KZ} (hw : Wf ks m) (hm : m ≤ 1000) : 0 ≤ ks.steps ∧ ks.steps ≤ 1000000000000 := by
  have := hw.bd
  omega
theorem Wf.idx {ks : KZ} (hw : Wf ks m) {s : List UInt8} {i : Nat} (h : kFile ks.names s = some i) : i < ks.files.length := (hw.ix _ (.inl (kFile_mem h))).1

theorem d_create (h : DSide B0 w d bn bs N S dl ks) (hw : Wf ks m) (hm : m ≤ 1000) (s : ByteArray) (hs : s.size ≤ maxLen) :
    Calls Tryd.prog 26 #[.pointer (some ⟨d, 0, none⟩), .string s] w (DPost B0 w d bn dl (errV (errOf (ks.fault 1 (goodB s) (kFile ks.names s.data.toList) 0))) (ks.nx 1 (goodB s) s.data.toList [] [])) := by
  have hat := (h.mN s.data.toList).2
  by_cases hgo : Goes ks.steps ks.stop
  · have hg0 := KZ.go_true hgo
    cases hg : goodB s with
    | false =>
      have e1 : ks.fault 1 false (kFile ks.names s.data.toList) 0 = 2 := by simp [KZ.fault, hg0]
      have e2 : ks.nx 1 false s.data.toList [] [] = ks := by simp [KZ.nx, e1]
      rw [e1, e2]
      refine (create_no d bn bs N S ks.steps ks.stop s _ 2 w h.dk hs hat (by rw [stepE_goes hgo]; simp [createE, hg])).mono ?_
      rintro e w' ⟨rfl, hb⟩
      exact .no h hb _
    | true =>
      cases hk : kFile ks.names s.data.toList with
      | some i =>
        have e1 : ks.fault 1 true (some i) 0 = 8 := by simp [KZ.fault, hg0]
        have e2 : ks.nx 1 true s.data.toList [] [] = ks := by simp [KZ.nx, hk, e1]
        rw [e1, e2]
        obtain ⟨x, g, hx, hgx, hf⟩ := h.at_ (hw.idx hk)
        have hat2 := h.mN.some_ hk (fsOf_at hx)
        refine (create_no d bn bs N S ks.steps ks.stop s (some x.f) 8 w h.dk hs hat2 (by rw [stepE_goes hgo]; simp [createE, hg])).mono ?_
        rintro e w' ⟨rfl, hb⟩
        exact .no h hb _
      | none =>
        have e1 : ks.fault 1 true none 0 = 0 := by simp [KZ.fault, hg0]
        have e2 : ks.nx 1 true s.data.toList [] [] = { ks with steps := ks.steps + 1, files := ks.files ++ [([], 0)], names := ks.names ++ [(s.data.toList, ks.files.length)] } := by simp [KZ.nx, hk, e1, KZ.step, hw.plain]
        rw [e1, e2]
        refine (create_ok d bn bs N S ks.steps ks.stop s w h.dk hgo (hw.steps9 hm).1 (hw.steps9 hm).2 hs hg (h.mN.none_ hk) (h.sizeN hw hm)).mono ?_
        rintro e w' ⟨rfl, f, hf, hd', hfl, ho⟩
        have hlt : ∀ (i : Nat) (x : DF), dl[i]? = some x → x.f < w.heap.size ∧ i < ks.files.length := by
          intro i x hx
          obtain ⟨xs, sf, hx2⟩ := h.mem (List.mem_of_getElem? hx)
          exact ⟨hx2.blk.lt, by rw [← h.len]; exact (List.getElem?_eq_some_iff.1 hx).1⟩
        have hB : B0 ≤ f := by
          have := h.base.1
          have := h.dk.blk.lt
          omega
        refine ⟨rfl, bn, bs, _, S, dl ++ [⟨f, none, 0⟩], ⟨hd', by simp [h.len], ?_, ?_, ?_, ?_, h.base.1, h.base.2.1, ?_⟩, ho.mono (fun q _ hq => DX.of_dk hq), ?_⟩
        · intro i x g hx hg2
          rcases get_snoc hx with hx | ⟨hi, rfl⟩
          · rcases get_snoc hg2 with hg2 | ⟨hi, rfl⟩
            · exact h.fls_dk ho i x g hx hg2
            · have := (hlt i x hx).2
              omega
          · rcases get_snoc hg2 with hg2 | ⟨hi, rfl⟩
            · have := (List.getElem?_eq_some_iff.1 hg2).1
              rw [hi, h.len] at this
              omega
            · exact hfl
        · intro i j x y hx hy hij
          rcases get_snoc hx with hx | ⟨hi, rfl⟩
          · rcases get_snoc hy with hy | ⟨hj, rfl⟩
            · exact h.inj i j x y hx hy hij
            · have := (hlt i x hx).1
              exact ⟨by show x.f ≠ f; omega, fun a b _ hb => by cases hb⟩
          · rcases get_snoc hy with hy | ⟨hj, rfl⟩
            · have := (hlt j y hy).1
              exact ⟨by show f ≠ y.f; omega, fun a b hb _ => by cases hb⟩
            · exact absurd (hi.trans hj.symm) hij
        · have hfs : fsOf (dl ++ [⟨f, none, 0⟩]) = fsOf dl ++ [f] := by simp [fsOf]
          rw [hfs]
          refine (h.mN.more [f] (fun x hx => ?_)).put h.dk.nm.tight.isMap s.data.toList ks.files.length f ?_ (fun t => kFile_snoc _ _ _ _ hk)
          · have := (hw.ix x (.inl hx)).1
            simpa [fsOf, h.len] using this
          · rw [List.getElem?_append_right (by simp [fsOf, h.len])]
            simp [fsOf, h.len]
        · have hfs : fsOf (dl ++ [⟨f, none, 0⟩]) = fsOf dl ++ [f] := by simp [fsOf]
          rw [hfs]
          refine h.mS.more [f] (fun x hx => ?_)
          have := (hw.ix x (.inr hx)).1
          simpa [fsOf, h.len] using this
        · intro x hx
          rcases List.mem_append.1 hx with hx | hx
          · exact h.base.2.2 x hx
          · obtain rfl : x = ⟨f, none, 0⟩ := by simpa using hx
            exact ⟨hB, fun a ha => by cases ha⟩
        · intro x hx a ha
          rcases List.mem_append.1 hx with hx | hx
          · exact .inl ⟨x, hx, ha⟩
          · obtain rfl : x = ⟨f, none, 0⟩ := by simpa using hx
            cases ha
  · have e1 : ∀ g at_, ks.fault 1 g at_ 0 = 7 := fun g at_ => by simp [KZ.fault, KZ.go_false hgo]
    have e2 : ks.nx 1 (goodB s) s.data.toList [] [] = ks := by simp [KZ.nx, e1]
    rw [e1, e2]
    refine (create_no d bn bs N S ks.steps ks.stop s _ 7 w h.dk hs hat (stepE_no hgo)).mono ?_
    rintro e w' ⟨rfl, hb⟩
    exact .no h hb _

/-- A file whose bytes or safe count turned. -/
theorem DSide.set_ (h : DSide B0 w d bn bs N S dl ks) {w' : World} {i : Nat} {x : DF} {g : List Int × Nat} (hx : dl[i]? = some x) (hg : ks.files[i]? = some g) (A' : Option Addr) (c' : Nat) (g' : List Int × Nat) (st : Int)
    (hd' : Dk w' d bn bs N S st ks.stop) (hfl : Fl w' x.f A' c' g'.1 g'.2) (hA : A' = x.A ∨ ∃ a, A' = some a ∧ w.heap.size ≤ a.block) (ho : Only (fun k => k = d ∨ k = x.f ∨ ∃ a, x.A = some a ∧ k = a.block) w w') :
    DSide B0 w' d bn bs N S (dl.set i ⟨x.f, A', c'⟩) { ks with steps := st, files := ks.files.set i g' } ∧ Only (DX d bn dl) w w' ∧ ∀ y ∈ dl.set i ⟨x.f, A', c'⟩, ∀ a, y.A = some a → (∃ z ∈ dl, z.A = some a) ∨ w.heap.size ≤ a.block := by
  have hxm := List.mem_of_getElem? hx
  have hfx := h.fl i x g hx hg
  have hbase := h.base.2.2 x hxm
  have hBs : B0 ≤ w.heap.size := by
    have := h.base.1
    have := h.dk.blk.lt
    omega
  have hold : ∀ (y : DF), y ∈ dl → y.f < w.heap.size ∧ ∀ a, y.A = some a → a.block < w.heap.size := by
    intro y hy
    obtain ⟨xs, sf, hy2⟩ := h.mem hy
    refine ⟨hy2.blk.lt, fun a ha => ?_⟩
    obtain ⟨_, cur, hc⟩ := row_type hy2.row a ha
    exact hc.lt
  refine ⟨⟨hd', by simp [h.len], ?_, ?_, ?_, ?_, h.base.1, h.base.2.1, ?_⟩, ho.mono (fun q _ hq => ?_), ?_⟩
  · intro j y gj hy hgj
    by_cases e : j = i
    · subst e
      have h1 : (dl.set j ⟨x.f, A', c'⟩)[j]? = some ⟨x.f, A', c'⟩ := by rw [List.getElem?_set_self ((List.getElem?_eq_some_iff.1 hx).1)]
      have h2 : (ks.files.set j g')[j]? = some g' := by rw [List.getElem?_set_self ((List.getElem?_eq_some_iff.1 hg).1)]
      rw [h1] at hy
      rw [h2] at hgj
      cases hy
      cases hgj
      exact hfl
    · rw [List.getElem?_set_ne (fun e2 => e e2.symm)] at hy hgj
      have hfy := h.fl j y gj hy hgj
      have hne := h.inj j i y x hy hx e
      refine hfy.only ho ?_ ?_
      · rintro (e | e | ⟨a, ha, e⟩)
        · exact absurd ((e ▸ hfy.blk).same_type h.dk.blk) (by decide)
        · exact hne.1 e
        · obtain ⟨_, cur, hc⟩ := row_type hfx.row a ha
          exact absurd ((e ▸ hfy.blk).same_type hc) (by decide)
      · rintro b hb (e | e | ⟨a, ha, e⟩)
        · exact hfy.ne_blk h.dk.blk (by decide) b hb e
        · exact hfy.ne_blk hfx.blk (by decide) b hb e
        · exact hne.2 b a hb ha e
  · intro j l y z hy hz hjl
    have hne : ∀ (j : Nat) (y : DF), dl[j]? = some y → j ≠ i → y.f ≠ x.f ∧ ∀ a b, y.A = some a → A' = some b → a.block ≠ b.block := by
      intro j y hy hj
      refine ⟨(h.inj j i y x hy hx hj).1, fun a b ha hb => ?_⟩
      rcases hA with hA | ⟨a', hA, hlt⟩
      · exact (h.inj j i y x hy hx hj).2 a b ha (by rw [← hA]; exact hb)
      · rw [hA] at hb
        cases hb
        have := (hold y (List.mem_of_getElem? hy)).2 a ha
        omega
    by_cases ej : j = i
    · subst ej
      rw [List.getElem?_set_self ((List.getElem?_eq_some_iff.1 hx).1)] at hy
      cases hy
      rw [List.getElem?_set_ne hjl] at hz
      have := hne l z hz (fun e => hjl e.symm)
      exact ⟨fun e => this.1 e.symm, fun a b ha hb e => this.2 b a hb ha e.symm⟩
    · rw [List.getElem?_set_ne (fun e2 => ej e2.symm)] at hy
      by_cases el : l = i
      · subst el
        rw [List.getElem?_set_self ((List.getElem?_eq_some_iff.1 hx).1)] at hz
        cases hz
        exact hne j y hy ej
      · rw [List.getElem?_set_ne (fun e2 => el e2.symm)] at hz
        exact h.inj j l y z hy hz hjl
  · rw [fsOf_set (y := ⟨x.f, A', c'⟩) hx rfl]; exact h.mN
  · rw [fsOf_set (y := ⟨x.f, A', c'⟩) hx rfl]; exact h.mS
  · intro y hy
    rcases List.mem_or_eq_of_mem_set hy with hy | rfl
    · exact h.base.2.2 y hy
    · refine ⟨hbase.1, fun a ha => ?_⟩
      rcases hA with hA | ⟨a', hA, hlt⟩
      · exact hbase.2 a (by rw [← hA]; exact ha)
      · have : some a = some a' := by rw [← hA]; exact ha.symm
        cases this
        omega
  · rcases hq with rfl | rfl | ⟨a, ha, rfl⟩
    · exact .inl rfl
    · exact .inr (.inr ⟨x, hxm, .inl rfl⟩)
    · exact .inr (.inr ⟨x, hxm, .inr ⟨a, ha, rfl⟩⟩)
  · intro y hy a ha
    rcases List.mem_or_eq_of_mem_set hy with hy | rfl
    · exact .inl ⟨y, hy, ha⟩
    · rcases hA with hA | ⟨a', hA, hlt⟩
      · exact .inl ⟨x, hxm, by rw [← hA]; exact ha⟩
      · have : some a = some a' := by rw [← hA]; exact ha.symm
        cases this
        exact .inr hlt
theorem modify_is {α : Type} {l : List α} {i : Nat} {g : α} (h : l[i]? = some g) (F : α → α) : l.modify i F = l.set i (F g) := by
  refine List.ext_getElem? (fun j => ?_)
  rw [List.getElem?_modify, List.getElem?_set]
  by_cases e : i = j
  · subst e
    obtain ⟨hl, rfl⟩ := List.getElem?_eq_some_iff.1 h
    simp [hl]
  · simp [e]

theorem d_append (h : DSide B0 w d bn bs N S dl ks) (hw : Wf ks m) (hm : m ≤ 1000) (s : ByteArray) (hs : s.size ≤ maxLen) (B : Option Addr) (ys : List Int) (c : Nat) (hB : SlAt w B (u8s ys)) (hBd : ys ≠ [] → ∀ a, B = some a → a.block < B0) (hl : ys.length ≤ maxLen) :
    Calls Tryd.prog 27 #[.pointer (some ⟨d, 0, none⟩), .string s, .slice B ys.length c] w (DPost B0 w d bn dl (errV (errOf (ks.fault 2 (goodB s) (kFile ks.names s.data.toList) ys.length))) (ks.nx 2 (goodB s) s.data.toList [] ys)) := by
  have hat := (h.mN s.data.toList).2
  have hst : ∀ y, ¬ Goes ks.steps ks.stop → stepE ks.steps ks.stop y = some 7 := fun y hgo => stepE_no hgo
  cases hg : goodB s with
  | false =>
    have hn : ∀ p, namedE s p = some 2 := fun p => by simp [namedE, hg]
    by_cases hgo : Goes ks.steps ks.stop
    · have e1 : ∀ l, ks.fault 2 false (kFile ks.names s.data.toList) l = 2 := fun l => by simp [KZ.fault, KZ.go_true hgo]
      have e2 : ks.nx 2 false s.data.toList [] ys = ks := by simp [KZ.nx, e1]
      rw [e1, e2]
      refine (append_no d bn bs N S ks.steps ks.stop s _ B ys.length c 2 2 w h.dk hs hat (hn _) (stepE_goes hgo)).mono ?_
      rintro e w' ⟨rfl, hb⟩
      exact .no h hb _
    · have e1 : ∀ g at_ l, ks.fault 2 g at_ l = 7 := fun g at_ l => by simp [KZ.fault, KZ.go_false hgo]
      have e2 : ks.nx 2 false s.data.toList [] ys = ks := by simp [KZ.nx, e1]
      rw [e1, e2]
      refine (append_no d bn bs N S ks.steps ks.stop s _ B ys.length c 2 7 w h.dk hs hat (hn _) (stepE_no hgo)).mono ?_
      rintro e w' ⟨rfl, hb⟩
      exact .no h hb _
  | true =>
    cases hk : kFile ks.names s.data.toList with
    | none =>
      have hat2 := h.mN.none_ hk
      have hn : namedE s none = some 6 := by simp [namedE, hg]
      by_cases hgo : Goes ks.steps ks.stop
      · have e1 : ∀ l, ks.fault 2 true none l = 6 := fun l => by simp [KZ.fault, KZ.go_true hgo]
        have e2 : ks.nx 2 true s.data.toList [] ys = ks := by simp [KZ.nx, hk, e1]
        rw [e1, e2]
        refine (append_no d bn bs N S ks.steps ks.stop s none B ys.length c 6 6 w h.dk hs hat2 hn (stepE_goes hgo)).mono ?_
        rintro e w' ⟨rfl, hb⟩
        exact .no h hb _
      · have e1 : ∀ g at_ l, ks.fault 2 g at_ l = 7 := fun g at_ l => by simp [KZ.fault, KZ.go_false hgo]
        have e2 : ks.nx 2 true s.data.toList [] ys = ks := by simp [KZ.nx, e1]
        rw [e1, e2]
        refine (append_no d bn bs N S ks.steps ks.stop s none B ys.length c 6 7 w h.dk hs hat2 hn (stepE_no hgo)).mono ?_
        rintro e w' ⟨rfl, hb⟩
        exact .no h hb _
    | some i =>
      obtain ⟨x, g, hx, hgx, hf⟩ := h.at_ (hw.idx hk)
      have hat2 := h.mN.some_ hk (fsOf_at hx)
      have hsz := hw.sz g (List.mem_of_getElem? hgx)
      have hgd : ks.files.getD i ([], 0) = g := by rw [List.getD_eq_getElem?_getD, hgx]; rfl
      by_cases hgo : Goes ks.steps ks.stop
      · by_cases hfull : 60000 < g.1.length + ys.length
        · have e1 : ks.fault 2 true (some i) ys.length = 4 := by simp [KZ.fault, KZ.go_true hgo, hgx, hfull]
          have e2 : ks.nx 2 true s.data.toList [] ys = ks := by simp [KZ.nx, hk, e1]
          rw [e1, e2]
          refine (append_no2 d bn bs N S ks.steps ks.stop s x.f x.A x.c g.1 g.2 B ys.length c 4 w h.dk hs hg hat2 hf hsz.2 hl (by rw [stepE_goes hgo, if_pos hfull])).mono ?_
          rintro e w' ⟨rfl, hb⟩
          exact .no h hb _
        · have e1 : ks.fault 2 true (some i) ys.length = 0 := by simp [KZ.fault, KZ.go_true hgo, hgx, hfull]
          have e2 : ks.nx 2 true s.data.toList [] ys = { ks with steps := ks.steps + 1, files := ks.files.set i (g.1 ++ ys, g.2) } := by
            simp [KZ.nx, hk, e1, KZ.step, modify_is hgx]
          rw [e1, e2]
          refine (append_ok d bn bs N S ks.steps ks.stop s x.f x.A x.c g.1 g.2 B ys c w h.dk hgo (hw.steps9 hm).1 (hw.steps9 hm).2 hs hg hat2 hf hB (fun hy a ha e => by have := hBd hy a ha; have := h.base.1; omega) (by omega)).mono ?_
          rintro e w' ⟨rfl, hd', ⟨A', c', hfl, hA⟩, ho⟩
          obtain ⟨q1, q2, q3⟩ := h.set_ hx hgx A' c' (g.1 ++ ys, g.2) (ks.steps + 1) hd' hfl hA ho
          exact ⟨rfl, bn, bs, N, S, _, q1, q2, q3⟩
      · have e1 : ∀ g at_ l, ks.fault 2 g at_ l = 7 := fun g at_ l => by simp [KZ.fault, KZ.go_false hgo]
        have e2 : ks.nx 2 true s.data.toList [] ys = ks := by simp [KZ.nx, e1]
        rw [e1, e2]
        refine (append_no2 d bn bs N S ks.steps ks.stop s x.f x.A x.c g.1 g.2 B ys.length c 7 w h.dk hs hg hat2 hf hsz.2 hl (stepE_no hgo)).mono ?_
        rintro e w' ⟨rfl, hb⟩
        exact .no h hb _

theorem d_sync (h : DSide B0 w d bn bs N S dl ks) (hw : Wf ks m) (hm : m ≤ 1000) (s : ByteArray) (hs : s.size ≤ maxLen) :
    Calls Tryd.prog 28 #[.pointer (some ⟨d, 0, none⟩), .string s] w (DPost B0 w d bn dl (errV (errOf (ks.fault 3 (goodB s) (kFile ks.names s.data.toList) 0))) (ks.nx 3 (goodB s) s.data.toList [] [])) := by
  have hat := (h.mN s.data.toList).2
  by_cases hgo : Goes ks.steps ks.stop
  · have hg0 := KZ.go_true hgo
    cases hg : goodB s with
    | false =>
      have e1 : ks.fault 3 false (kFile ks.names s.data.toList) 0 = 2 := by simp [KZ.fault, hg0]
      have e2 : ks.nx 3 false s.data.toList [] [] = ks := by simp [KZ.nx, e1]
      rw [e1, e2]
      refine (sync_no d bn bs N S ks.steps ks.stop s _ 2 w h.dk hs hat (by rw [stepE_goes hgo]; simp [namedE, hg])).mono ?_
      rintro e w' ⟨rfl, hb⟩
      exact .no h hb _
    | true =>
      cases hk : kFile ks.names s.data.toList with
      | none =>
        have e1 : ks.fault 3 true none 0 = 6 := by simp [KZ.fault, hg0]
        have e2 : ks.nx 3 true s.data.toList [] [] = ks := by simp [KZ.nx, hk, e1]
        rw [e1, e2]
        refine (sync_no d bn bs N S ks.steps ks.stop s none 6 w h.dk hs (h.mN.none_ hk) (by rw [stepE_goes hgo]; simp [namedE, hg])).mono ?_
        rintro e w' ⟨rfl, hb⟩
        exact .no h hb _
      | some i =>
        obtain ⟨x, g, hx, hgx, hf⟩ := h.at_ (hw.idx hk)
        have e1 : ks.fault 3 true (some i) 0 = 0 := by simp [KZ.fault, hg0]
        have e2 : ks.nx 3 true s.data.toList [] [] = { ks with steps := ks.steps + 1, files := ks.files.set i (g.1, g.1.length) } := by
          simp [KZ.nx, hk, e1, KZ.step, modify_is hgx]
        rw [e1, e2]
        refine (sync_ok d bn bs N S ks.steps ks.stop s x.f x.A x.c g.1 g.2 w h.dk hgo (hw.steps9 hm).1 (hw.steps9 hm).2 hs hg (h.mN.some_ hk (fsOf_at hx)) hf).mono ?_
        rintro e w' ⟨rfl, hd', hfl, ho⟩
        obtain ⟨q1, q2, q3⟩ := h.set_ hx hgx x.A x.c (g.1, g.1.length) (ks.steps + 1) hd' hfl (.inl rfl) (ho.mono (fun q _ hq => hq.imp id .inl))
        exact ⟨rfl, bn, bs, N, S, _, q1, q2, q3⟩
  · have e1 : ∀ g at_, ks.fault 3 g at_ 0 = 7 := fun g at_ => by simp [KZ.fault, KZ.go_false hgo]
    have e2 : ks.nx 3 (goodB s) s.data.toList [] [] = ks := by simp [KZ.nx, e1]
    rw [e1, e2]
    refine (sync_no d bn bs N S ks.steps ks.stop s _ 7 w h.dk hs hat (stepE_no hgo)).mono ?_
    rintro e w' ⟨rfl, hb⟩
    exact .no h hb _

theorem d_syncNames (h : DSide B0 w d bn bs N S dl ks) (hw : Wf ks m) (hm : m ≤ 1000) (g : Bool) (s : List UInt8) :
    Calls Tryd.prog 29 #[.pointer (some ⟨d, 0, none⟩)] w (DPost B0 w d bn dl (errV (errOf (ks.fault 4 g (kFile ks.names s) 0))) (ks.nx 4 g s [] [])) := by
  by_cases hgo : Goes ks.steps ks.stop
  · have e1 : ks.fault 4 g (kFile ks.names s) 0 = 0 := by simp [KZ.fault, KZ.go_true hgo]
    have e2 : ks.nx 4 g s [] [] = { ks with steps := ks.steps + 1, safe := ks.names } := by simp [KZ.nx, e1, KZ.step, hw.plain]
    rw [e1, e2]
    refine (syncNames_ok d bn bs N S ks.steps ks.stop w h.dk hgo (hw.steps9 hm).1 (hw.steps9 hm).2 (h.sizeN hw hm)).mono ?_
    rintro e w' ⟨rfl, bs', hbs, hd', ho⟩
    exact ⟨rfl, bn, bs', N, N, dl, ⟨hd', h.len, h.fls_dk (ho.mono (fun q _ hq => .inl hq)), h.inj, h.mN, h.mN, h.base⟩, ho.mono (fun q _ hq => .inl hq), fun x hx a ha => .inl ⟨x, hx, ha⟩⟩
  · have e1 : ∀ g at_, ks.fault 4 g at_ 0 = 7 := fun g at_ => by simp [KZ.fault, KZ.go_false hgo]
    have e2 : ks.nx 4 g s [] [] = ks := by simp [KZ.nx, e1]
    rw [e1, e2]
    refine (syncNames_no d bn bs N S ks.steps ks.stop 7 w h.dk (stepE_no hgo)).mono ?_
    rintro e w' ⟨rfl, hb⟩
    exact .no h hb _

theorem d_remove (h : DSide B0 w d bn bs N S dl ks) (hw : Wf ks m) (hm : m ≤ 1000) (s : ByteArray) (hs : s.size ≤ maxLen) :
    Calls Tryd.prog 31 #[.pointer (some ⟨d, 0, none⟩), .string s] w (DPost B0 w d bn dl (errV (errOf (ks.fault 6 (goodB s) (kFile ks.names s.data.toList) 0))) (ks.nx 6 (goodB s) s.data.toList [] [])) := by
  have hat := (h.mN s.data.toList).2
  by_cases hgo : Goes ks.steps ks.stop
  · have hg0 := KZ.go_true hgo
    cases hg : goodB s with
    | false =>
      have e1 : ks.fault 6 false (kFile ks.names s.data.toList) 0 = 2 := by simp [KZ.fault, hg0]
      have e2 : ks.nx 6 false s.data.toList [] [] = ks := by simp [KZ.nx, e1]
      rw [e1, e2]
      refine (remove_no d bn bs N S ks.steps ks.stop s _ 2 w h.dk hs hat (by rw [stepE_goes hgo]; simp [namedE, hg])).mono ?_
      rintro e w' ⟨rfl, hb⟩
      exact .no h hb _
    | true =>
      cases hk : kFile ks.names s.data.toList with
      | none =>
        have e1 : ks.fault 6 true none 0 = 6 := by simp [KZ.fault, hg0]
        have e2 : ks.nx 6 true s.data.toList [] [] = ks := by simp [KZ.nx, hk, e1]
        rw [e1, e2]
        refine (remove_no d bn bs N S ks.steps ks.stop s none 6 w h.dk hs (h.mN.none_ hk) (by rw [stepE_goes hgo]; simp [namedE, hg])).mono ?_
        rintro e w' ⟨rfl, hb⟩
        exact .no h hb _
      | some i =>
        obtain ⟨x, g, hx, hgx, hf⟩ := h.at_ (hw.idx hk)
        have e1 : ks.fault 6 true (some i) 0 = 0 := by simp [KZ.fault, hg0]
        have e2 : ks.nx 6 true s.data.toList [] [] = { ks with steps := ks.steps + 1, names := without ks.names s.data.toList } := by simp [KZ.nx, hk, e1, KZ.step]
        rw [e1, e2]
        refine (remove_ok d bn bs N S ks.steps ks.stop s x.f w h.dk hgo (hw.steps9 hm).1 (hw.steps9 hm).2 hs hg (h.mN.some_ hk (fsOf_at hx))).mono ?_
        rintro e w' ⟨rfl, hd', ho⟩
        exact ⟨rfl, bn, bs, _, S, dl, ⟨hd', h.len, h.fls_dk ho, h.inj, h.mN.del _ (fun t => kFile_without _ _ _), h.mS, h.base⟩, ho.mono (fun q _ hq => DX.of_dk hq), fun x hx a ha => .inl ⟨x, hx, ha⟩⟩
  · have e1 : ∀ g at_, ks.fault 6 g at_ 0 = 7 := fun g at_ => by simp [KZ.fault, KZ.go_false hgo]
    have e2 : ks.nx 6 (goodB s) s.data.toList [] [] = ks := by simp [KZ.nx, e1]
    rw [e1, e2]
    refine (remove_no d bn bs N S ks.steps ks.stop s _ 7 w h.dk hs hat (stepE_no hgo)).mono ?_
    rintro e w' ⟨rfl, hb⟩
    exact .no h hb _

theorem kFile_rename (l : Nms) (s t : List UInt8) (i : Nat) (u : List UInt8) : kFile (without (without l s) t ++ [(t, i)]) u = if u = t then some i else (if u = s then none else kFile l u) := by
  rw [kFile_snoc _ _ _ _ (by rw [kFile_without, if_pos rfl])]
  by_cases e : u = t
  · rw [if_pos e, if_pos e]
  · rw [if_neg e, if_neg e, kFile_without, if_neg e, kFile_without]

theorem d_rename (h : DSide B0 w d bn bs N S dl ks) (hw : Wf ks m) (hm : m ≤ 1000) (s u : ByteArray) (hs : s.size ≤ maxLen) (hu : u.size ≤ maxLen) :
    Calls Tryd.prog 30 #[.pointer (some ⟨d, 0, none⟩), .string s, .string u] w (DPost B0 w d bn dl (errV (errOf (ks.fault 5 (goodB s && goodB u) (kFile ks.names s.data.toList) 0))) (ks.nx 5 (goodB s && goodB u) s.data.toList u.data.toList [])) := by
  have hat := (h.mN s.data.toList).2
  by_cases hgo : Goes ks.steps ks.stop
  · have hg0 := KZ.go_true hgo
    cases hg : (goodB s && goodB u) with
    | false =>
      have e1 : ks.fault 5 false (kFile ks.names s.data.toList) 0 = 2 := by simp [KZ.fault, hg0]
      have e2 : ks.nx 5 false s.data.toList u.data.toList [] = ks := by simp [KZ.nx, e1]
      rw [e1, e2]
      refine (rename_no d bn bs N S ks.steps ks.stop s u _ 2 w h.dk hs hu hat ?_).mono ?_
      · rw [stepE_goes hgo]
        unfold renameE namedE
        cases h1 : goodB u with
        | false => simp
        | true => rw [h1, Bool.and_true] at hg; simp [hg]
      · rintro e w' ⟨rfl, hb⟩
        exact .no h hb _
    | true =>
      obtain ⟨hgs, hgu⟩ := Bool.and_eq_true_iff.1 hg
      cases hk : kFile ks.names s.data.toList with
      | none =>
        have e1 : ks.fault 5 true none 0 = 6 := by simp [KZ.fault, hg0]
        have e2 : ks.nx 5 true s.data.toList u.data.toList [] = ks := by simp [KZ.nx, hk, e1]
        rw [e1, e2]
        refine (rename_no d bn bs N S ks.steps ks.stop s u none 6 w h.dk hs hu (h.mN.none_ hk) (by rw [stepE_goes hgo]; simp [renameE, namedE, hgs, hgu])).mono ?_
        rintro e w' ⟨rfl, hb⟩
        exact .no h hb _
      | some i =>
        obtain ⟨x, g, hx, hgx, hf⟩ := h.at_ (hw.idx hk)
        have e1 : ks.fault 5 true (some i) 0 = 0 := by simp [KZ.fault, hg0]
        have e2 : ks.nx 5 true s.data.toList u.data.toList [] = { ks with steps := ks.steps + 1, names := without (without ks.names s.data.toList) u.data.toList ++ [(u.data.toList, i)] } := by simp [KZ.nx, hk, e1, KZ.step]
        rw [e1, e2]
        refine (rename_ok d bn bs N S ks.steps ks.stop s u x.f w h.dk hgo (hw.steps9 hm).1 (hw.steps9 hm).2 hs hgs hu hgu (h.mN.some_ hk (fsOf_at hx)) (h.sizeN hw hm)).mono ?_
        rintro e w' ⟨rfl, hd', ho⟩
        have hdel : MapLike (N.del (.string s.data.toList)) (fsOf dl) (without ks.names s.data.toList) := h.mN.del _ (fun t => kFile_without _ _ _)
        refine ⟨rfl, bn, bs, _, S, dl, ⟨hd', h.len, h.fls_dk ho, h.inj, hdel.put (h.dk.nm.tight.isMap.del _) _ i x.f (fsOf_at hx) (fun t => ?_), h.mS, h.base⟩, ho.mono (fun q _ hq => DX.of_dk hq), fun x hx a ha => .inl ⟨x, hx, ha⟩⟩
        rw [kFile_rename, kFile_without]
  · have e1 : ∀ g at_, ks.fault 5 g at_ 0 = 7 := fun g at_ => by simp [KZ.fault, KZ.go_false hgo]
    have e2 : ks.nx 5 (goodB s && goodB u) s.data.toList u.data.toList [] = ks := by simp [KZ.nx, e1]
    rw [e1, e2]
    refine (rename_no d bn bs N S ks.steps ks.stop s u _ 7 w h.dk hs hu hat (stepE_no hgo)).mono ?_
    rintro e w' ⟨rfl, hb⟩
    exact .no h hb _

theorem d_stop (h : DSide B0 w d bn bs N S dl ks) (n : Int) :
    Calls Tryd.prog 33 #[.pointer (some ⟨d, 0, none⟩), .int .i64 n] w (DPost B0 w d bn dl (.tuple #[]) { ks with stop := max (-1) n }) := by
  refine (stop_any d bn bs N S ks.steps ks.stop n w h.dk).mono ?_
  rintro e w' ⟨rfl, hd', ho⟩
  exact ⟨rfl, bn, bs, N, S, dl, ⟨hd', h.len, h.fls_dk (ho.mono (fun q _ hq => .inl hq)), h.inj, h.mN, h.mS, h.base⟩, ho.mono (fun q _ hq => .inl hq), fun x hx a ha => .inl ⟨x, hx, ha⟩⟩
end
end Go.Proofs.YtbfmdpgghknccaaDoor
