/- A tree with room in its slices, a list of patches, that came in, opened. -/
import Derived.Test.YtbfmdpgghknccaaDoorJsonArgs
import Derived.Test.YtbfmdpgghknccaaDoorRefPutHead
import Derived.Test.YtbfmdpgghknccaaDoorApplyAll
namespace Go.Proofs.YtbfmdpgghknccaaDoor
open Go.RowKit Go.ChangeShapes Go.WideShapes Go.Deep
set_option linter.unusedVariables false

/-- A tree that came in, its slices with room. -/
def IsTreeCap (W : World) (v : Value) (T : PT) : Prop := v = T.value ∧ InJ W T ∧ T.Caps
/-- Patches that came in. -/
def IsPatches (W : World) (v : Value) (l : List Pa) : Prop := ∃ B d, v = .slice B l.length d ∧ SlAt W B (paCells l) ∧ (∀ x ∈ l, x.Ok W) ∧ l.length ≤ maxLen
theorem Pa.cells_length (x : Pa) : x.cells.length = 7 := rfl
theorem paCells_length (l : List Pa) : (paCells l).length = l.length * 7 := by
  induction l with
  | nil => rfl
  | cons x l ih =>
    show (x.cells ++ paCells l).length = _
    rw [List.length_append, ih, Pa.cells_length, List.length_cons]
    omega
theorem paCells_get {l : List Pa} {j : Nat} {u : Value} (hu : (paCells l)[j]? = some u) : ∃ k, l[j / 7]? = some k ∧ k.cells[j % 7]? = some u := by
  have hlt := (List.getElem?_eq_some_iff.1 hu).1
  rw [paCells_length] at hlt
  have hk : l[j / 7]? = some l[j / 7] := List.getElem?_eq_getElem (by omega)
  refine ⟨_, hk, ?_⟩
  rw [← paCells_at l (j / 7) _ hk (j % 7) (by omega), show j / 7 * 7 + j % 7 = j from by omega]
  exact hu

section
variable {H : Type} {enc : TypeId × Value → H} {w : World} {base : Nat} {spare : Nat → Bool} {held : Bool}

theorem trod_strs_cap {fuel : Nat} {cs : List Value} {x : DataW H × List MemPlace} (h : DataW.trod enc Tryd.prog w base spare held fuel 26 cs = some x) :
    ∃ (A : Option Addr) (c : Nat) (l : List ByteArray), cs = [.slice A l.length c] ∧ SlAt w A (l.map Value.string) ∧ (∀ s ∈ l, s.size ≤ maxLen) ∧ l.length ≤ maxLen ∧ l.length ≤ c := by
  rcases Go.Deep.open_strs Tryd.underlying26 Tryd.underlying9 (by kernel_rfl) h with ⟨rfl, _⟩ | ⟨a, len, cap, m, Sx, rfl, _, hl, hm, hmm, _, hx⟩
  · exact ⟨none, 0, [], rfl, .inl rfl, by simp, by simp, by simp⟩
  · have hlm : len ≤ m := by rw [hmm]; split <;> omega
    have hlen : ((List.range len).map Sx).length = len := by simp
    refine ⟨some a, cap, (List.range len).map Sx, by rw [hlen], ?_, ?_, by rw [hlen]; omega, by rw [hlen]; omega⟩
    · by_cases h0 : len = 0
      · subst h0; exact .inl rfl
      · obtain ⟨c0, _⟩ := hx 0 (by omega)
        have ha := addr_none c0
        refine .inr ⟨a.block, a.off, by rw [← ha], fun j u hu => ?_⟩
        have hj : j < len := by
          have := (List.getElem?_eq_some_iff.1 hu).1
          simpa using this
        obtain ⟨g0, _⟩ := hx j (by omega)
        rw [add_eq ha] at g0
        rw [g0]
        simp [hj] at hu
        rw [hu]
    · intro s hs
      obtain ⟨i, hi, rfl⟩ := List.mem_map.1 hs
      exact (hx i (by have := List.mem_range.1 hi; omega)).2

set_option maxRecDepth 100000 in
theorem trod_tree_cap : ∀ (fuel : Nat) (cs : List Value) (x : DataW H × List MemPlace), DataW.trod enc Tryd.prog w base spare held fuel 29 cs = some x → ∃ T : PT, cs = T.cells ∧ InJ w T ∧ T.Caps := by
  have c1 : Tryd.prog.cellsOf 25 = 5 := by kernel_rfl
  have c2 : Tryd.prog.cellsOf 26 = 1 := by kernel_rfl
  have c3 : Tryd.prog.cellsOf 27 = 1 := by kernel_rfl
  have c4 : Tryd.prog.cellsOf 29 = 7 := by kernel_rfl
  intro fuel
  induction fuel using Nat.strongRecOn with
  | _ fuel ih =>
    intro cs x h
    obtain ⟨xs, n, rfl, _, hl, hxl, hf⟩ := DataW.trod_struct Tryd.underlying29 h
    rw [c4] at hl
    match cs, hl, xs, hxl with
    | [a, b, c, d, e, f, g], _, [y0, y1, y2], _ =>
      have g0 : DataW.trod enc Tryd.prog w base spare held n 25 [a, b, c, d, e] = some y0 := tr_field hf 0 _ rfl rfl rfl c1 rfl
      have g1 : DataW.trod enc Tryd.prog w base spare held n 26 [f] = some y1 := tr_field hf 1 _ rfl rfl rfl c2 rfl
      have g2 : DataW.trod enc Tryd.prog w base spare held n 27 [g] = some y2 := tr_field hf 2 _ rfl rfl rfl c3 rfl
      obtain ⟨v, ev, hv⟩ := trod_value g0
      obtain ⟨kA, kc, keys, ek, hkA, hks, hkl, hkc⟩ := trod_strs_cap g1
      simp only [List.cons.injEq, and_true] at ek
      subst ek
      have hcells : ∀ cA cc (kids : List PT), g = .slice cA kids.length cc → [a, b, c, d, e, Value.slice kA keys.length kc, g] = (PT.node v kA kc keys cA cc kids).cells := by
        intro cA cc kids hg
        subst hg
        show _ = v.cells ++ _
        rw [← ev]
        rfl
      rcases DataW.trod_slice Tryd.underlying27 g2 with ⟨e2, _⟩ | ⟨ad, len, cap, elems, rest, n', rfl, e2, _, _, hlc, hcm, hel, hx, _, _⟩
      · simp only [List.cons.injEq, and_true] at e2
        exact ⟨_, hcells none 0 [] e2, ⟨⟨hv, hkA, .inl rfl, hkl, by simp [PT.kids], hks⟩, trivial⟩, by simp [PT.Caps, PT.CapsL, hkc]⟩
      · simp only [List.cons.injEq, and_true] at e2
        have each : ∀ i, i < len → ∃ T : PT, w.cells? base (ad.add (i * 7)) 7 = some T.cells ∧ InJ w T ∧ T.Caps := by
          intro i hi
          have := hx i hi
          rw [c4, List.getElem?_eq_getElem (by omega), Option.bind_eq_some_iff] at this
          obtain ⟨cs', h1, h2⟩ := this
          obtain ⟨T, rfl, hT, hTc⟩ := ih n' (by omega) cs' _ h2
          exact ⟨T, h1, hT, hTc⟩
        have : Inhabited PT := ⟨.node ⟨0, 0, ⟨#[]⟩, 0, 0⟩ none 0 [] none 0 []⟩
        obtain ⟨q, hq⟩ := Go.Deep.choose_lt each
        have hlen : ((List.range len).map q).length = len := by simp
        have hkid : ∀ i k, ((List.range len).map q)[i]? = some k → i < len ∧ k = q i := by
          intro i k hk
          have hi := (List.getElem?_eq_some_iff.1 hk).1
          rw [hlen] at hi
          refine ⟨hi, ?_⟩
          simp [hi] at hk
          exact hk.symm
        refine ⟨.node v kA kc keys (some ad) cap ((List.range len).map q), hcells (some ad) cap _ (by rw [hlen]; exact e2), ⟨⟨hv, hkA, ?_, hkl, by simp only [PT.kids]; rw [hlen]; omega, hks⟩, (InJL_iff _ _).2 ?_⟩, (PT.caps_iff _).2 ⟨hkc, by simp only [PT.kids, PT.cc]; rw [hlen]; omega, ?_⟩⟩
        · by_cases h0 : len = 0
          · subst h0; exact .inl rfl
          · obtain ⟨hc0, _⟩ := hq 0 (by omega)
            obtain ⟨_, _, hc0⟩ := World.cells?_some hc0
            have hc00 := hc0 0 (by omega)
            simp only [Nat.zero_mul] at hc00
            have ha0 : ∀ (a : Addr), a.add 0 = a := by intro a; obtain ⟨b, o, s⟩ := a; rfl
            rw [ha0] at hc00
            have ha : ad = ⟨ad.block, ad.off, none⟩ := addr_none (u := (q 0).cells[0]'(by rw [PT.cells_length]; omega)) (by rw [hc00]; simp)
            refine .inr ⟨ad.block, ad.off, by rw [← ha]; rfl, fun j u hu => ?_⟩
            obtain ⟨k, hk, hku⟩ := cellsL_get hu
            obtain ⟨hi, rfl⟩ := hkid _ _ hk
            obtain ⟨hc1, _⟩ := hq (j / 7) hi
            obtain ⟨_, _, hc1⟩ := World.cells?_some hc1
            have hc2 := hc1 (j % 7) (by omega)
            rw [hku, add_eq ha, add_eq (a := ⟨ad.block, ad.off + j / 7 * 7, none⟩) rfl] at hc2
            simp only at hc2
            rw [show ad.off + j = ad.off + j / 7 * 7 + j % 7 from by omega]
            exact hc2
        · intro k hk
          obtain ⟨i, hi, rfl⟩ := List.mem_map.1 hk
          exact (hq i (by simpa using hi)).2.1
        · intro k hk
          obtain ⟨i, hi, rfl⟩ := List.mem_map.1 hk
          exact (hq i (by simpa using hi)).2.2

set_option maxRecDepth 100000 in
theorem trod_path {fuel : Nat} {v : Value} {x : DataW H × List MemPlace} (hf : DataW.trod enc Tryd.prog w base spare held fuel 65 [v] = some x) : ∃ l, IsSteps w v l := by
  rcases open_slice_pairs Tryd.underlying65 Tryd.underlying69 (by kernel_rfl) rfl rfl (by kernel_rfl) (by kernel_rfl) hf with ⟨hcs, _⟩ | ⟨a, len, cap, m, n, V0, V1, D0, D1, P0, P1, hcs, _, hl, hm, hmm, _, hx⟩
  · obtain rfl : v = .slice none 0 0 := by simpa using hcs
    exact ⟨[], none, 0, rfl, .inl rfl, by simp, by simp⟩
  · obtain rfl : v = .slice (some a) len cap := by simpa using hcs
    have hlm : len ≤ m := by rw [hmm]; split <;> omega
    have each : ∀ i, i < len → ∃ q : St, w.cell? (a.add (i * 2)) = some (.string q.key) ∧ w.cell? (a.add (i * 2 + 1)) = some (.int .i64 q.at_) := by
      intro i hi
      obtain ⟨g0, g1, e0, e1⟩ := hx i (by omega)
      obtain ⟨n0, f0, _, _⟩ := DataW.trod_string Tryd.underlying9 e0
      obtain ⟨n1, f1, _, _⟩ := DataW.trod_int Tryd.underlying3 e1
      simp only [List.cons.injEq, and_true] at f0 f1
      exact ⟨⟨n0, n1⟩, by rw [g0, f0], by rw [g1, f1]⟩
    have : Inhabited St := ⟨⟨⟨#[]⟩, 0⟩⟩
    obtain ⟨q, hq⟩ := choose_lt each
    have hlen : ((List.range len).map q).length = len := by simp
    refine ⟨(List.range len).map q, some a, cap, by rw [hlen], ?_, by rw [hlen]; omega, by rw [hlen]; omega⟩
    by_cases h0 : len = 0
    · subst h0; exact .inl rfl
    · obtain ⟨c0, _⟩ := hq 0 (by omega)
      have ha := addr_none (by simpa using c0)
      refine .inr ⟨a.block, a.off, by rw [← ha], fun j u hu => ?_⟩
      have hj : j < len * 2 := by
        have := (List.getElem?_eq_some_iff.1 hu).1
        rw [stCells_length, hlen] at this; exact this
      obtain ⟨g0, g1⟩ := hq (j / 2) (by omega)
      have hr := stCells_at ((List.range len).map q) (j / 2) (q (j / 2)) (by rw [List.getElem?_map, List.getElem?_range (by omega)]; rfl)
      have hadd := add_eq ha
      rcases Nat.mod_two_eq_zero_or_one j with e | e
      · have ej : j / 2 * 2 = j := by omega
        rw [ej] at g0 hr
        rw [hr.1] at hu
        injection hu with hu
        rw [← hadd, g0, hu]
      · have ej : j / 2 * 2 + 1 = j := by omega
        rw [ej] at g1 hr
        rw [hr.2] at hu
        injection hu with hu
        rw [← hadd, g1, hu]

set_option maxRecDepth 100000 in
theorem trod_patch {fuel : Nat} {cs : List Value} {x : DataW H × List MemPlace} (h : DataW.trod enc Tryd.prog w base spare held fuel 67 cs = some x) : ∃ q : Pa, cs = q.cells ∧ q.Ok w := by
  obtain ⟨xs, n, rfl, _, hl, hxl, hf⟩ := DataW.trod_struct Tryd.underlying67 h
  have c1 : Tryd.prog.cellsOf 3 = 1 := by kernel_rfl
  have c2 : Tryd.prog.cellsOf 65 = 1 := by kernel_rfl
  have c3 : Tryd.prog.cellsOf 25 = 5 := by kernel_rfl
  have c4 : Tryd.prog.cellsOf 67 = 7 := by kernel_rfl
  rw [c4] at hl
  match cs, hl, xs, hxl with
  | [a, b, c, d, e, f, g], _, [y0, y1, y2], _ =>
    have g0 : DataW.trod enc Tryd.prog w base spare held n 3 [a] = some y0 := tr_field hf 0 _ rfl rfl rfl c1 rfl
    have g1 : DataW.trod enc Tryd.prog w base spare held n 65 [b] = some y1 := tr_field hf 1 _ rfl rfl rfl c2 rfl
    have g2 : DataW.trod enc Tryd.prog w base spare held n 25 [c, d, e, f, g] = some y2 := tr_field hf 2 _ rfl rfl rfl c3 rfl
    obtain ⟨k, e0, _, w0⟩ := DataW.trod_int Tryd.underlying3 g0
    obtain ⟨p, A, pc, e1, hA, hpl, hpc⟩ := trod_path g1
    obtain ⟨v, ev, hv⟩ := trod_value g2
    simp only [List.cons.injEq, and_true] at e0
    subst e0 e1
    refine ⟨⟨k, v, p, A, pc⟩, ?_, ⟨hv, hA, hpl, hpc⟩⟩
    show _ = _ :: _ :: v.cells
    rw [← ev]

set_option maxRecDepth 100000 in
theorem trod_patches {fuel : Nat} {v : Value} {x : DataW H × List MemPlace} (h : DataW.trod enc Tryd.prog w base spare held fuel 30 [v] = some x) : ∃ l, IsPatches w v l := by
  have c4 : Tryd.prog.cellsOf 67 = 7 := by kernel_rfl
  rcases DataW.trod_slice Tryd.underlying30 h with ⟨e2, _⟩ | ⟨ad, len, cap, elems, rest, n', rfl, e2, _, _, hlc, hcm, hel, hx, _, _⟩
  · simp only [List.cons.injEq, and_true] at e2
    subst e2
    exact ⟨[], none, 0, rfl, .inl rfl, by simp, by simp⟩
  · simp only [List.cons.injEq, and_true] at e2
    subst e2
    have each : ∀ i, i < len → ∃ q : Pa, w.cells? base (ad.add (i * 7)) 7 = some q.cells ∧ q.Ok w := by
      intro i hi
      have := hx i hi
      rw [c4, List.getElem?_eq_getElem (by omega), Option.bind_eq_some_iff] at this
      obtain ⟨cs', h1, h2⟩ := this
      obtain ⟨q, rfl, hq⟩ := trod_patch h2
      exact ⟨q, h1, hq⟩
    have : Inhabited Pa := ⟨⟨0, ⟨0, 0, ⟨#[]⟩, 0, 0⟩, [], none, 0⟩⟩
    obtain ⟨q, hq⟩ := Go.Deep.choose_lt each
    have hlen : ((List.range len).map q).length = len := by simp
    have hkid : ∀ i k, ((List.range len).map q)[i]? = some k → i < len ∧ k = q i := by
      intro i k hk
      have hi := (List.getElem?_eq_some_iff.1 hk).1
      rw [hlen] at hi
      refine ⟨hi, ?_⟩
      simp [hi] at hk
      exact hk.symm
    refine ⟨(List.range len).map q, some ad, cap, by rw [hlen], ?_, ?_, by rw [hlen]; omega⟩
    · by_cases h0 : len = 0
      · subst h0; exact .inl rfl
      · obtain ⟨hc0, _⟩ := hq 0 (by omega)
        obtain ⟨_, _, hc0⟩ := World.cells?_some hc0
        have hc00 := hc0 0 (by omega)
        simp only [Nat.zero_mul] at hc00
        have ha0 : ∀ (a : Addr), a.add 0 = a := by intro a; obtain ⟨b, o, s⟩ := a; rfl
        rw [ha0] at hc00
        have ha : ad = ⟨ad.block, ad.off, none⟩ := addr_none (u := (q 0).cells[0]'(by rw [Pa.cells_length]; omega)) (by rw [hc00]; simp)
        refine .inr ⟨ad.block, ad.off, by rw [← ha], fun j u hu => ?_⟩
        obtain ⟨k, hk, hku⟩ := paCells_get hu
        obtain ⟨hi, rfl⟩ := hkid _ _ hk
        obtain ⟨hc1, _⟩ := hq (j / 7) hi
        obtain ⟨_, _, hc1⟩ := World.cells?_some hc1
        have hc2 := hc1 (j % 7) (by omega)
        rw [hku, add_eq ha, add_eq (a := ⟨ad.block, ad.off + j / 7 * 7, none⟩) rfl] at hc2
        simp only at hc2
        rw [show ad.off + j = ad.off + j / 7 * 7 + j % 7 from by omega]
        exact hc2
    · intro k hk
      obtain ⟨i, hi, rfl⟩ := List.mem_map.1 hk
      exact (hq i (by simpa using hi)).2
end

section
variable {H : Type} {enc : TypeId × Value → H} {W : World} {b0 base : Nat} {spare : Nat → Bool} {held : Bool} {r : Reach} {v : Value} {d : DataW H} {p : List MemPlace}

set_option maxRecDepth 100000 in
theorem open_IsTreeCap (hv : Value.okWide Tryd.prog W r b0 29 v) (h : DataW.Trod enc Tryd.prog W base spare held 29 v d p) : ∃ T, IsTreeCap W v T := by
  obtain ⟨cs, rfl, _⟩ := okWide_struct Tryd.underlying29 hv
  obtain ⟨fuel, hf⟩ := h
  obtain ⟨T, hT, hi⟩ := trod_tree_cap fuel _ _ hf
  refine ⟨T, ?_, hi⟩
  have : cs.toList = T.cells := by simpa [Value.cells] using hT
  show Value.agg cs = .agg T.cells.toArray
  rw [← this]
set_option maxRecDepth 100000 in
theorem open_IsPatches (hv : Value.okWide Tryd.prog W r b0 30 v) (h : DataW.Trod enc Tryd.prog W base spare held 30 v d p) : ∃ l, IsPatches W v l := by
  obtain ⟨a0, len0, cap0, rfl⟩ := okWide_slice Tryd.underlying30 hv
  obtain ⟨fuel, hf⟩ := h
  exact trod_patches (by simpa [Value.cells] using hf)
end
end Go.Proofs.YtbfmdpgghknccaaDoor
