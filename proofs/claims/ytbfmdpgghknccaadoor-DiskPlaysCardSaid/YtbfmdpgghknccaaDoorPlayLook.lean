/- DiskPlays: what is read of a disk and of its likeness. -/
import Derived.Test.YtbfmdpgghknccaaDoorPlayDone
import Derived.Test.YtbfmdpgghknccaaDoorNamesNone
import Derived.Test.YtbfmdpgghknccaaDoorKList
namespace Go.Proofs.YtbfmdpgghknccaaDoor
open Go.RowKit Go.Maps
set_option linter.unusedVariables false
set_option linter.unusedSimpArgs false

/-- What a file reads as, and the fault. -/
def KZ.rd (ks : KZ) (s : ByteArray) : List Int × Int :=
  if rnamedB s = false then ([], 2) else match kFile ks.names s.data.toList with
    | none => ([], 6)
    | some i => ((ks.files.getD i ([], 0)).1, 0)
theorem KZ.rd_in (ks : KZ) (s : ByteArray) : 0 ≤ (ks.rd s).2 ∧ (ks.rd s).2 ≤ 8 := by
  unfold KZ.rd
  split
  · simp
  · split <;> simp
def NamesQ (w : World) (l : List (List UInt8)) (e : Ending) (w' : World) : Prop := ∃ A c, e = .returned (.slice A l.length c) ∧ SlAt w' A (strs l) ∧ Below w.heap.size w w'
def DReadQ (w : World) (l : List Int) (x : Int) (e : Ending) (w' : World) : Prop := ∃ A c, e = .returned (.tuple #[.slice A l.length c, errV (errOf x)]) ∧ SlAt w' A (u8s l) ∧ Below w.heap.size w w'
def KReadQ2 (w : World) (l : List Int) (x : Int) (e : Ending) (w' : World) : Prop := ∃ A c, e = .returned (.tuple #[.slice A l.length c, .int .i64 x]) ∧ SlAt w' A (u8s l) ∧ Below w.heap.size w w'

section
variable {W0 w : World} {d k m : Nat} {ks : KZ}
theorem play_names (hp : Play W0 w d k ks m) (hm : m ≤ 1000) : Calls Tryd.prog 11 #[.pointer (some ⟨d, 0, none⟩)] w (NamesQ w (isortK (ks.names.map (·.1)))) := by
  obtain ⟨bn, bs, N, S, dl, fm, FA, Fc, NA, Nc, SA, Sc, hd, hk, hap, hw, hbl⟩ := hp
  have hsz := hd.mN.size hd.dk.nm.tight hw.nn
  have hbd := hw.bd
  have hlen : (isortK (ks.names.map (·.1))).length = Maps.size N := by rw [isortK_len, List.length_map, hsz]
  by_cases h0 : Maps.size N = 0
  · have hn : ks.names = [] := List.eq_nil_of_length_eq_zero (by rw [← hsz]; exact h0)
    refine (names_none d bn bs N S _ _ w hd.dk h0).mono ?_
    rintro e w' ⟨rfl, hb⟩
    refine ⟨none, 0, by rw [hlen, h0], ?_, hb⟩
    rw [hn]
    exact .inl rfl
  · refine (names_any d bn bs N S _ _ w hd.dk (by omega) (by omega)).mono ?_
    rintro e w' ⟨⟨A, c, rfl, hs⟩, hb⟩
    refine ⟨A, c, by rw [hlen], ?_, hb⟩
    rw [isortK_eq _ _ (hd.mN.perm hd.dk.nm.tight hw.nn)]
    exact hs
theorem play_list (hp : Play W0 w d k ks m) (hm : m ≤ 1000) : Calls Tryd.prog 12 #[.pointer (some ⟨k, 0, none⟩)] w (NamesQ w (isortK (ks.names.map (·.1)))) := by
  obtain ⟨bn, bs, N, S, dl, fm, FA, Fc, NA, Nc, SA, Sc, hd, hk, hap, hw, hbl⟩ := hp
  have hbd := hw.bd
  refine (klist_any k fm _ _ _ _ FA Fc NA Nc SA Sc w hk.ka (by omega)).mono ?_
  rintro e w' ⟨⟨A, c, rfl, hs⟩, hb⟩
  exact ⟨A, c, by rw [isortK_len, List.length_map], hs, hb⟩
theorem play_steps (hp : Play W0 w d k ks m) : Calls Tryd.prog 14 #[.pointer (some ⟨d, 0, none⟩)] w fun e w' => e = .returned (.int .i64 ks.steps) ∧ Below w.heap.size w w' := by
  obtain ⟨bn, bs, N, S, dl, fm, FA, Fc, NA, Nc, SA, Sc, hd, hk, hap, hw, hbl⟩ := hp
  exact steps_any d bn bs N S _ _ w hd.dk
theorem play_cell (hp : Play W0 w d k ks m) : w.cell? ⟨k, 3, none⟩ = some (.int .i64 ks.steps) := by
  obtain ⟨bn, bs, N, S, dl, fm, FA, Fc, NA, Nc, SA, Sc, hd, hk, hap, hw, hbl⟩ := hp
  exact hk.ka.blk.cell 3
theorem play_dread (hp : Play W0 w d k ks m) (v : Int) : Calls Tryd.prog 15 #[.pointer (some ⟨d, 0, none⟩), .string (fileN v)] w (DReadQ w (ks.rd (fileN v)).1 (ks.rd (fileN v)).2) := by
  obtain ⟨bn, bs, N, S, dl, fm, FA, Fc, NA, Nc, SA, Sc, hd, hk, hap, hw, hbl⟩ := hp
  have hs := fileN_size v
  have hg := fileN_good v
  unfold KZ.rd
  generalize fileN v = s at hs hg ⊢
  have hat := (hd.mN s.data.toList).2
  rw [← hg]
  cases hgs : goodB s with
  | false =>
    rw [if_pos rfl]
    refine (read_no d bn bs N S _ _ s _ 2 w hd.dk hs hat (by simp [namedE, hgs])).mono ?_
    rintro e w' ⟨rfl, hb⟩
    exact ⟨none, 0, rfl, .inl rfl, hb⟩
  | true =>
    rw [if_neg (by decide)]
    cases hkf : kFile ks.names s.data.toList with
    | none =>
      refine (read_no d bn bs N S _ _ s none 6 w hd.dk hs (hd.mN.none_ hkf) (by simp [namedE, hgs])).mono ?_
      rintro e w' ⟨rfl, hb⟩
      exact ⟨none, 0, rfl, .inl rfl, hb⟩
    | some i =>
      obtain ⟨x, g, hx, hgx, hf⟩ := hd.at_ (hw.idx hkf)
      have hgd : ks.files.getD i ([], 0) = g := by rw [List.getD_eq_getElem?_getD, hgx]; rfl
      have hsz := hw.sz g (List.mem_of_getElem? hgx)
      show Calls _ _ _ _ (DReadQ w (ks.files.getD i ([], 0)).1 0)
      rw [hgd]
      refine (read_ok d bn bs N S _ _ s x.f x.A x.c g.1 g.2 w hd.dk hs hgs (hd.mN.some_ hkf (fsOf_at hx)) hf hsz.2).mono ?_
      rintro e w' ⟨A, c, rfl, hS, hb⟩
      exact ⟨A, c, rfl, hS, hb⟩
theorem play_kread (hp : Play W0 w d k ks m) (hm : m ≤ 1000) (v : Int) : Calls Tryd.prog 16 #[.pointer (some ⟨k, 0, none⟩), .string (fileN v)] w (KReadQ2 w (ks.rd (fileN v)).1 (ks.rd (fileN v)).2) := by
  obtain ⟨bn, bs, N, S, dl, fm, FA, Fc, NA, Nc, SA, Sc, hd, hk, hap, hw, hbl⟩ := hp
  have hs := fileN_size v
  have hbd := hw.bd
  have hlen : fm.length = ks.files.length := hk.len
  generalize fileN v = s at hs ⊢
  refine (kread_any k fm _ _ _ _ FA Fc NA Nc SA Sc s _ w hk.ka (by omega) hs rfl (fun i hi => by rw [hlen]; exact hw.idx hi) (by omega)).mono ?_
  rintro e w' ⟨A, l, c, x, rfl, hS, hb, hq⟩
  have hrd : ks.rd s = (l, x) := by
    unfold KZ.rd
    cases hg : rnamedB s with
    | false =>
      rw [hg, if_pos rfl] at hq
      obtain ⟨rfl, rfl⟩ := hq
      rfl
    | true =>
      rw [hg, if_neg (by decide)] at hq
      rw [if_neg (by decide)]
      cases hkf : kFile ks.names s.data.toList with
      | none =>
        rw [hkf] at hq
        obtain ⟨rfl, rfl⟩ := hq
        rfl
      | some i =>
        rw [hkf] at hq
        obtain ⟨rfl, f, hf, rfl⟩ := hq
        show ((ks.files.getD i ([], 0)).1, (0 : Int)) = _
        rw [← hk.fs, List.getD_eq_getElem?_getD, List.getElem?_map, hf]
        rfl
  rw [hrd]
  exact ⟨A, c, rfl, hS, hb⟩
end

/-- The beginning. -/
theorem play_start (W0 w : World) (d bn bs k : Nat) (hd : Dk w d bn bs (.map []) (.map []) 0 (-1)) (hb : Below W0.heap.size W0 w) (hB : W0.heap.size ≤ d ∧ W0.heap.size ≤ bn ∧ W0.heap.size ≤ k) (hk : Blk w k 47 #[.slice none 0 0, .slice none 0 0, .slice none 0 0, .int .i64 0, .int .i64 (-1)]) : Play W0 w d k ⟨[], [], [], 0, -1⟩ 0 := by
  have hml : MapLike (.map [] : DataW Nat) (fsOf []) [] := fun s => ⟨rfl, rfl⟩
  refine ⟨bn, bs, .map [], .map [], [], [], none, 0, none, 0, none, 0, ⟨hd, rfl, fun i x g h _ => by simp at h, fun i j x y h _ _ => by simp at h, hml, hml, hB.1, hB.2.1, fun x hx => by simp at hx⟩, ⟨⟨hk, World.ownsRow_nil _ _ _ _, fun f hf => by simp at hf, World.ownsRow_nil _ _ _ _, World.ownsRow_nil _ _ _ _⟩, rfl, hB.2.2, fun a ha => by cases ha⟩, fun x hx => by simp at hx, ⟨by simp, by simp, fun x hx => by simp at hx, fun f hf => by simp at hf, by simp⟩, hb⟩
end Go.Proofs.YtbfmdpgghknccaaDoor
