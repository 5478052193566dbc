/- DiskPlays: what a crash does to a disk, told by its likeness; what is known of a likeness stays so. -/
import Derived.Test.YtbfmdpgghknccaaDoorPlayDisk
namespace Go.Proofs.YtbfmdpgghknccaaDoor
open Go.RowKit Go.Maps
set_option linter.unusedVariables false
set_option linter.unusedSimpArgs false

theorem crashN_fst (m : Nat) (l : Nms) : (crashN m l).map (·.1) = l.map (·.1) := by
  unfold crashN
  rw [List.map_map]
  have : ((fun x : List UInt8 × Nat => x.1) ∘ fun x : (List UInt8 × Nat) × Nat => (x.1.1, m + x.2)) = (fun x => x.1) ∘ Prod.fst := rfl
  rw [this, ← List.map_map, List.zipIdx_map_fst]
theorem mem_crashN {m : Nat} {l : Nms} {y : List UInt8 × Nat} (h : y ∈ crashN m l) : ∃ j x, l[j]? = some x ∧ y = (x.1, m + j) := by
  unfold crashN at h
  obtain ⟨⟨x, j⟩, hx, rfl⟩ := List.mem_map.1 h
  exact ⟨j, x, List.mk_mem_zipIdx_iff_getElem?.1 hx, rfl⟩
theorem kFile_crashN_some (m : Nat) (l : Nms) (s : List UInt8) : (kFile (crashN m l) s).isSome = (kFile l s).isSome := by
  cases h : kFile l s with
  | none =>
    have := kFile_none.1 h
    rw [← crashN_fst m l] at this
    rw [kFile_none.2 this]
  | some i =>
    cases h2 : kFile (crashN m l) s with
    | some j => rfl
    | none =>
      have := kFile_none.1 h2
      rw [crashN_fst] at this
      rw [kFile_none.2 this] at h
      cases h
theorem get_app {α : Type} {l r : List α} {x : α} {i : Nat} (h : (l ++ r)[i]? = some x) : l[i]? = some x ∨ (∃ j, i = l.length + j ∧ r[j]? = some x) := by
  rcases Nat.lt_or_ge i l.length with hi | hi
  · exact .inl (by rw [List.getElem?_append_left hi] at h; exact h)
  · rw [List.getElem?_append_right hi] at h
    exact .inr ⟨i - l.length, by omega, h⟩

theorem keptF_kept (n : Int) (f : List Int × Nat) : keptF n f = (kept n f, (kept n f).length) := rfl

section
variable {B0 m : Nat} {w : World} {d bn bs : Nat} {N S : DataW Nat} {dl : List DF} {ks : KZ}
theorem d_crash (h : DSide B0 w d bn bs N S dl ks) (hw : Wf ks m) (hm : m ≤ 1000) (n : Int) :
    Calls Tryd.prog 32 #[.pointer (some ⟨d, 0, none⟩), .int .i64 n] w (DPost B0 w d bn dl (.tuple #[]) (ks.crash n)) := by
  obtain ⟨F, hF⟩ : ∃ F : List UInt8 → List Int × Nat, ∀ s, F s = ((kFile ks.safe s).bind fun i => ks.files[i]?).getD ([], 0) := ⟨_, fun _ => rfl⟩
  have hFx : ∀ x ∈ ks.safe, F x.1 = ks.files.getD x.2 ([], 0) := by
    intro x hx
    rw [hF, kFile_of_mem hw.ns hx]
    rfl
  have hsafe : SafeF w S F := by
    intro k hk
    rw [(h.mS k).1] at hk
    obtain ⟨i, hi⟩ := Option.isSome_iff_exists.1 hk
    have hmem := kFile_mem hi
    have hix := (hw.ix _ (.inr hmem)).1
    obtain ⟨x, g, hx, hg, hf⟩ := h.at_ hix
    have hFk : F k = g := by rw [hF, hi]; simp [hg]
    refine ⟨x.f, x.A, x.c, h.mS.some_ hi (fsOf_at hx), ?_, ?_⟩
    · rw [hFk]; exact hf
    · rw [hFk]; exact hw.sz g (List.mem_of_getElem? hg)
  refine (crash_any d bn bs N S F n ks.steps ks.stop w h.dk hsafe (h.sizeS hw hm)).mono ?_
  rintro e w' ⟨rfl, ⟨bn', bs', N', hd', hhas, ⟨fo, Ao, co, hat, hdis⟩, hbn, hbs, hsz⟩, ho⟩
  have hB : B0 ≤ w.heap.size := by
    have := h.base.1
    have := h.dk.blk.lt
    omega
  have hnew : ∀ x ∈ ks.safe, N'.atKey (.string x.1) .nil = ptrD (some (fo x.1)) ∧ w.heap.size ≤ fo x.1 ∧ Fl w' (fo x.1) (Ao x.1) (co x.1) (kept n (F x.1)) (kept n (F x.1)).length ∧ ∀ a, Ao x.1 = some a → w.heap.size ≤ a.block := by
    intro x hx
    refine hat x.1 ?_
    rw [hhas, (h.mS x.1).1, kFile_of_mem hw.ns hx]
    rfl
  have hold : ∀ (y : DF), y ∈ dl → y.f < w.heap.size ∧ ∀ a, y.A = some a → a.block < w.heap.size := by
    intro y hy
    obtain ⟨xs, sf, hy2⟩ := h.mem hy
    refine ⟨hy2.blk.lt, fun a ha => ?_⟩
    obtain ⟨_, cur, hc⟩ := row_type hy2.row a ha
    exact hc.lt
  have hfls := h.fls_dk (ho.mono (fun q _ hq => (Or.inl hq : q = d ∨ q = bn)))
  have hml : MapLike N' (fsOf (dl ++ ks.safe.map fun x => ⟨fo x.1, Ao x.1, co x.1⟩)) (crashN ks.files.length ks.safe) := by
    intro s
    have h1 : Maps.has N' (.string s) = (kFile (crashN ks.files.length ks.safe) s).isSome := by rw [hhas, (h.mS s).1, kFile_crashN_some]
    refine ⟨h1, ?_⟩
    cases hk : kFile (crashN ks.files.length ks.safe) s with
    | none =>
      rw [hk] at h1
      show N'.atKey (.string s) .nil = .nil
      exact atKey_of_not_has h1 _
    | some i =>
      obtain ⟨j, x, hj, e⟩ := mem_crashN (kFile_mem hk)
      injection e with e1 e2
      subst e1 e2
      rw [(hnew x (List.mem_of_getElem? hj)).1]
      congr 1
      simp only [Option.bind_some, fsOf, List.map_append]
      rw [List.getElem?_append_right (by simp [h.len]), List.length_map, h.len, Nat.add_sub_cancel_left]
      simp [hj]
  refine ⟨rfl, bn', bs', N', N', dl ++ ks.safe.map (fun x => ⟨fo x.1, Ao x.1, co x.1⟩), ⟨hd', by simp [KZ.crash, h.len], ?_, ?_, hml, hml, h.base.1, Nat.le_trans hB hbn, ?_⟩, ho.mono (fun q _ hq => .inl hq), ?_⟩
  · intro i x g hx hg
    rcases get_app hx with hx | ⟨j, hj, hx⟩
    · rcases get_app hg with hg | ⟨j', hj', hg⟩
      · exact hfls i x g hx hg
      · have := (List.getElem?_eq_some_iff.1 hx).1
        rw [h.len] at this
        omega
    · rcases get_app hg with hg | ⟨j', hj', hg⟩
      · have := (List.getElem?_eq_some_iff.1 hg).1
        rw [h.len] at hj
        omega
      · rw [h.len] at hj
        obtain rfl : j = j' := by omega
        rw [List.getElem?_map] at hx hg
        cases hs : ks.safe[j]? with
        | none => rw [hs] at hx; cases hx
        | some y =>
          rw [hs] at hx hg
          cases hx
          cases hg
          have h3 := (hnew y (List.mem_of_getElem? hs)).2.2.1
          rw [hFx y (List.mem_of_getElem? hs)] at h3
          exact h3
  · intro i j x y hx hy hij
    rcases get_app hx with hx | ⟨i', hi', hx⟩
    · rcases get_app hy with hy | ⟨j', hj', hy⟩
      · exact h.inj i j x y hx hy hij
      · rw [List.getElem?_map] at hy
        cases hs : ks.safe[j']? with
        | none => rw [hs] at hy; cases hy
        | some z =>
          rw [hs] at hy
          cases hy
          have h3 := hnew z (List.mem_of_getElem? hs)
          have h4 := hold x (List.mem_of_getElem? hx)
          exact ⟨by show x.f ≠ fo z.1; omega, fun a b ha hb => by have := h4.2 a ha; have := h3.2.2.2 b hb; omega⟩
    · rw [List.getElem?_map] at hx
      cases hs : ks.safe[i']? with
      | none => rw [hs] at hx; cases hx
      | some z =>
        rw [hs] at hx
        cases hx
        have h3 := hnew z (List.mem_of_getElem? hs)
        rcases get_app hy with hy | ⟨j', hj', hy⟩
        · have h4 := hold y (List.mem_of_getElem? hy)
          exact ⟨by show fo z.1 ≠ y.f; omega, fun a b ha hb => by have := h4.2 b hb; have := h3.2.2.2 a ha; omega⟩
        · rw [List.getElem?_map] at hy
          cases hs2 : ks.safe[j']? with
          | none => rw [hs2] at hy; cases hy
          | some u =>
            rw [hs2] at hy
            cases hy
            have hne : z.1 ≠ u.1 := by
              intro e
              have hn := hw.ns
              have q1 : (ks.safe.map (·.1))[i']? = some z.1 := by rw [List.getElem?_map, hs]; rfl
              have q2 : (ks.safe.map (·.1))[j']? = some z.1 := by rw [List.getElem?_map, hs2, e]; rfl
              have hlt := (List.getElem?_eq_some_iff.1 q1).1
              have := ((List.getElem?_inj hlt hn).1 (q1.trans q2.symm))
              omega
            have hz : Maps.has N' (.string z.1) = true := by rw [hhas, (h.mS z.1).1, kFile_of_mem hw.ns (List.mem_of_getElem? hs)]; rfl
            have hu : Maps.has N' (.string u.1) = true := by rw [hhas, (h.mS u.1).1, kFile_of_mem hw.ns (List.mem_of_getElem? hs2)]; rfl
            exact hdis z.1 u.1 hz hu hne
  · intro x hx
    rcases List.mem_append.1 hx with hx | hx
    · exact h.base.2.2 x hx
    · obtain ⟨z, hz, rfl⟩ := List.mem_map.1 hx
      have h3 := hnew z hz
      exact ⟨Nat.le_trans hB h3.2.1, fun a ha => Nat.le_trans hB (h3.2.2.2 a ha)⟩
  · intro x hx a ha
    rcases List.mem_append.1 hx with hx | hx
    · exact .inl ⟨x, hx, ha⟩
    · obtain ⟨z, hz, rfl⟩ := List.mem_map.1 hx
      exact .inr ((hnew z hz).2.2.2 a ha)
end
end Go.Proofs.YtbfmdpgghknccaaDoor
