/- DiskPlays: what is known of a likeness stays so; both sides, one operation on. -/
import Derived.Test.YtbfmdpgghknccaaDoorPlayCrash
namespace Go.Proofs.YtbfmdpgghknccaaDoor
open Go.RowKit Go.Maps
set_option linter.unusedVariables false
set_option linter.unusedSimpArgs false

theorem Wf.mono {ks : KZ} {m m' : Nat} (h : Wf ks m) (hm : m ≤ m') : Wf ks m' := ⟨h.nn, h.ns, h.ix, h.sz, by
  have := h.bd
  omega⟩
theorem KZ.fault_in (ks : KZ) (kind : Int) (g : Bool) (a : Option Nat) (l : Nat) : 0 ≤ ks.fault kind g a l ∧ ks.fault kind g a l ≤ 8 := by
  unfold KZ.fault
  repeat (split; · omega)
  omega
theorem nodup_snoc {l : Nms} {s : List UInt8} {i : Nat} (h : (l.map (·.1)).Nodup) (hs : kFile l s = none) : ((l ++ [(s, i)]).map (·.1)).Nodup := by
  rw [List.map_append, List.nodup_append]
  refine ⟨h, by simp, ?_⟩
  intro a ha b hb e
  have hb' : b = s := by simpa using hb
  subst hb'
  subst e
  exact kFile_none.1 hs ha
theorem wf_nx {ks : KZ} {m : Nat} (h : Wf ks m) (kind : Int) (hk : kind = 1 ∨ kind = 2 ∨ kind = 3 ∨ kind = 4 ∨ kind = 5 ∨ kind = 6) (g : Bool) (s t : List UInt8) (b : List Int) (hs : g = true → s ≠ []) (ht : kind = 5 → g = true → t ≠ []) : Wf (ks.nx kind g s t b) (m + 1) := by
  unfold KZ.nx
  by_cases hf : ks.fault kind g (kFile ks.names s) b.length = 0
  · rw [if_pos hf]
    have hbd := h.bd
    have hgo : ks.go = true := by
      cases hgo : ks.go with
      | true => rfl
      | false => simp [KZ.fault, hgo] at hf
    have hg4 : kind ≠ 4 → g = true := by
      intro h4
      cases hg : g with
      | true => rfl
      | false => simp [KZ.fault, hgo, hg, h4] at hf
    rcases hk with rfl | rfl | rfl | rfl | rfl | rfl
    · have hg := hg4 (by decide)
      have hn : kFile ks.names s = none := by
        cases hkf : kFile ks.names s with
        | none => rfl
        | some i => simp [KZ.fault, hgo, hg, hkf] at hf
      have e : ks.step 1 s t b (kFile ks.names s) = { ks with steps := ks.steps + 1, files := ks.files ++ [([], 0)], names := ks.names ++ [(s, ks.files.length)] } := by simp [KZ.step, h.plain]
      rw [e]
      refine ⟨nodup_snoc h.nn hn, h.ns, ?_, ?_, ?_⟩
      · rintro x (hx | hx)
        · rcases List.mem_append.1 hx with hx | hx
          · have := h.ix x (.inl hx)
            exact ⟨by simp; omega, this.2⟩
          · obtain rfl : x = (s, ks.files.length) := by simpa using hx
            exact ⟨by simp, hs hg⟩
        · have := h.ix x (.inr hx)
          exact ⟨by simp; omega, this.2⟩
      · intro f hf
        rcases List.mem_append.1 hf with hf | hf
        · exact h.sz f hf
        · obtain rfl : f = ([], 0) := by simpa using hf
          simp
      · simp only [List.length_append, List.length_cons, List.length_nil]
        omega
    · have hg := hg4 (by decide)
      cases hkf : kFile ks.names s with
      | none => simp [KZ.fault, hgo, hg, hkf] at hf
      | some i =>
        have hi := h.idx hkf
        have hgi : ks.files[i]? = some ks.files[i] := List.getElem?_eq_getElem hi
        have e : ks.step 2 s t b (some i) = { ks with steps := ks.steps + 1, files := ks.files.set i (ks.files[i].1 ++ b, ks.files[i].2) } := by simp [KZ.step, modify_is hgi]
        rw [e]
        have hsz := h.sz _ (List.mem_of_getElem? hgi)
        have hle : ks.files[i].1.length + b.length ≤ 60000 := by
          rw [hkf] at hf
          by_cases h6 : 60000 < ks.files[i].1.length + b.length
          · simp [KZ.fault, hgo, hg, hgi, h6] at hf
          · omega
        refine ⟨h.nn, h.ns, fun x hx => by simpa using h.ix x hx, ?_, ?_⟩
        · intro f hf
          rcases List.mem_or_eq_of_mem_set hf with hf | rfl
          · exact h.sz f hf
          · simp only [List.length_append]
            omega
        · simp only [List.length_set]
          omega
    · have hg := hg4 (by decide)
      cases hkf : kFile ks.names s with
      | none => simp [KZ.fault, hgo, hg, hkf] at hf
      | some i =>
        have hi := h.idx hkf
        have hgi : ks.files[i]? = some ks.files[i] := List.getElem?_eq_getElem hi
        have e : ks.step 3 s t b (some i) = { ks with steps := ks.steps + 1, files := ks.files.set i (ks.files[i].1, ks.files[i].1.length) } := by simp [KZ.step, modify_is hgi]
        rw [e]
        have hsz := h.sz _ (List.mem_of_getElem? hgi)
        refine ⟨h.nn, h.ns, fun x hx => by simpa using h.ix x hx, ?_, ?_⟩
        · intro f hf
          rcases List.mem_or_eq_of_mem_set hf with hf | rfl
          · exact h.sz f hf
          · exact ⟨Nat.le_refl _, hsz.2⟩
        · simp only [List.length_set]
          omega
    · have e : ks.step 4 s t b (kFile ks.names s) = { ks with steps := ks.steps + 1, safe := ks.names } := by simp [KZ.step, h.plain]
      rw [e]
      refine ⟨h.nn, h.nn, fun x hx => h.ix x (.inl (hx.elim id id)), h.sz, ?_⟩
      simp only
      omega
    · have hg := hg4 (by decide)
      cases hkf : kFile ks.names s with
      | none => simp [KZ.fault, hgo, hg, hkf] at hf
      | some i =>
        have e : ks.step 5 s t b (some i) = { ks with steps := ks.steps + 1, names := without (without ks.names s) t ++ [(t, i)] } := by simp [KZ.step]
        rw [e]
        have h1 := without_len ks.names s
        have h2 := without_len (without ks.names s) t
        refine ⟨nodup_snoc (without_fst _ _ (without_fst _ _ h.nn)) (by rw [kFile_without, if_pos rfl]), h.ns, ?_, h.sz, ?_⟩
        · rintro x (hx | hx)
          · rcases List.mem_append.1 hx with hx | hx
            · exact h.ix x (.inl (without_sub _ _ x (without_sub _ _ x hx)))
            · obtain rfl : x = (t, i) := by simpa using hx
              exact ⟨h.idx hkf, ht rfl hg⟩
          · exact h.ix x (.inr hx)
        · simp only [List.length_append, List.length_cons, List.length_nil]
          omega
    · have e : ks.step 6 s t b (kFile ks.names s) = { ks with steps := ks.steps + 1, names := without ks.names s } := by simp [KZ.step]
      rw [e]
      have h1 := without_len ks.names s
      refine ⟨without_fst _ _ h.nn, h.ns, ?_, h.sz, ?_⟩
      · rintro x (hx | hx)
        · exact h.ix x (.inl (without_sub _ _ x hx))
        · exact h.ix x (.inr hx)
      · simp only
        omega
  · rw [if_neg hf]
    exact h.mono (Nat.le_succ _)
theorem wf_crash {ks : KZ} {m : Nat} (h : Wf ks m) (hm : m ≤ 1000) (n : Int) : Wf (ks.crash n) (m + 1) := by
  have hbd := h.bd
  have hnd : ((crashN ks.files.length ks.safe).map (·.1)).Nodup := by rw [crashN_fst]; exact h.ns
  have hl : (crashN ks.files.length ks.safe).length = ks.safe.length := by simp [crashN]
  have hix : ∀ x ∈ crashN ks.files.length ks.safe, x.2 < ks.files.length + ks.safe.length ∧ x.1 ≠ [] := by
    intro x hx
    obtain ⟨j, y, hj, rfl⟩ := mem_crashN hx
    have := (List.getElem?_eq_some_iff.1 hj).1
    exact ⟨by show ks.files.length + j < _; omega, (h.ix y (.inr (List.mem_of_getElem? hj))).2⟩
  refine ⟨hnd, hnd, fun x hx => ?_, ?_, ?_⟩
  · have := hix x (hx.elim id id)
    exact ⟨by simpa [KZ.crash] using this.1, this.2⟩
  · intro f hf
    rcases List.mem_append.1 hf with hf | hf
    · exact h.sz f hf
    · obtain ⟨x, hx, rfl⟩ := List.mem_map.1 hf
      have hi := (h.ix x (.inr hx)).1
      have hg : ks.files.getD x.2 ([], 0) = ks.files[x.2] := by rw [List.getD_eq_getElem?_getD, List.getElem?_eq_getElem hi]; rfl
      have hsz := h.sz _ (List.getElem_mem hi)
      rw [hg, keptF_kept]
      refine ⟨Nat.le_refl _, ?_⟩
      unfold kept
      rw [List.length_take]
      omega
  · show (crashN _ _).length ≤ _ ∧ (crashN _ _).length ≤ _ ∧ (ks.files ++ _).length ≤ _ ∧ (0 : Int) ≤ 0 ∧ (0 : Int) ≤ _
    rw [hl, List.length_append, List.length_map]
    omega
theorem wf_stop {ks : KZ} {m : Nat} (h : Wf ks m) (v : Int) : Wf { ks with stop := v } (m + 1) := ⟨h.nn, h.ns, h.ix, h.sz, by
  have := h.bd
  simp only
  omega⟩

section
variable {B0 m : Nat} {w w' : World} {d bn bs : Nat} {N S : DataW Nat} {dl : List DF} {ks ks' : KZ} {k : Nat} {fm : List FM} {FA : Option Addr} {Fc : Nat} {NA : Option Addr} {Nc : Nat} {SA : Option Addr} {Sc : Nat}
/-- The disk's part of an operation is done. -/
theorem mid_make (hd : DSide B0 w d bn bs N S dl ks) (hk : KSide B0 w k fm FA Fc NA Nc SA Sc ks) (hap : Apart dl fm) {v : Value} {e : Ending} (hp : DPost B0 w d bn dl v ks' e w') :
    e = .returned v ∧ (∃ bn' bs' N' S' dl', DSide B0 w' d bn' bs' N' S' dl' ks' ∧ Apart dl' fm) ∧ KSide B0 w' k fm FA Fc NA Nc SA Sc ks ∧ (∀ q t cs, t ≠ 80 → t ≠ 92 → t ≠ 5 → Blk w q t cs → Blk w' q t cs) ∧ Below B0 w w' := by
  obtain ⟨rfl, bn', bs', N', S', dl', hd', ho, hdl⟩ := hp
  have hB : B0 ≤ w.heap.size := by
    have := hd.base.1
    have := hd.dk.blk.lt
    omega
  refine ⟨rfl, ⟨bn', bs', N', S', dl', hd', ?_⟩, hk.only_d hd hap ho, ?_, ho.below hB (fun q hq h => by have := DX.base hd h; omega)⟩
  · intro x hx a ha g hg b hb e
    rcases hdl x hx a ha with ⟨y, hy, hya⟩ | hlt
    · exact hap y hy a hya g hg b hb e
    · obtain ⟨_, cur, hc⟩ := row_type (hk.ka.fb g hg) b hb
      have := hc.lt
      omega
  · intro q t cs t1 t2 t3 hq
    refine hq.only ho ?_
    rintro (rfl | rfl | ⟨x, hx, he⟩)
    · exact t1 (hq.same_type hd.dk.blk)
    · exact hd.dk.nm.ne_blk hq rfl
    · obtain ⟨xs, s, hf⟩ := hd.mem hx
      rcases he with rfl | ⟨a, ha, rfl⟩
      · exact t2 (hq.same_type hf.blk)
      · obtain ⟨_, cur, hc⟩ := row_type hf.row a ha
        exact t3 (hq.same_type hc)
/-- And K's. -/
theorem end_make (hd : DSide B0 w d bn bs N S dl ks') (hk : KSide B0 w k fm FA Fc NA Nc SA Sc ks) (hap : Apart dl fm) {x : Int} {e : Ending} (hp : KPost B0 w k fm FA x ks' e w') :
    e = .returned (.int .i64 x) ∧ (∃ fm' FA' Fc' NA' Nc' SA' Sc', KSide B0 w' k fm' FA' Fc' NA' Nc' SA' Sc' ks' ∧ DSide B0 w' d bn bs N S dl ks' ∧ Apart dl fm') ∧ (∀ q t cs, t ≠ 47 → t ≠ 97 → Blk w q t cs → Blk w' q t cs) ∧ Below B0 w w' := by
  obtain ⟨rfl, fm', FA', Fc', NA', Nc', SA', Sc', hk', ho, hfm⟩ := hp
  have hB : B0 ≤ w.heap.size := by
    have := hk.base.1
    have := hk.ka.blk.lt
    omega
  refine ⟨rfl, ⟨fm', FA', Fc', NA', Nc', SA', Sc', hk', hd.only_k hk ho, ?_⟩, ?_, ho.below hB (fun q hq h => by have := KX.base hk h; omega)⟩
  case refine_2 =>
    intro q t cs t1 t2 hq
    refine hq.only ho ?_
    rintro (rfl | ⟨a, ha, rfl⟩)
    · exact t1 (hq.same_type hk.ka.blk)
    · obtain ⟨_, cur, hc⟩ := row_type hk.ka.fl a ha
      exact t2 (hq.same_type hc)
  intro x hx a ha g hg b hb e
  rcases hfm g hg b hb with ⟨y, hy, hya⟩ | hlt
  · exact hap x hx a ha y hy b hya e
  · obtain ⟨xs, s, hf⟩ := hd.mem hx
    obtain ⟨_, cur, hc⟩ := row_type hf.row a ha
    have := hc.lt
    omega
end
end Go.Proofs.YtbfmdpgghknccaaDoor
