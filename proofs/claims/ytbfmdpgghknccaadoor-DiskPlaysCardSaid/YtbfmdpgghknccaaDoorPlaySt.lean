/- DiskPlays: a disk and its likeness: what each is in memory. -/
import Derived.Test.YtbfmdpgghknccaaDoorDiskCrash2
import Derived.Test.YtbfmdpgghknccaaDoorDiskErr
import Derived.Test.YtbfmdpgghknccaaDoorKMem
import Derived.Test.YtbfmdpgghknccaaDoorDiskLaw
namespace Go.Proofs.YtbfmdpgghknccaaDoor
open Go.RowKit Go.Maps
set_option linter.unusedVariables false
set_option linter.unusedSimpArgs false

/-- A likeness: files (bytes, how many are safe), names, safe names. -/
structure KZ where
  files : List (List Int × Nat)
  names : Nms
  safe : Nms
  steps : Int
  stop : Int
def KZ.go (k : KZ) : Bool := !(decide (0 ≤ k.stop) && decide (k.stop ≤ k.steps))
def KZ.fault (k : KZ) (kind : Int) (g : Bool) (at_ : Option Nat) (bl : Nat) : Int :=
  if k.go = false then 7
  else if kind ≠ 4 ∧ g = false then 2
  else if kind = 1 ∧ at_ ≠ none then 8
  else if kind ≠ 1 ∧ kind ≠ 4 ∧ at_ = none then 6
  else if kind = 2 ∧ 60000 < (k.files.getD (at_.getD 0) ([], 0)).1.length + bl then 4
  else 0
def crashN (m : Nat) (l : Nms) : Nms := l.zipIdx.map fun x => (x.1.1, m + x.2)
def KZ.crash (k : KZ) (n : Int) : KZ :=
  { files := k.files ++ k.safe.map (fun x => keptF n (k.files.getD x.2 ([], 0))), names := crashN k.files.length k.safe, safe := crashN k.files.length k.safe, steps := 0, stop := -1 }
def KZ.step (k : KZ) (kind : Int) (s t : List UInt8) (b : List Int) (at_ : Option Nat) : KZ :=
  if kind = 1 then { k with steps := k.steps + 1, files := k.files ++ [([], 0)], names := without k.names [] ++ [(s, k.files.length)] }
  else if kind = 2 then { k with steps := k.steps + 1, files := k.files.modify (at_.getD 0) fun f => (f.1 ++ b, f.2) }
  else if kind = 3 then { k with steps := k.steps + 1, files := k.files.modify (at_.getD 0) fun f => (f.1, f.1.length) }
  else if kind = 4 then { k with steps := k.steps + 1, safe := without k.names [] }
  else if kind = 5 then { k with steps := k.steps + 1, names := without (without k.names s) t ++ [(t, at_.getD 0)] }
  else { k with steps := k.steps + 1, names := without k.names s }

structure DF where
  f : Nat
  A : Option Addr
  c : Nat
/-- A map of names, told by names with numbers of files. -/
def MapLike (D : DataW Nat) (fs : List Nat) (l : Nms) : Prop := ∀ s, Maps.has D (.string s) = (kFile l s).isSome ∧ D.atKey (.string s) .nil = ptrD ((kFile l s).bind fun i => fs[i]?)
def fsOf (dl : List DF) : List Nat := dl.map (·.f)
theorem fsOf_at {dl : List DF} {i : Nat} {x : DF} (h : dl[i]? = some x) : (fsOf dl)[i]? = some x.f := by simp [fsOf, h]
theorem fsOf_set {dl : List DF} {i : Nat} {x y : DF} (h : dl[i]? = some x) (hf : y.f = x.f) : fsOf (dl.set i y) = fsOf dl := by
  unfold fsOf
  rw [List.map_set, hf]
  refine List.ext_getElem? (fun j => ?_)
  rw [List.getElem?_set]
  split
  · rename_i e
    subst e
    split <;> simp [h]
    rename_i hl
    have := (List.getElem?_eq_some_iff.1 h).1
    simp at hl
    omega
  · rfl

theorem MapLike.some_ {D : DataW Nat} {fs : List Nat} {l : Nms} (h : MapLike D fs l) {s : List UInt8} {i f : Nat} (hk : kFile l s = some i) (hf : fs[i]? = some f) : D.atKey (.string s) .nil = ptrD (some f) := by
  rw [(h s).2, hk]
  simp [hf]
theorem MapLike.none_ {D : DataW Nat} {fs : List Nat} {l : Nms} (h : MapLike D fs l) {s : List UInt8} (hk : kFile l s = none) : D.atKey (.string s) .nil = ptrD none := by
  rw [(h s).2, hk]
  rfl
theorem MapLike.more {D : DataW Nat} {fs : List Nat} {l : Nms} (h : MapLike D fs l) (gs : List Nat) (hix : ∀ x ∈ l, x.2 < fs.length) : MapLike D (fs ++ gs) l := by
  intro s
  refine ⟨(h s).1, ?_⟩
  rw [(h s).2]
  cases hk : kFile l s with
  | none => rfl
  | some i =>
    have := hix _ (kFile_mem hk)
    show ptrD _ = ptrD _
    rw [Option.bind_some, Option.bind_some, List.getElem?_append_left this]
theorem MapLike.put {D : DataW Nat} {fs : List Nat} {l l' : Nms} (h : MapLike D fs l) (hm : IsMap D) (s : List UInt8) (i f : Nat) (hf : fs[i]? = some f) (hl : ∀ t, kFile l' t = if t = s then some i else kFile l t) : MapLike (D.put (.string s) (.held f)) fs l' := by
  intro t
  rw [hl t]
  by_cases e : t = s
  · subst e
    rw [if_pos rfl]
    exact ⟨has_put_same hm (show WideAt.IsKeyLit (.string t) from trivial) _, by rw [atKey_put_same hm (show WideAt.IsKeyLit (.string t) from trivial)]; simp [hf, ptrD]⟩
  · rw [if_neg e]
    have hne : (Lit.string t) ≠ .string s := fun h => e (Lit.string.inj h)
    exact ⟨by rw [has_put_other hne]; exact (h t).1, by rw [atKey_put_other hne]; exact (h t).2⟩
theorem MapLike.del {D : DataW Nat} {fs : List Nat} {l l' : Nms} (h : MapLike D fs l) (s : List UInt8) (hl : ∀ t, kFile l' t = if t = s then none else kFile l t) : MapLike (D.del (.string s)) fs l' := by
  intro t
  rw [hl t]
  by_cases e : t = s
  · subst e
    rw [if_pos rfl]
    exact ⟨has_del_same, by rw [atKey_del_same]; rfl⟩
  · rw [if_neg e]
    have hne : (Lit.string t) ≠ .string s := fun h => e (Lit.string.inj h)
    exact ⟨by rw [has_del_other hne]; exact (h t).1, by rw [atKey_del_other hne]; exact (h t).2⟩
theorem MapLike.perm {w : World} {b n : Nat} {D : DataW Nat} {fs : List Nat} {l : Nms} (h : MapLike D fs l) (hown : w.ownsMap Tryd.prog 9 ptrElem b n D) (hnd : (l.map (·.1)).Nodup) : (l.map (·.1)).Perm (strKeys D) := by
  obtain ⟨es, hD, hpw, _⟩ := hown.entries lawS
  obtain ⟨es', hD', hko⟩ := hown.keysOf
  obtain rfl : es = es' := by rw [hD] at hD'; simpa using hD'
  subst hD
  refine perm_strKeys hpw (fun p hp => ?_) hnd (fun x => ?_)
  · obtain ⟨v, hv⟩ := hko p hp
    obtain ⟨x, _, hx, _⟩ := Maps.keyOf_str Tryd.underlying9 hv
    exact ⟨x, hx⟩
  · rw [(h x).1]
    cases hk : kFile l x with
    | none => simpa using kFile_none.1 hk
    | some i => simpa using ⟨i, kFile_mem hk⟩
theorem MapLike.size {w : World} {b n : Nat} {D : DataW Nat} {fs : List Nat} {l : Nms} (h : MapLike D fs l) (hown : w.ownsMap Tryd.prog 9 ptrElem b n D) (hnd : (l.map (·.1)).Nodup) : Maps.size D = l.length := by
  rw [← strKeys_len hown.isMap, ← (h.perm hown hnd).length_eq, List.length_map]

/-- A disk. -/
structure DSide (B0 : Nat) (w : World) (d bn bs : Nat) (N S : DataW Nat) (dl : List DF) (ks : KZ) : Prop where
  dk : Dk w d bn bs N S ks.steps ks.stop
  len : dl.length = ks.files.length
  fl : ∀ (i : Nat) (x : DF) (g : List Int × Nat), dl[i]? = some x → ks.files[i]? = some g → Fl w x.f x.A x.c g.1 g.2
  inj : ∀ (i j : Nat) (x y : DF), dl[i]? = some x → dl[j]? = some y → i ≠ j → x.f ≠ y.f ∧ ∀ a b, x.A = some a → y.A = some b → a.block ≠ b.block
  mN : MapLike N (fsOf dl) ks.names
  mS : MapLike S (fsOf dl) ks.safe
  base : B0 ≤ d ∧ B0 ≤ bn ∧ ∀ x ∈ dl, B0 ≤ x.f ∧ ∀ a, x.A = some a → B0 ≤ a.block
/-- What an operation on a disk may turn. -/
def DX (d bn : Nat) (dl : List DF) (q : Nat) : Prop := q = d ∨ q = bn ∨ ∃ x ∈ dl, q = x.f ∨ ∃ a, x.A = some a ∧ q = a.block
/-- Its likeness. -/
structure KSide (B0 : Nat) (w : World) (k : Nat) (fm : List FM) (FA : Option Addr) (Fc : Nat) (NA : Option Addr) (Nc : Nat) (SA : Option Addr) (Sc : Nat) (ks : KZ) : Prop where
  ka : KAt w k fm ks.names ks.safe ks.steps ks.stop FA Fc NA Nc SA Sc
  fs : fm.map (fun f => (f.b, f.s)) = ks.files
  base : B0 ≤ k ∧ ∀ a, FA = some a → B0 ≤ a.block
def KX (k : Nat) (FA : Option Addr) (q : Nat) : Prop := q = k ∨ ∃ a, FA = some a ∧ q = a.block
structure Wf (ks : KZ) (m : Nat) : Prop where
  nn : (ks.names.map (·.1)).Nodup
  ns : (ks.safe.map (·.1)).Nodup
  ix : ∀ x, x ∈ ks.names ∨ x ∈ ks.safe → x.2 < ks.files.length ∧ x.1 ≠ []
  sz : ∀ f ∈ ks.files, f.2 ≤ f.1.length ∧ f.1.length ≤ 60000
  bd : ks.names.length ≤ m ∧ ks.safe.length ≤ m ∧ ks.files.length ≤ 1000 * m ∧ 0 ≤ ks.steps ∧ ks.steps ≤ m
def Apart (dl : List DF) (fm : List FM) : Prop := ∀ x ∈ dl, ∀ a, x.A = some a → ∀ g ∈ fm, ∀ b, g.A = some b → a.block ≠ b.block

theorem without_none (l : Nms) (s : List UInt8) (h : ∀ x ∈ l, x.1 ≠ s) : without l s = l := by
  unfold without
  exact List.filter_eq_self.2 (fun x hx => by simpa using h x hx)
theorem Wf.plain {ks : KZ} {m : Nat} (h : Wf ks m) : without ks.names [] = ks.names := without_none _ _ (fun x hx => (h.ix x (.inl hx)).2)

section
variable {B0 : Nat} {w w' : World} {d bn bs : Nat} {N S : DataW Nat} {dl : List DF} {ks : KZ} {k : Nat} {fm : List FM} {FA : Option Addr} {Fc : Nat} {NA : Option Addr} {Nc : Nat} {SA : Option Addr} {Sc : Nat}
theorem DSide.at_ (h : DSide B0 w d bn bs N S dl ks) {i : Nat} (hi : i < ks.files.length) : ∃ x g, dl[i]? = some x ∧ ks.files[i]? = some g ∧ Fl w x.f x.A x.c g.1 g.2 := by
  have h1 : dl[i]? = some _ := List.getElem?_eq_getElem (by rw [h.len]; exact hi)
  have h2 : ks.files[i]? = some _ := List.getElem?_eq_getElem hi
  exact ⟨_, _, h1, h2, h.fl i _ _ h1 h2⟩
/-- What turns nothing of a disk. -/
theorem DSide.only (h : DSide B0 w d bn bs N S dl ks) {X : Nat → Prop} (ho : Only X w w') (hX : ∀ q, q = d ∨ q = bn ∨ q = bs ∨ (∃ x ∈ dl, q = x.f ∨ ∃ a, x.A = some a ∧ q = a.block) → ¬ X q) : DSide B0 w' d bn bs N S dl ks :=
  ⟨h.dk.only ho (hX _ (.inl rfl)) (hX _ (.inr (.inl rfl))) (hX _ (.inr (.inr (.inl rfl)))), h.len, fun i x g hx hg => (h.fl i x g hx hg).only ho (hX _ (.inr (.inr (.inr ⟨x, List.mem_of_getElem? hx, .inl rfl⟩)))) (fun a ha => hX _ (.inr (.inr (.inr ⟨x, List.mem_of_getElem? hx, .inr ⟨a, ha, rfl⟩⟩)))), h.inj, h.mN, h.mS, h.base⟩
theorem DSide.below (h : DSide B0 w d bn bs N S dl ks) (hb : Below w.heap.size w w') : DSide B0 w' d bn bs N S dl ks :=
  h.only (Only.of_below hb (S := fun _ => False)) (fun _ _ h => h)
theorem DSide.mem (h : DSide B0 w d bn bs N S dl ks) {x : DF} (hx : x ∈ dl) : ∃ (xs : List Int) (s : Int), Fl w x.f x.A x.c xs s := by
  obtain ⟨i, hi⟩ := List.getElem?_of_mem hx
  have h2 : ks.files[i]? = some _ := List.getElem?_eq_getElem (by rw [← h.len]; exact (List.getElem?_eq_some_iff.1 hi).1)
  exact ⟨_, _, h.fl i _ _ hi h2⟩
/-- What K does leaves a disk as it is. -/
theorem DSide.only_k (h : DSide B0 w d bn bs N S dl ks) {ks2 : KZ} (hk : KSide B0 w k fm FA Fc NA Nc SA Sc ks2) (ho : Only (KX k FA) w w') : DSide B0 w' d bn bs N S dl ks := by
  refine h.only ho ?_
  have hF : ∀ a, FA = some a → ∃ cur, Blk w a.block 97 cur := fun a ha => (row_type hk.ka.fl a ha).2
  have hb : ∀ {q : Nat} {t : TypeId} {cs : Array Value}, Blk w q t cs → t ≠ 47 → t ≠ 97 → ¬ KX k FA q := by
    rintro q t cs hq h1 h2 (rfl | ⟨a, ha, rfl⟩)
    · exact h1 (hq.same_type hk.ka.blk)
    · obtain ⟨cur, hc⟩ := hF a ha
      exact h2 (hq.same_type hc)
  have hm : ∀ {q : Nat} {D : DataW Nat}, MapIs w q D → ¬ KX k FA q := by
    rintro q D hq (rfl | ⟨a, ha, rfl⟩)
    · exact hq.ne_blk hk.ka.blk rfl
    · obtain ⟨cur, hc⟩ := hF a ha
      exact hq.ne_blk hc rfl
  rintro q (rfl | rfl | rfl | ⟨x, hx, he⟩)
  · exact hb h.dk.blk (by decide) (by decide)
  · exact hm h.dk.nm
  · exact hm h.dk.sf
  · obtain ⟨xs, s, hf⟩ := h.mem hx
    rcases he with rfl | ⟨a, ha, rfl⟩
    · exact hb hf.blk (by decide) (by decide)
    · obtain ⟨_, cur, hc⟩ := row_type hf.row a ha
      exact hb hc (by decide) (by decide)
theorem KSide.below (h : KSide B0 w k fm FA Fc NA Nc SA Sc ks) (hb : Below w.heap.size w w') : KSide B0 w' k fm FA Fc NA Nc SA Sc ks := ⟨h.ka.below hb, h.fs, h.base⟩
/-- What an operation on a disk does leaves K as it is. -/
theorem KSide.only_d (h : KSide B0 w k fm FA Fc NA Nc SA Sc ks) {ks2 : KZ} (hd : DSide B0 w d bn bs N S dl ks2) (hap : Apart dl fm) (ho : Only (DX d bn dl) w w') : KSide B0 w' k fm FA Fc NA Nc SA Sc ks := by
  have hb : ∀ {q : Nat} {t : TypeId} {cs : Array Value}, Blk w q t cs → t ≠ 80 → t ≠ 92 → t ≠ 5 → ¬ DX d bn dl q := by
    rintro q t cs hq h1 h2 h3 (rfl | rfl | ⟨x, hx, he⟩)
    · exact h1 (hq.same_type hd.dk.blk)
    · exact hd.dk.nm.ne_blk hq rfl
    · obtain ⟨xs, s, hf⟩ := hd.mem hx
      rcases he with rfl | ⟨a, ha, rfl⟩
      · exact h2 (hq.same_type hf.blk)
      · obtain ⟨_, cur, hc⟩ := row_type hf.row a ha
        exact h3 (hq.same_type hc)
  have hr : ∀ {e : TypeId} {base size n c : Nat} {A : Option Addr} {xs : List Value}, w.ownsRow base e size (.slice A n c) n xs → e ≠ 80 → e ≠ 92 → e ≠ 5 → w'.ownsRow base e size (.slice A n c) n xs := by
    intro e base size n c A xs hr h1 h2 h3
    exact row_only hr ho (fun a ha => by
      obtain ⟨_, cur, hc⟩ := row_type hr a ha
      exact hb hc h1 h2 h3)
  refine ⟨⟨h.ka.blk.only ho (hb h.ka.blk (by decide) (by decide) (by decide)), hr h.ka.fl (by decide) (by decide) (by decide), fun f hf => ?_, hr h.ka.nm (by decide) (by decide) (by decide), hr h.ka.sf (by decide) (by decide) (by decide)⟩, h.fs, h.base⟩
  have hrow := h.ka.fb f hf
  refine row_only hrow ho (fun a ha => ?_)
  obtain ⟨_, cur, hc⟩ := row_type hrow a ha
  rintro (e | e | ⟨x, hx, e | ⟨a', ha', e⟩⟩)
  · exact absurd ((e ▸ hc).same_type hd.dk.blk) (by decide)
  · exact hd.dk.nm.ne_blk (e ▸ hc) rfl
  · obtain ⟨xs, s, hf'⟩ := hd.mem hx
    exact absurd ((e ▸ hc).same_type hf'.blk) (by decide)
  · exact hap x hx a' ha' f hf a ha e.symm
theorem DX.base (h : DSide B0 w d bn bs N S dl ks) {q : Nat} (hq : DX d bn dl q) : B0 ≤ q := by
  rcases hq with rfl | rfl | ⟨x, hx, rfl | ⟨a, ha, rfl⟩⟩
  · exact h.base.1
  · exact h.base.2.1
  · exact (h.base.2.2 x hx).1
  · exact (h.base.2.2 x hx).2 a ha
theorem KX.base (h : KSide B0 w k fm FA Fc NA Nc SA Sc ks) {q : Nat} (hq : KX k FA q) : B0 ≤ q := by
  rcases hq with rfl | ⟨a, ha, rfl⟩
  · exact h.base.1
  · exact h.base.2 a ha
end

/-! What an operation leaves. -/
def errOf (x : Int) : Option Int := if x = 0 then none else some x
def DPost (B0 : Nat) (w : World) (d bn : Nat) (dl : List DF) (e' : Value) (ks' : KZ) (e : Ending) (w' : World) : Prop :=
  e = .returned e' ∧ ∃ bn' bs' N' S' dl', DSide B0 w' d bn' bs' N' S' dl' ks' ∧ Only (DX d bn dl) w w' ∧ ∀ x ∈ dl', ∀ a, x.A = some a → (∃ y ∈ dl, y.A = some a) ∨ w.heap.size ≤ a.block
def KPost (B0 : Nat) (w : World) (k : Nat) (fm : List FM) (FA : Option Addr) (x : Int) (ks' : KZ) (e : Ending) (w' : World) : Prop :=
  e = .returned (.int .i64 x) ∧ ∃ fm' FA' Fc' NA' Nc' SA' Sc', KSide B0 w' k fm' FA' Fc' NA' Nc' SA' Sc' ks' ∧ Only (KX k FA) w w' ∧ ∀ f ∈ fm', ∀ a, f.A = some a → (∃ g ∈ fm, g.A = some a) ∨ w.heap.size ≤ a.block
theorem DPost.no {B0 : Nat} {w w' : World} {d bn bs : Nat} {N S : DataW Nat} {dl : List DF} {ks : KZ} (h : DSide B0 w d bn bs N S dl ks) (hb : Below w.heap.size w w') (v : Value) : DPost B0 w d bn dl v ks (.returned v) w' :=
  ⟨rfl, bn, bs, N, S, dl, h.below hb, Only.of_below hb, fun x hx a ha => .inl ⟨x, hx, ha⟩⟩
theorem KPost.no {B0 : Nat} {w w' : World} {k : Nat} {fm : List FM} {FA : Option Addr} {Fc : Nat} {NA : Option Addr} {Nc : Nat} {SA : Option Addr} {Sc : Nat} {ks : KZ} (h : KSide B0 w k fm FA Fc NA Nc SA Sc ks) (hb : Below w.heap.size w w') (x : Int) : KPost B0 w k fm FA x ks (.returned (.int .i64 x)) w' :=
  ⟨rfl, fm, FA, Fc, NA, Nc, SA, Sc, h.below hb, Only.of_below hb, fun f hf a ha => .inl ⟨f, hf, ha⟩⟩
end Go.Proofs.YtbfmdpgghknccaaDoor
