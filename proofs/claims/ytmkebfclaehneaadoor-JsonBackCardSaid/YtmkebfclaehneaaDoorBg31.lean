/- SlicesStep, WalkPaths. -/
import Derived.Test.YtmkebfclaehneaaDoorBg19
import Derived.Test.YtmkebfclaehneaaDoorBg27
import Derived.Test.YtmkebfclaehneaaDoorBg30
import Derived.Deep.RegionHeld3
import Derived.Deep.DeepCutAuto
/- slices.Clone at steps. -/
namespace Go.Proofs.YtmkebfclaehneaaDoor
open Go.RowKit
set_option linter.unusedVariables false
set_option linter.unusedSimpArgs false

theorem infoStep : (Tryd.prog.info? 64).map (fun i => (i.zero, i.size, i.bytes)) = some (some (.agg #[.string ⟨#[]⟩, .int .i64 0]), 2, 24) := by kernel_rfl

set_option maxRecDepth 100000 in
set_option maxHeartbeats 2000000 in
theorem cloneStep_any (A : Option Addr) (n c : Nat) (xs : List Value) (w : World) (hl : xs.length = n * 2) (hA : SlAt w A xs) (hn : n ≤ 1000) (h1 : ∀ u ∈ xs, u.oneCell' = true) :
    Calls Tryd.prog 17 #[.slice A n c] w (NewRow 64 2 w n xs) := by
  have q22 : ∀ (w : World) (a : Option Addr) (n c n' c' : Nat), (binOp .eql 42 (.slice a n c) (.slice none n' c')).run Tryd.prog w = .ok (.bool a.isNone) w := fun w a n c n' c' => Lib.run_eql_slice_nil w _ _ a n c n' c' Tryd.underlying42
  cases A with
  | none =>
    have hx : xs = [] := by
      rcases hA with h | ⟨b, off, h, _⟩
      · exact h
      · cases h
    subst hx
    obtain rfl : n = 0 := by simp at hl; omega
    clear hA hl hn h1
    go_enter Tryd.func17, Tryd.ntmps17
    go_wp2_with fail
    go_ret
    exact ⟨none, 0, rfl, World.ownsRow_nil _ _ _ _, Below.refl _ _, by simp [blkOf]⟩
  | some a =>
    have hown : (w.alloc (.cells #[] 64)).ownsRow 0 64 2 (.slice (some ⟨w.heap.size, 0, none⟩) 0 0) 0 [] := World.ownsRow_made w #[] 0 (Nat.zero_le _) (Nat.zero_le _) (by simp)
    by_cases h0 : n = 0
    · subst h0
      have hx : xs = [] := List.eq_nil_of_length_eq_zero (by simpa using hl)
      subst hx
      have hr : ∀ ty, (Builtin.append_ #[42, 42] ty #[.slice (some ⟨w.heap.size, 0, none⟩) 0 0, .slice (some a) 0 c]).run Tryd.prog (w.alloc (.cells #[] 64)) = .ok (.slice (some ⟨w.heap.size, 0, none⟩) 0 0) (w.alloc (.cells #[] 64)) :=
        fun ty => run_append_none _ _ ty _ Tryd.underlying42 infoStep w.heap.size 0 0 #[] (heap_alloc_new w _) (Nat.le_refl _) (by simp) _ _
      have HR := Lib.hid hr
      have HO := Lib.hid hown
      clear hA hl hn h1 hr hown
      go_enter Tryd.func17, Tryd.ntmps17
      go_wp2_with (at_builtin; refine Lib.wpList_append_run _ rfl _ _ _ _ rfl _ _ rfl rfl _ _ (HR.out _) ?_)
      go_ret
      exact ⟨some ⟨w.heap.size, 0, none⟩, 0, rfl, HO.out, (Below.refl _ _).alloc (Nat.le_refl _) _, by simp [blkOf]⟩
    · obtain ⟨b, off, ha, hc⟩ : ∃ b off, a = ⟨b, off, none⟩ ∧ ∀ j u, xs[j]? = some u → w.cell? ⟨b, off + j, none⟩ = some u := by
        rcases hA with h | ⟨b, off, h, hc⟩
        · subst h; simp at hl; omega
        · exact ⟨b, off, Option.some.inj h, hc⟩
      subst ha
      obtain ⟨A', c', w', hr, ho, hg, hA'⟩ := run_append_own2 (P := Tryd.prog) (w.alloc (.cells #[] 64)) 42 42 64 Tryd.underlying42 infoStep rfl (by decide) _ 0 0 [] hown ⟨b, off, none⟩ n c (by omega) xs hl
        (fun j u hu => by rw [Addr.add_lit]; exact cell_below ((Below.refl _ w).alloc (Nat.le_refl _) _) (hc j u hu)) h1 (by simp only [maxLen]; omega) (by omega)
      rw [Nat.zero_add, List.nil_append] at ho
      rw [Nat.zero_add] at hr
      have hb : Below w.heap.size w w' := ((Below.refl _ _).alloc (Nat.le_refl _) _).trans ⟨hg.os, hg.tape, hg.output, Nat.le_trans (by simp) hg.size, fun k hk => hg.block k (by simp; omega) (by simp [Value.ownBlock]; omega)⟩
      have hnew : ∀ b ∈ blkOf A', w.heap.size ≤ b := by
        rcases hA' with ⟨rfl, _⟩ | rfl
        · simp [blkOf]
        · simp [blkOf]
      have hr' : ∀ ty, (Builtin.append_ #[42, 42] ty #[.slice (some ⟨w.heap.size, 0, none⟩) 0 0, .slice (some ⟨b, off, none⟩) n c]).run Tryd.prog (w.alloc (.cells #[] 64)) = .ok (.slice A' n c') w' := fun _ => hr
      have HR := Lib.hid hr'
      have HO := Lib.hid (And.intro ho (And.intro hb hnew))
      clear hl hn h1 hr hown hr' ho hb hnew hA' hg hA hc
      go_enter Tryd.func17, Tryd.ntmps17
      go_wp2_with (at_builtin; refine Lib.wpList_append_run _ rfl _ _ _ _ rfl _ _ rfl rfl _ _ (HR.out _) ?_)
      go_ret
      exact ⟨A', c', rfl, HO.out.1, HO.out.2.1, HO.out.2.2⟩
end Go.Proofs.YtmkebfclaehneaaDoor
/- json.Paths$1, the walk that gathers: the contract. -/
namespace Go.Proofs.YtmkebfclaehneaaDoor
open Go.RowKit
set_option linter.unusedVariables false
set_option linter.unusedSimpArgs false

def ownO (bo : Nat) (OA : Option Addr) (b : Nat) : Prop := b = bo ∨ (Value.slice OA 0 0).ownBlock = some b

/-- The value that is looked for, the walk itself, what was gathered. -/
structure Env (W0 : World) (x : JV) (bv bo bw : Nat) (OA : Option Addr) (oc : Nat) (l : List SP) (W : World) : Prop where
  bel : Below W0.heap.size W0 W
  v : Blk W bv 25 #[.int .i64 x.k, .int .i64 x.n, .string x.s, .int .i64 x.o, .int .i64 x.p]
  f : Blk W bw 61 #[.func (.func 16) #[] #[.pointer (some ⟨bv, 0, none⟩), .pointer (some ⟨bo, 0, none⟩), .pointer (some ⟨bw, 0, none⟩)]]
  o : Blk W bo 37 #[.slice OA l.length oc]
  own : W.ownsRow 0 42 1 (.slice OA l.length oc) l.length (l.map SP.cell)
  low : ∀ k, (Value.slice OA 0 0).ownBlock = some k → W0.heap.size ≤ k ∧ k ≠ bv ∧ k ≠ bw ∧ k ≠ bo
  ins : PathsIn W (ownO bo OA) l
theorem Env.below {W0 : World} {x : JV} {bv bo bw : Nat} {OA : Option Addr} {oc : Nat} {l : List SP} {W W' : World} (h : Env W0 x bv bo bw OA oc l W) (hb : Below W.heap.size W W') : Env W0 x bv bo bw OA oc l W' :=
  ⟨h.bel.trans (hb.mono h.bel.size), h.v.below hb h.v.lt, h.f.below hb h.f.lt, h.o.below hb h.o.lt, owns_below h.own hb, h.low, h.ins.below hb⟩

/-- One path more: appended, and stored. -/
theorem Env.push {W0 : World} {x : JV} {bv bo bw : Nat} {OA OA' : Option Addr} {oc oc' : Nat} {l : List SP} {s : SP} {W W' : World} (h : Env W0 x bv bo bw OA oc l W) (hbo : W0.heap.size ≤ bo) (hv : bv ≠ bo) (hw : bw ≠ bo) (hm : PathsIn W (ownO bo OA) [s])
    (ho : W'.ownsRow 0 42 1 (.slice OA' (l.length + 1) oc') (l.length + 1) (l.map SP.cell ++ [s.cell])) (hg : W.grownBy W' (Value.slice OA l.length oc).ownBlock) (hA : (OA' = OA ∧ oc' = oc) ∨ OA' = some ⟨W.heap.size, 0, none⟩) :
    Env W0 x bv bo bw OA' oc' (l ++ [s]) (W'.setCell ⟨bo, 0, none⟩ (.slice OA' (l.length + 1) oc')) ∧ Only (ownO bo OA) W (W'.setCell ⟨bo, 0, none⟩ (.slice OA' (l.length + 1) oc')) ∧ (∀ b, b < W.heap.size → ownO bo OA' b → ownO bo OA b) := by
  have hO := Only.of_grown hg
  rw [ownB] at hO
  have hsv := h.v.lt
  have hsf := h.f.lt
  have hso := h.o.lt
  have hbs := h.bel.size
  have hT : ∀ b, b < W.heap.size → ownO bo OA' b → ownO bo OA b := by
    intro b hb g
    rcases g with g | g
    · exact .inl g
    · rcases hA with ⟨rfl, _⟩ | rfl
      · exact .inr g
      · simp [Value.ownBlock] at g; omega
  have hO' : Only (ownO bo OA) W W' := hO.mono (fun k _ g => .inr g)
  have hO2 : Only (ownO bo OA) W (W'.setCell ⟨bo, 0, none⟩ (.slice OA' (l.length + 1) oc')) := hO'.setCell (.inl rfl) _
  have hlow' : ∀ k, (Value.slice OA' 0 0).ownBlock = some k → W0.heap.size ≤ k ∧ k ≠ bv ∧ k ≠ bw ∧ k ≠ bo := by
    intro k hk
    rcases hA with ⟨rfl, _⟩ | rfl
    · exact h.low k hk
    · simp [Value.ownBlock] at hk; omega
  refine ⟨⟨?_, ?_, ?_, ?_, ?_, hlow', ?_⟩, hO2, hT⟩
  · exact h.bel.trans (hO2.below hbs (by
      rintro k hk (g | g)
      · omega
      · have := (h.low k g).1; omega))
  · exact h.v.only hO2 (by rintro (g | g); exact hv g; exact (h.low _ g).2.1 rfl)
  · exact h.f.only hO2 (by rintro (g | g); exact hw g; exact (h.low _ g).2.2.1 rfl)
  · have h1 := (h.o.only hO (fun g => (h.low _ g).2.2.2 rfl)).set_ 0 (.slice OA' (l.length + 1) oc')
    rw [List.length_append]
    simpa using h1
  · have hne : (Value.slice OA' (l.length + 1) oc').ownBlock ≠ some bo := by rw [ownB]; intro g; exact (hlow' _ g).2.2.2 rfl
    rw [List.length_append, List.map_append]
    exact ho.kept (row := some bo) ⟨rfl, rfl, rfl, by simp [World.setCell], fun k hk hn => Below.heap_setCell _ _ _ k (fun e => hn (by rw [e]))⟩ (.inr hne)
  · exact (h.ins.turn hO2 hT).append (hm.turn hO2 hT)

theorem Only.comp {S S2 : Nat → Prop} {a b c : World} (h : Only S a b) (k : Only S2 b c) (hs : ∀ i, i < a.heap.size → S2 i → S i) : Only S a c :=
  ⟨k.os.trans h.os, k.tape.trans h.tape, k.output.trans h.output, Nat.le_trans h.size k.size, fun i hi hn => (k.block i (Nat.lt_of_lt_of_le hi h.size) (fun g => hn (hs i hi g))).trans (h.block i hi hn)⟩
theorem Blk.ne_ {w : World} {g g' : Nat} {t t' : TypeId} {cs cs' : Array Value} (h : Blk w g t cs) (h' : Blk w g' t' cs') (hne : t ≠ t') : g ≠ g' := by
  rintro rfl
  unfold Blk at h h'
  rw [h] at h'
  injection h' with h'
  injection h' with _ ht
  exact hne ht
theorem own_blk_ne {w : World} {g : Nat} {t : TypeId} {cs : Array Value} {base : Nat} {e : TypeId} {size n : Nat} {v : Value} {xs : List Value} (h : w.ownsRow base e size v n xs) (hg : Blk w g t cs) (hne : e ≠ t) : v.ownBlock ≠ some g := by
  rcases h.2 with ⟨rfl, _⟩ | ⟨g', cap, cur, rfl, _, hh, _⟩
  · simp [Value.ownBlock]
  · intro he
    have : g' = g := by simpa [Value.ownBlock] using he
    subst this
    exact Blk.ne_ (t := e) hh hg hne rfl

/-- What the walk gives. -/
def WalkQ (W0 : World) (x : JV) (bv bo bw : Nat) (OA : Option Addr) (l : List SP) (w : World) (ps : List (List St)) (e : Ending) (w' : World) : Prop :=
  ∃ OA' oc' m, e = .returned (.tuple #[]) ∧ Env W0 x bv bo bw OA' oc' (l ++ m) w' ∧ List.map SP.p m = ps ∧ Only (ownO bo OA) w w' ∧ (∀ b, b < w.heap.size → ownO bo OA' b → ownO bo OA b)

/-- The loop over the kids. -/
structure LoopW (W0 : World) (x : JV) (bv bo bw : Nat) (OA : Option Addr) (l : List SP) (w : World) (T : PT) (p : List St) (i : Nat) (OA' : Option Addr) (oc' : Nat) (m : List SP) (W : World) : Prop where
  env : Env W0 x bv bo bw OA' oc' (l ++ m) W
  ps : List.map SP.p m = hitP x T.val p ++ JT.pathsL x T.val T.keys 0 ((T.kids.map PT.tree).take i) p
  only : Only (ownO bo OA) w W
  turn : ∀ b, b < w.heap.size → ownO bo OA' b → ownO bo OA b
  t : Blk W w.heap.size 29 #[.int .i64 T.val.k, .int .i64 T.val.n, .string T.val.s, .int .i64 T.val.o, .int .i64 T.val.p, .slice T.kA T.keys.length T.kc, .slice T.cA T.kids.length T.cc]

set_option maxRecDepth 100000 in
set_option maxHeartbeats 8000000 in
theorem walk_any (x : JV) (bv bo bw : Nat) : ∀ (T : PT) (W0 : World) (hT : InJ W0 T) (hf : T.tree.formed = true) (hbo : W0.heap.size ≤ bo) (hv : bv ≠ bo) (hw : bw ≠ bo) (OA : Option Addr) (oc : Nat) (l : List SP) (A : Option Addr) (c : Nat) (p : List St) (w : World)
    (hE : Env W0 x bv bo bw OA oc l w) (hA : SlN w (ownO bo OA) A (stCells p)) (hpc : p.length ≤ c) (hl : p.length + T.tree.size ≤ 1000) (hll : l.length + T.tree.size ≤ 2000),
    Calls Tryd.prog 16 #[T.value, .slice A p.length c, .pointer (some ⟨bv, 0, none⟩), .pointer (some ⟨bo, 0, none⟩), .pointer (some ⟨bw, 0, none⟩)] w (WalkQ W0 x bv bo bw OA l w (T.tree.paths x p)) := by
  intro T
  refine PT.ind (P := fun T => ∀ (W0 : World) (hT : InJ W0 T) (hf : T.tree.formed = true) (hbo : W0.heap.size ≤ bo) (hv : bv ≠ bo) (hw : bw ≠ bo) (OA : Option Addr) (oc : Nat) (l : List SP) (A : Option Addr) (c : Nat) (p : List St) (w : World)
    (hE : Env W0 x bv bo bw OA oc l w) (hA : SlN w (ownO bo OA) A (stCells p)) (hpc : p.length ≤ c) (hl : p.length + T.tree.size ≤ 1000) (hll : l.length + T.tree.size ≤ 2000),
    Calls Tryd.prog 16 #[T.value, .slice A p.length c, .pointer (some ⟨bv, 0, none⟩), .pointer (some ⟨bo, 0, none⟩), .pointer (some ⟨bw, 0, none⟩)] w (WalkQ W0 x bv bo bw OA l w (T.tree.paths x p))) ?_ T
  clear T
  intro v kA kc keys cA cc kids ih W0 hT hf hbo hv hw OA oc l A c p w hE hA hpc hl hll
  have hsl := hT.slot
  have hpe : (PT.node v kA kc keys cA cc kids).tree.paths x p = hitP x v p ++ JT.pathsL x v keys 0 (kids.map PT.tree) p := by
    rw [JT.paths_eq, PT.tree_val, PT.tree_keys, PT.tree_kids]; rfl
  have hsz : (PT.node v kA kc keys cA cc kids).tree.size = 1 + JT.sizeL (kids.map PT.tree) := by rw [JT.size_eq, PT.tree_kids]; rfl
  have hkl : v.k = 5 → keys.length = kids.length := by
    intro h5
    have h1 := ((JT.formed_iff _).1 hf).1
    unfold JT.top at h1
    rw [PT.tree_val, PT.tree_keys, PT.tree_kids] at h1
    simp only [PT.val, PT.keys, PT.kids, h5, if_true] at h1
    simp at h1
    exact h1.2.1
  have hcl : kids.length ≤ 9223372036854775807 := Nat.le_trans hsl.clen (by decide)
  have hfk : ∀ k ∈ kids, k.tree.formed = true := fun k hk => ((JT.formed_iff _).1 hf).2 k.tree (by rw [PT.tree_kids]; exact List.mem_map.2 ⟨k, hk, rfl⟩)
  have HI := Lib.hid (fun (i : Nat) (k : PT) (h1 : kids[i]? = some k) => ih k (List.mem_of_getElem? h1) W0 (hT.kids k (List.mem_of_getElem? h1)) (hfk k (List.mem_of_getElem? h1)) hbo hv hw)
  have HP := Lib.hid hpe
  have HS := Lib.hid (And.intro hsl (And.intro hE (And.intro hA (And.intro hpc (And.intro hl (And.intro hll (And.intro hsz (And.intro hkl (And.intro hbo (And.intro hv hw))))))))))
  rw [PT.value_eq]
  simp only [PT.val, PT.keys, PT.kids, PT.kA, PT.kc, PT.cA, PT.cc]
  have hq : ∀ w, (binOp .eql 25 (.agg #[.int .i64 v.k, .int .i64 v.n, .string v.s, .int .i64 v.o, .int .i64 v.p]) (.agg #[.int .i64 x.k, .int .i64 x.n, .string x.s, .int .i64 x.o, .int .i64 x.p])).run Tryd.prog w = .ok (.bool (v.same x)) w := run_eql_val v x
  have hpl : p.length ≤ 1000 := by omega
  have hltv := hE.v.lt
  have hltf := hE.f.lt
  have hlto := hE.o.lt
  have v0 : w.cell? ⟨bv, 0, none⟩ = some (.int .i64 x.k) := hE.v.cell 0
  have v1 : w.cell? ⟨bv, 1, none⟩ = some (.int .i64 x.n) := hE.v.cell 1
  have v2 : w.cell? ⟨bv, 2, none⟩ = some (.string x.s) := hE.v.cell 2
  have v3 : w.cell? ⟨bv, 3, none⟩ = some (.int .i64 x.o) := hE.v.cell 3
  have v4 : w.cell? ⟨bv, 4, none⟩ = some (.int .i64 x.p) := hE.v.cell 4
  have o0 : w.cell? ⟨bo, 0, none⟩ = some (.slice OA l.length oc) := hE.o.cell 0
  clear ih hsl hpe hsz hkl hfk hT hf hE hA hl hll hbo hv hw
  obtain ⟨r, hr⟩ : ∃ r, v.same x = r := ⟨_, rfl⟩
  rw [hr] at hq
  have HR := Lib.hid hr
  clear hr
  -- WALK
  have hE1 := HS.out.2.1.below ((Below.refl _ w).alloc (Nat.le_refl _) (.cells #[.int .i64 v.k, .int .i64 v.n, .string v.s, .int .i64 v.o, .int .i64 v.p, .slice kA keys.length kc, .slice cA kids.length cc] 29))
  have hA1 : SlN (w.alloc (.cells #[.int .i64 v.k, .int .i64 v.n, .string v.s, .int .i64 v.o, .int .i64 v.p, .slice kA keys.length kc, .slice cA kids.length cc] 29)) (ownO bo OA) A (stCells p) := HS.out.2.2.1.below ((Below.refl _ w).alloc (Nat.le_refl _) _)
  have HCL := Lib.hid (cloneStep_any A p.length c (stCells p) (w.alloc (.cells #[.int .i64 v.k, .int .i64 v.n, .string v.s, .int .i64 v.o, .int .i64 v.p, .slice kA keys.length kc, .slice cA kids.length cc] 29)).drew (stCells_len p) hA1.sl.drew hpl (st_one p))
  have HE1 := Lib.hid (And.intro hE1 (Blk.new w 29 #[.int .i64 v.k, .int .i64 v.n, .string v.s, .int .i64 v.o, .int .i64 v.p, .slice kA keys.length kc, .slice cA kids.length cc]))
  have hll : l.length ≤ 2000 := by have := HS.out.2.2.2.2.2.1; omega
  have qa : (w.alloc (.cells #[.int .i64 v.k, .int .i64 v.n, .string v.s, .int .i64 v.o, .int .i64 v.p, .slice kA keys.length kc, .slice cA kids.length cc] 29)).drew.cell? ⟨bo, 0, none⟩ = some (.slice OA l.length oc) := hE1.o.cell 0
  have qb : (w.alloc (.cells #[.int .i64 v.k, .int .i64 v.n, .string v.s, .int .i64 v.o, .int .i64 v.p, .slice kA keys.length kc, .slice cA kids.length cc] 29)).drew.frozen? ⟨bo, 0, none⟩ = false := hE1.o.frozen 0
  clear hE1 hA1
  go_enter Tryd.func16, Tryd.ntmps16
  go_upto_if 13 with (fail)
  clear hq
  go_cut [14] (fun s14 wx => ∃ OA0 oc0 m0, LoopW W0 x bv bo bw OA l w (.node v kA kc keys cA cc kids) p 0 OA0 oc0 m0 wx)
  case first =>
    cases r with
    | true =>
      go_wp2_with fail
      go_region_law (first
        | (refine step_append_run (o := ⟨some 18, _, _, _, _, _⟩) rfl _ _ _ _ rfl _ _ rfl rfl (HRP.out _) ?_)
        | (go_simp
           (with_reducible refine HCL.out.mono ?_)
           rintro e Wd ⟨CA, cc2, rfl, hrow, hbd, hnew⟩
           have hbd' : Below (w.alloc (.cells #[.int .i64 v.k, .int .i64 v.n, .string v.s, .int .i64 v.o, .int .i64 v.p, .slice kA keys.length kc, .slice cA kids.length cc] 29)).heap.size (w.alloc (.cells #[.int .i64 v.k, .int .i64 v.n, .string v.s, .int .i64 v.o, .int .i64 v.p, .slice kA keys.length kc, .slice cA kids.length cc] 29)) Wd := ⟨hbd.os, hbd.tape, hbd.output, hbd.size, hbd.block⟩
           have hEd := HE1.out.1.below hbd'
           have hEe := hEd.below ((Below.refl _ Wd).alloc (Nat.le_refl _) (.cells #[.slice CA p.length cc2] 42))
           have hs1 : PathsIn (Wd.alloc (.cells #[.slice CA p.length cc2] 42)) (ownO bo OA) [⟨CA, cc2, p⟩] := by
             intro s hs
             simp at hs
             subst hs
             refine ⟨SlN.of_new ((SlAt.of_owns hrow).alloc _) ?_, hpl⟩
             intro a ha g
             have h1 : w.heap.size < a.block := by
               have := hnew a.block (by rw [show CA = some a from ha]; simp [blkOf])
               simp at this
               omega
             rcases g with g | g
             · have := HS.out.2.1.o.lt; omega
             · have := (HS.out.2.1.own.lt a.block (by rw [ownB]; exact g)).2; omega
           obtain ⟨OA', oc', We, hr3, ho3, hg3, hA3⟩ := run_append_sl (P := Tryd.prog) (Wd.alloc (.cells #[.slice CA p.length cc2] 42)) 37 37 42 Tryd.underlying37 infoPath rfl (by decide) OA l.length oc (l.map SP.cell) hEe.own (some ⟨Wd.heap.size, 0, none⟩) 1 1 [.slice CA p.length cc2] rfl (SlAt.of_blk (Blk.new _ _ _)) (by intro u hu; simp at hu; rw [hu]; rfl) (by simp only [maxLen]; omega) (by omega)
           have hr3' : ∀ ty, (Builtin.append_ #[37, 37] ty #[.slice OA l.length oc, .slice (some ⟨Wd.heap.size, 0, none⟩) 1 1]).run Tryd.prog (Wd.alloc (.cells #[.slice CA p.length cc2] 42)) = .ok (.slice OA' (l.length + 1) oc') We := fun _ => hr3
           have HRP := Lib.hid hr3'
           have hpush := hEe.push (s := ⟨CA, cc2, p⟩) HS.out.2.2.2.2.2.2.2.2.1 HS.out.2.2.2.2.2.2.2.2.2.1 HS.out.2.2.2.2.2.2.2.2.2.2 hs1 ho3 hg3 hA3
           have hOe : Blk We bo 37 #[.slice OA l.length oc] := by
             have hO := Only.of_grown hg3
             rw [ownB] at hO
             exact hEe.o.only hO (fun g => (hEe.low _ g).2.2.2 rfl)
           have q0 : Wd.cell? ⟨bo, 0, none⟩ = some (.slice OA l.length oc) := hEd.o.cell 0
           have q1 : Wd.frozen? ⟨bo, 0, none⟩ = false := hEd.o.frozen 0
           have q2 : (Wd.alloc (.cells #[.slice CA p.length cc2] 42)).cell? ⟨bo, 0, none⟩ = some (.slice OA l.length oc) := hEe.o.cell 0
           have q3 : (Wd.alloc (.cells #[.slice CA p.length cc2] 42)).frozen? ⟨bo, 0, none⟩ = false := hEe.o.frozen 0
           have q4 : We.cell? ⟨bo, 0, none⟩ = some (.slice OA l.length oc) := hOe.cell 0
           have q5 : We.frozen? ⟨bo, 0, none⟩ = false := hOe.frozen 0
           have hL : LoopW W0 x bv bo bw OA l w (.node v kA kc keys cA cc kids) p 0 OA' oc' [⟨CA, cc2, p⟩] (We.setCell ⟨bo, 0, none⟩ (.slice OA' (l.length + 1) oc')) := by
             have hbw : Below w.heap.size w (Wd.alloc (.cells #[.slice CA p.length cc2] 42)) := (((Below.refl _ w).alloc (Nat.le_refl _) _).trans (hbd'.mono (by simp))).trans (((Below.refl _ Wd).alloc (Nat.le_refl _) _).mono (Nat.le_trans (by simp) hbd'.size))
             have hTe : Blk (Wd.alloc (.cells #[.slice CA p.length cc2] 42)) w.heap.size 29 #[.int .i64 v.k, .int .i64 v.n, .string v.s, .int .i64 v.o, .int .i64 v.p, .slice kA keys.length kc, .slice cA kids.length cc] := (HE1.out.2.below hbd' HE1.out.2.lt).alloc _
             refine ⟨hpush.1, by simp [JT.pathsL, hitP, HR.out, PT.val, PT.kids], (Only.of_below hbw).trans hpush.2.1, ?_, hTe.only hpush.2.1 ?_⟩
             · intro b hb g
               exact hpush.2.2 b (Nat.lt_of_lt_of_le hb hbw.size) g
             · rintro (g | g)
               · exact Blk.ne_ hTe hEe.o (by decide) g
               · rw [← ownB OA l.length oc] at g
                 exact own_blk_ne hEe.own hTe (by decide) g
           have HLL := Lib.hid hL
           clear hrow hbd hnew hbd' hEd hEe hs1 hr3 hr3' ho3 hg3 hA3 hpush hOe hL))
      all_goals
        go_wp2_with fail
        go_meet
        exact ⟨OA', oc', [⟨CA, cc2, p⟩], HLL.out⟩
    | false =>
      go_wp2_with fail
      go_meet
      exact ⟨OA, oc, [], by rw [List.append_nil]; exact HS.out.2.1.below ((Below.refl _ _).alloc (Nat.le_refl _) _), by simp [JT.pathsL, hitP, HR.out, PT.val, PT.kids], Only.of_below ((Below.refl _ _).alloc (Nat.le_refl _) _), fun _ _ g => g, Blk.new _ _ _⟩
  case rest =>
    obtain ⟨OA0, oc0, m0, hL0⟩ := hcut
    clear HCL HE1 qa qb
    have HSt := Lib.hid hL0
    have t6 : wc.cell? ⟨w.heap.size, 6, none⟩ = some (.slice cA kids.length cc) := hL0.t.cell 6
    clear hL0 v0 v1 v2 v3 v4 o0 hltv hltf hlto
    go_wp2_with fail
    clear t6
    go_loopw [22] (fun iv wr => ∃ (i : Nat) (OAi : Option Addr) (oci : Nat) (m : List SP), iv = .int .i64 i ∧ i ≤ kids.length ∧ LoopW W0 x bv bo bw OA l w (.node v kA kc keys cA cc kids) p i OAi oci m wr) (fun iv _ => kids.length - (intOf iv).toNat)
    case atStart => exact ⟨0, OA0, oc0, m0, rfl, by omega, HSt.out⟩
    case round =>
      obtain ⟨i, OAi, oci, m, rfl, hi, hL⟩ := hrel
      have t0 : wr.cell? ⟨w.heap.size, 0, none⟩ = some (.int .i64 v.k) := hL.t.cell 0
      have hltw := hL.t.lt
      by_cases hlt : i < kids.length
      · have hlti : (i : Int) < (kids.length : Int) := by omega
        obtain ⟨K, hK⟩ : ∃ K, kids[i]? = some K := ⟨_, List.getElem?_eq_getElem hlt⟩
        have hWr : Below W0.heap.size W0 wr := hL.env.bel
        obtain ⟨bk, ok, hcA, p0, p1, p2, p3, p4, p5, p6⟩ := kid_cells (HS.out.1.kids.below hWr) hK
        simp only [PT.cA] at hcA
        subst hcA
        have HX := Lib.hid (And.intro hL hK)
        by_cases h5 : v.k = 5
        · obtain ⟨y, hy⟩ : ∃ y, keys[i]? = some y := ⟨_, List.getElem?_eq_getElem (by rw [HS.out.2.2.2.2.2.2.2.1 h5]; exact hlt)⟩
          have hkl := HS.out.2.2.2.2.2.2.2.1 h5
          obtain ⟨bq, off, hkA, hcy⟩ := (HS.out.1.keys.below hWr).at_ (j := i) (u := .string y) (by simp only [PT.keys]; simp [hy])
          simp only [PT.kA] at hkA
          have t5 : wr.cell? ⟨w.heap.size, 5, none⟩ = some (.slice kA keys.length kc) := hL.t.cell 5
          rw [hkA, hkl] at t5
          have hbq : bq < wr.heap.size := cell_lt hcy
          have H5 := Lib.hid (And.intro h5 hy)
          clear hL hK hkA hy hkl hWr
          rw [h5] at t0
          clear h5
          have hWX : Below wr.heap.size wr ((wr.alloc (.cells #[.int .i64 K.val.k, .int .i64 K.val.n, .string K.val.s, .int .i64 K.val.o, .int .i64 K.val.p, .slice K.kA K.keys.length K.kc, .slice K.cA K.kids.length K.cc] 29)).alloc (.cells #[.string y, .int .i64 0] 64)) := ((Below.refl _ wr).alloc (Nat.le_refl _) _).alloc (by simp) _
          have hszX : ((wr.alloc (.cells #[.int .i64 K.val.k, .int .i64 K.val.n, .string K.val.s, .int .i64 K.val.o, .int .i64 K.val.p, .slice K.kA K.keys.length K.kc, .slice K.cA K.kids.length K.cc] 29)).alloc (.cells #[.string y, .int .i64 0] 64)).heap.size = wr.heap.size + 2 := by simp
          have hKb : Blk ((wr.alloc (.cells #[.int .i64 K.val.k, .int .i64 K.val.n, .string K.val.s, .int .i64 K.val.o, .int .i64 K.val.p, .slice K.kA K.keys.length K.kc, .slice K.cA K.kids.length K.cc] 29)).alloc (.cells #[.string y, .int .i64 0] 64)) wr.heap.size 29 #[.int .i64 K.val.k, .int .i64 K.val.n, .string K.val.s, .int .i64 K.val.o, .int .i64 K.val.p, .slice K.kA K.keys.length K.kc, .slice K.cA K.kids.length K.cc] := (Blk.new _ _ _).alloc _
          have hSb : Blk ((wr.alloc (.cells #[.int .i64 K.val.k, .int .i64 K.val.n, .string K.val.s, .int .i64 K.val.o, .int .i64 K.val.p, .slice K.kA K.keys.length K.kc, .slice K.cA K.kids.length K.cc] 29)).alloc (.cells #[.string y, .int .i64 0] 64)) (wr.heap.size + 1) 64 #[.string y, .int .i64 0] := Blk.newer _ _ _ (by simp)
          have hWY : Below wr.heap.size wr (((wr.alloc (.cells #[.int .i64 K.val.k, .int .i64 K.val.n, .string K.val.s, .int .i64 K.val.o, .int .i64 K.val.p, .slice K.kA K.keys.length K.kc, .slice K.cA K.kids.length K.cc] 29)).alloc (.cells #[.string y, .int .i64 0] 64)).alloc (.cells #[.string y, .int .i64 0] 64)).drew := (hWX.alloc (by rw [hszX]; omega) _).drew
          have hAw : SlN wr (ownO bo OAi) A (stCells p) := HS.out.2.2.1.turn HX.out.1.only HX.out.1.turn
          have hnone : A = none → p.length = 0 ∧ p.length = 0 := by
            intro h
            rcases hAw with g | ⟨b, off, g, _⟩
            · have := stCells_len p
              rw [g] at this
              simp at this
              omega
            · rw [h] at g; cases g
          obtain ⟨PA, pc, Wz, hr1, hsl1, hb1, hnew1, hpc1⟩ := run_append_fresh (P := Tryd.prog) (((wr.alloc (.cells #[.int .i64 K.val.k, .int .i64 K.val.n, .string K.val.s, .int .i64 K.val.o, .int .i64 K.val.p, .slice K.kA K.keys.length K.kc, .slice K.cA K.kids.length K.cc] 29)).alloc (.cells #[.string y, .int .i64 0] 64)).alloc (.cells #[.string y, .int .i64 0] 64)).drew 42 42 64 Tryd.underlying42 infoStep' rfl (by decide) A p.length p.length (stCells p) hnone (stCells_len p) (hAw.below hWY).sl (wr.heap.size + 1 + 1) 1 1 [.string y, .int .i64 0] (by decide) rfl ((SlAt.of_blk (Blk.newer ((wr.alloc (.cells #[.int .i64 K.val.k, .int .i64 K.val.n, .string K.val.s, .int .i64 K.val.o, .int .i64 K.val.p, .slice K.kA K.keys.length K.kc, .slice K.cA K.kids.length K.cc] 29)).alloc (.cells #[.string y, .int .i64 0] 64)) _ _ (by simp))).drew) (by intro u hu; simp at hu; rcases hu with rfl | rfl <;> rfl) (by omega) (by simp only [maxLen]; omega) (by omega)
          have hr1' : ∀ ty, (Builtin.append_ #[42, 42] ty #[.slice A p.length p.length, .slice (some ⟨wr.heap.size + 1 + 1, 0, none⟩) 1 1]).run Tryd.prog (((wr.alloc (.cells #[.int .i64 K.val.k, .int .i64 K.val.n, .string K.val.s, .int .i64 K.val.o, .int .i64 K.val.p, .slice K.kA K.keys.length K.kc, .slice K.cA K.kids.length K.cc] 29)).alloc (.cells #[.string y, .int .i64 0] 64)).alloc (.cells #[.string y, .int .i64 0] 64)).drew = .ok (.slice PA (p.length + 1) pc) Wz := fun _ => hr1
          have hwz : Below wr.heap.size wr Wz := hWY.trans (hb1.mono hWY.size)
          have hstep : stCells p ++ [Value.string y, Value.int .i64 0] = stCells (p ++ [stepAt v keys i]) := by rw [stCells_append]; simp [stCells, St.cells, stepAt, H5.out.1, H5.out.2]
          rw [hstep] at hsl1
          have hEz := HX.out.1.env.below hwz
          have hYs := hWY.size
          have hpSl : SlN Wz (ownO bo OAi) PA (stCells (p ++ [stepAt v keys i])) := SlN.of_new hsl1 (by
            intro a ha g
            have h1 := hnew1 a ha
            rcases g with g | g
            · have := HX.out.1.env.o.lt
              omega
            · have := (HX.out.1.env.own.lt a.block (by rw [ownB]; exact g)).2
              omega)
          have htl : (kids.map PT.tree)[i]? = some K.tree := by rw [List.getElem?_map, HX.out.2]; rfl
          have hts := JT.sizeL_take_succ htl
          have htl2 := JT.sizeL_take_le (kids.map PT.tree) (i + 1)
          have hml : m.length ≤ 1 + JT.sizeL ((kids.map PT.tree).take i) := by
            have h1 := congrArg List.length HX.out.1.ps
            simp only [List.length_map, List.length_append] at h1
            have h2 := hitP_len x v p
            have h3 := JT.pathsL_len x v keys p ((kids.map PT.tree).take i) 0
            simp only [PT.val, PT.keys, PT.kids] at h1
            omega
          have hKl : (p ++ [stepAt v keys i]).length + K.tree.size ≤ 1000 := by
            have h1 := HS.out.2.2.2.2.1
            have h2 := HS.out.2.2.2.2.2.2.1
            simp only [List.length_append, List.length_cons, List.length_nil]
            omega
          have hLl : (l ++ m).length + K.tree.size ≤ 2000 := by
            have h1 := HS.out.2.2.2.2.2.1
            have h2 := HS.out.2.2.2.2.2.2.1
            rw [List.length_append]
            omega
          have HC := HI.out i K HX.out.2 OAi oci (l ++ m) PA pc (p ++ [stepAt v keys i]) Wz hEz hpSl (by rw [show (p ++ [stepAt v keys i]).length = p.length + 1 from by simp]; exact hpc1) hKl hLl
          rw [show (p ++ [stepAt v keys i]).length = p.length + 1 from by simp, PT.value_eq] at HC
          have HCC := Lib.hid HC
          have f0 : wr.cell? ⟨bw, 0, none⟩ = some (.func (.func 16) #[] #[.pointer (some ⟨bv, 0, none⟩), .pointer (some ⟨bo, 0, none⟩), .pointer (some ⟨bw, 0, none⟩)]) := HX.out.1.env.f.cell 0
          have hltf' := HX.out.1.env.f.lt
          have hZb : Below ((wr.alloc (.cells #[.int .i64 K.val.k, .int .i64 K.val.n, .string K.val.s, .int .i64 K.val.o, .int .i64 K.val.p, .slice K.kA K.keys.length K.kc, .slice K.cA K.kids.length K.cc] 29)).alloc (.cells #[.string y, .int .i64 0] 64)).heap.size ((wr.alloc (.cells #[.int .i64 K.val.k, .int .i64 K.val.n, .string K.val.s, .int .i64 K.val.o, .int .i64 K.val.p, .slice K.kA K.keys.length K.kc, .slice K.cA K.kids.length K.cc] 29)).alloc (.cells #[.string y, .int .i64 0] 64)) Wz := ⟨hb1.os, hb1.tape, hb1.output, Nat.le_trans (by simp) hb1.size, fun k hk => (hb1.block k (by simp at hk ⊢; omega)).trans (Below.heap_alloc ((wr.alloc (.cells #[.int .i64 K.val.k, .int .i64 K.val.n, .string K.val.s, .int .i64 K.val.o, .int .i64 K.val.p, .slice K.kA K.keys.length K.kc, .slice K.cA K.kids.length K.cc] 29)).alloc (.cells #[.string y, .int .i64 0] 64)) _ k hk)⟩
          have hKz := hKb.below hZb hKb.lt
          have fz : Wz.cell? ⟨bw, 0, none⟩ = some (.func (.func 16) #[] #[.pointer (some ⟨bv, 0, none⟩), .pointer (some ⟨bo, 0, none⟩), .pointer (some ⟨bw, 0, none⟩)]) := hEz.f.cell 0
          have kz0 : Wz.cell? ⟨wr.heap.size, 0, none⟩ = some (.int .i64 K.val.k) := hKz.cell 0
          have kz1 : Wz.cell? ⟨wr.heap.size, 1, none⟩ = some (.int .i64 K.val.n) := hKz.cell 1
          have kz2 : Wz.cell? ⟨wr.heap.size, 2, none⟩ = some (.string K.val.s) := hKz.cell 2
          have kz3 : Wz.cell? ⟨wr.heap.size, 3, none⟩ = some (.int .i64 K.val.o) := hKz.cell 3
          have kz4 : Wz.cell? ⟨wr.heap.size, 4, none⟩ = some (.int .i64 K.val.p) := hKz.cell 4
          have kz5 : Wz.cell? ⟨wr.heap.size, 5, none⟩ = some (.slice K.kA K.keys.length K.kc) := hKz.cell 5
          have kz6 : Wz.cell? ⟨wr.heap.size, 6, none⟩ = some (.slice K.cA K.kids.length K.cc) := hKz.cell 6
          have hSz := hSb.below hZb hSb.lt
          have sz0 : Wz.cell? ⟨wr.heap.size + 1, 0, none⟩ = some (.string y) := hSz.cell 0
          have sz1 : Wz.cell? ⟨wr.heap.size + 1, 1, none⟩ = some (.int .i64 0) := hSz.cell 1
          have H1 := Lib.hid (And.intro hwz (And.intro htl (And.intro hts htl2)))
          have HR1 := Lib.hid hr1'
          have hnew : ∀ q, wr.heap.size ≤ q → ¬ ownO bo OAi q := by
            rintro q hq (g | g)
            · have := HX.out.1.env.o.lt; omega
            · have := (HX.out.1.env.own.lt q (by rw [ownB]; exact g)).2; omega
          have HK2 := Lib.hid (And.intro hKz (And.intro hSz (And.intro (hnew _ (Nat.le_refl _)) (hnew _ (Nat.le_succ _)))))
          clear hWX hszX hKb hSb hWY hAw hnone hr1 hr1' hsl1 hb1 hnew1 hpc1 hwz hstep hEz hYs hpSl htl hts htl2 hml hKl hLl HC hZb hKz hSz hnew
          go_wp2_with fail
          have fa : (((wr.alloc (.cells #[.int .i64 K.val.k, .int .i64 K.val.n, .string K.val.s, .int .i64 K.val.o, .int .i64 K.val.p, .slice K.kA K.keys.length K.kc, .slice K.cA K.kids.length K.cc] 29)).alloc (.cells #[.string y, .int .i64 0] 64)).alloc (.cells #[.string y, .int .i64 0] 64)).drew.cell? ⟨bw, 0, none⟩ = some (.func (.func 16) #[] #[.pointer (some ⟨bv, 0, none⟩), .pointer (some ⟨bo, 0, none⟩), .pointer (some ⟨bw, 0, none⟩)]) := HX.out.1.env.f.below ((((Below.refl _ wr).alloc (Nat.le_refl _) _).alloc (by simp) _).alloc (by simp; omega) _) hltf' |>.cell 0
          go_region_held3 (fun w' => w'.cell? ⟨bw, 0, none⟩ = some (.func (.func 16) #[] #[.pointer (some ⟨bv, 0, none⟩), .pointer (some ⟨bo, 0, none⟩), .pointer (some ⟨bw, 0, none⟩)]) ∧ w'.cell? ⟨wr.heap.size, 0, none⟩ = some (.int .i64 K.val.k) ∧ w'.cell? ⟨wr.heap.size, 1, none⟩ = some (.int .i64 K.val.n) ∧ w'.cell? ⟨wr.heap.size, 2, none⟩ = some (.string K.val.s) ∧ w'.cell? ⟨wr.heap.size, 3, none⟩ = some (.int .i64 K.val.o) ∧ w'.cell? ⟨wr.heap.size, 4, none⟩ = some (.int .i64 K.val.p) ∧ w'.cell? ⟨wr.heap.size, 5, none⟩ = some (.slice K.kA K.keys.length K.kc) ∧ w'.cell? ⟨wr.heap.size, 6, none⟩ = some (.slice K.cA K.kids.length K.cc) ∧ w'.cell? ⟨wr.heap.size + 1, 0, none⟩ = some (.string y) ∧ w'.cell? ⟨wr.heap.size + 1, 1, none⟩ = some (.int .i64 0)) (first | (with_reducible exact ⟨fz, kz0, kz1, kz2, kz3, kz4, kz5, kz6, sz0, sz1⟩) | (with_reducible exact ⟨fd, kd0, kd1, kd2, kd3, kd4, kd5, kd6, sd0, sd1⟩) | ((with_reducible refine And.intro fa ?_); go_keep) | go_keep) (first
            | (refine step_append_run (o := ⟨some 49, _, _, _, _, _⟩) rfl _ _ _ _ rfl _ _ rfl rfl (HR1.out _) ?_)
            | (go_simp
               (with_reducible refine HCC.out.mono ?_)
               rintro e Wd ⟨OA', oc', m', rfl, hE', hm', hO', hT'⟩
               have hKd := HK2.out.1.only hO' HK2.out.2.2.1
               have hSd := HK2.out.2.1.only hO' HK2.out.2.2.2
               have fd : Wd.cell? ⟨bw, 0, none⟩ = some (.func (.func 16) #[] #[.pointer (some ⟨bv, 0, none⟩), .pointer (some ⟨bo, 0, none⟩), .pointer (some ⟨bw, 0, none⟩)]) := hE'.f.cell 0
               have kd0 : Wd.cell? ⟨wr.heap.size, 0, none⟩ = some (.int .i64 K.val.k) := hKd.cell 0
               have kd1 : Wd.cell? ⟨wr.heap.size, 1, none⟩ = some (.int .i64 K.val.n) := hKd.cell 1
               have kd2 : Wd.cell? ⟨wr.heap.size, 2, none⟩ = some (.string K.val.s) := hKd.cell 2
               have kd3 : Wd.cell? ⟨wr.heap.size, 3, none⟩ = some (.int .i64 K.val.o) := hKd.cell 3
               have kd4 : Wd.cell? ⟨wr.heap.size, 4, none⟩ = some (.int .i64 K.val.p) := hKd.cell 4
               have kd5 : Wd.cell? ⟨wr.heap.size, 5, none⟩ = some (.slice K.kA K.keys.length K.kc) := hKd.cell 5
               have kd6 : Wd.cell? ⟨wr.heap.size, 6, none⟩ = some (.slice K.cA K.kids.length K.cc) := hKd.cell 6
               have sd0 : Wd.cell? ⟨wr.heap.size + 1, 0, none⟩ = some (.string y) := hSd.cell 0
               have sd1 : Wd.cell? ⟨wr.heap.size + 1, 1, none⟩ = some (.int .i64 0) := hSd.cell 1
               have hL : LoopW W0 x bv bo bw OA l w (.node v kA kc keys (some ⟨bk, ok, none⟩) cc kids) p (i + 1) OA' oc' (m ++ m') Wd := by
                 refine ⟨by rw [← List.append_assoc]; exact hE', ?_, (HX.out.1.only.trans (Only.of_below H1.out.1)).comp hO' HX.out.1.turn, ?_, ?_⟩
                 · rw [List.map_append, HX.out.1.ps, hm']
                   simp only [PT.val, PT.keys, PT.kids]
                   rw [JT.pathsL_take x v keys p H1.out.2.1, List.append_assoc]
                 · intro b hb g
                   exact HX.out.1.turn b hb (hT' b (Nat.lt_of_lt_of_le hb (Nat.le_trans HX.out.1.only.size H1.out.1.size)) g)
                 · refine (HX.out.1.t.below H1.out.1 HX.out.1.t.lt).only hO' ?_
                   rintro (g | g)
                   · exact Blk.ne_ HX.out.1.t HX.out.1.env.o (by decide) g
                   · rw [← ownB OAi (l ++ m).length oci] at g
                     exact own_blk_ne HX.out.1.env.own HX.out.1.t (by decide) g
               have HL := Lib.hid hL
               clear hE' hm' hO' hT' hL hKd hSd))
          all_goals
            go_wp2_with fail
            clear t0 t5 hltw hcy hbq p0 p1 p2 p3 p4 p5 p6 f0 hltf' fa fz kz0 kz1 kz2 kz3 kz4 kz5 kz6 sz0 sz1 HCC HR1 fd kd0 kd1 kd2 kd3 kd4 kd5 kd6 sd0 sd1
            go_roundw
            case rel => exact ⟨i + 1, OA', oc', m ++ m', by go_num, by omega, HL.out⟩
            case measure => simp [intOf] <;> omega
        · have h5b : (v.k == 5) = false := by simpa using h5
          have H5 := Lib.hid h5
          clear hL hK h5 hWr
          have hWX : Below wr.heap.size wr ((wr.alloc (.cells #[.int .i64 K.val.k, .int .i64 K.val.n, .string K.val.s, .int .i64 K.val.o, .int .i64 K.val.p, .slice K.kA K.keys.length K.kc, .slice K.cA K.kids.length K.cc] 29)).alloc (.cells #[.string ⟨#[]⟩, .int .i64 i] 64)) := ((Below.refl _ wr).alloc (Nat.le_refl _) _).alloc (by simp) _
          have hszX : ((wr.alloc (.cells #[.int .i64 K.val.k, .int .i64 K.val.n, .string K.val.s, .int .i64 K.val.o, .int .i64 K.val.p, .slice K.kA K.keys.length K.kc, .slice K.cA K.kids.length K.cc] 29)).alloc (.cells #[.string ⟨#[]⟩, .int .i64 i] 64)).heap.size = wr.heap.size + 2 := by simp
          have hKb : Blk ((wr.alloc (.cells #[.int .i64 K.val.k, .int .i64 K.val.n, .string K.val.s, .int .i64 K.val.o, .int .i64 K.val.p, .slice K.kA K.keys.length K.kc, .slice K.cA K.kids.length K.cc] 29)).alloc (.cells #[.string ⟨#[]⟩, .int .i64 i] 64)) wr.heap.size 29 #[.int .i64 K.val.k, .int .i64 K.val.n, .string K.val.s, .int .i64 K.val.o, .int .i64 K.val.p, .slice K.kA K.keys.length K.kc, .slice K.cA K.kids.length K.cc] := (Blk.new _ _ _).alloc _
          have hSb : Blk ((wr.alloc (.cells #[.int .i64 K.val.k, .int .i64 K.val.n, .string K.val.s, .int .i64 K.val.o, .int .i64 K.val.p, .slice K.kA K.keys.length K.kc, .slice K.cA K.kids.length K.cc] 29)).alloc (.cells #[.string ⟨#[]⟩, .int .i64 i] 64)) (wr.heap.size + 1) 64 #[.string ⟨#[]⟩, .int .i64 i] := Blk.newer _ _ _ (by simp)
          have hWY : Below wr.heap.size wr (((wr.alloc (.cells #[.int .i64 K.val.k, .int .i64 K.val.n, .string K.val.s, .int .i64 K.val.o, .int .i64 K.val.p, .slice K.kA K.keys.length K.kc, .slice K.cA K.kids.length K.cc] 29)).alloc (.cells #[.string ⟨#[]⟩, .int .i64 i] 64)).alloc (.cells #[.string ⟨#[]⟩, .int .i64 i] 64)).drew := (hWX.alloc (by rw [hszX]; omega) _).drew
          have hAw : SlN wr (ownO bo OAi) A (stCells p) := HS.out.2.2.1.turn HX.out.1.only HX.out.1.turn
          have hnone : A = none → p.length = 0 ∧ p.length = 0 := by
            intro h
            rcases hAw with g | ⟨b, off, g, _⟩
            · have := stCells_len p
              rw [g] at this
              simp at this
              omega
            · rw [h] at g; cases g
          obtain ⟨PA, pc, Wz, hr1, hsl1, hb1, hnew1, hpc1⟩ := run_append_fresh (P := Tryd.prog) (((wr.alloc (.cells #[.int .i64 K.val.k, .int .i64 K.val.n, .string K.val.s, .int .i64 K.val.o, .int .i64 K.val.p, .slice K.kA K.keys.length K.kc, .slice K.cA K.kids.length K.cc] 29)).alloc (.cells #[.string ⟨#[]⟩, .int .i64 i] 64)).alloc (.cells #[.string ⟨#[]⟩, .int .i64 i] 64)).drew 42 42 64 Tryd.underlying42 infoStep' rfl (by decide) A p.length p.length (stCells p) hnone (stCells_len p) (hAw.below hWY).sl (wr.heap.size + 1 + 1) 1 1 [.string ⟨#[]⟩, .int .i64 i] (by decide) rfl ((SlAt.of_blk (Blk.newer ((wr.alloc (.cells #[.int .i64 K.val.k, .int .i64 K.val.n, .string K.val.s, .int .i64 K.val.o, .int .i64 K.val.p, .slice K.kA K.keys.length K.kc, .slice K.cA K.kids.length K.cc] 29)).alloc (.cells #[.string ⟨#[]⟩, .int .i64 i] 64)) _ _ (by simp))).drew) (by intro u hu; simp at hu; rcases hu with rfl | rfl <;> rfl) (by omega) (by simp only [maxLen]; omega) (by omega)
          have hr1' : ∀ ty, (Builtin.append_ #[42, 42] ty #[.slice A p.length p.length, .slice (some ⟨wr.heap.size + 1 + 1, 0, none⟩) 1 1]).run Tryd.prog (((wr.alloc (.cells #[.int .i64 K.val.k, .int .i64 K.val.n, .string K.val.s, .int .i64 K.val.o, .int .i64 K.val.p, .slice K.kA K.keys.length K.kc, .slice K.cA K.kids.length K.cc] 29)).alloc (.cells #[.string ⟨#[]⟩, .int .i64 i] 64)).alloc (.cells #[.string ⟨#[]⟩, .int .i64 i] 64)).drew = .ok (.slice PA (p.length + 1) pc) Wz := fun _ => hr1
          have hwz : Below wr.heap.size wr Wz := hWY.trans (hb1.mono hWY.size)
          have hstep : stCells p ++ [Value.string ⟨#[]⟩, Value.int .i64 i] = stCells (p ++ [stepAt v keys i]) := by rw [stCells_append]; simp [stCells, St.cells, stepAt, H5.out]
          rw [hstep] at hsl1
          have hEz := HX.out.1.env.below hwz
          have hYs := hWY.size
          have hpSl : SlN Wz (ownO bo OAi) PA (stCells (p ++ [stepAt v keys i])) := SlN.of_new hsl1 (by
            intro a ha g
            have h1 := hnew1 a ha
            rcases g with g | g
            · have := HX.out.1.env.o.lt
              omega
            · have := (HX.out.1.env.own.lt a.block (by rw [ownB]; exact g)).2
              omega)
          have htl : (kids.map PT.tree)[i]? = some K.tree := by rw [List.getElem?_map, HX.out.2]; rfl
          have hts := JT.sizeL_take_succ htl
          have htl2 := JT.sizeL_take_le (kids.map PT.tree) (i + 1)
          have hml : m.length ≤ 1 + JT.sizeL ((kids.map PT.tree).take i) := by
            have h1 := congrArg List.length HX.out.1.ps
            simp only [List.length_map, List.length_append] at h1
            have h2 := hitP_len x v p
            have h3 := JT.pathsL_len x v keys p ((kids.map PT.tree).take i) 0
            simp only [PT.val, PT.keys, PT.kids] at h1
            omega
          have hKl : (p ++ [stepAt v keys i]).length + K.tree.size ≤ 1000 := by
            have h1 := HS.out.2.2.2.2.1
            have h2 := HS.out.2.2.2.2.2.2.1
            simp only [List.length_append, List.length_cons, List.length_nil]
            omega
          have hLl : (l ++ m).length + K.tree.size ≤ 2000 := by
            have h1 := HS.out.2.2.2.2.2.1
            have h2 := HS.out.2.2.2.2.2.2.1
            rw [List.length_append]
            omega
          have HC := HI.out i K HX.out.2 OAi oci (l ++ m) PA pc (p ++ [stepAt v keys i]) Wz hEz hpSl (by rw [show (p ++ [stepAt v keys i]).length = p.length + 1 from by simp]; exact hpc1) hKl hLl
          rw [show (p ++ [stepAt v keys i]).length = p.length + 1 from by simp, PT.value_eq] at HC
          have HCC := Lib.hid HC
          have f0 : wr.cell? ⟨bw, 0, none⟩ = some (.func (.func 16) #[] #[.pointer (some ⟨bv, 0, none⟩), .pointer (some ⟨bo, 0, none⟩), .pointer (some ⟨bw, 0, none⟩)]) := HX.out.1.env.f.cell 0
          have hltf' := HX.out.1.env.f.lt
          have hZb : Below ((wr.alloc (.cells #[.int .i64 K.val.k, .int .i64 K.val.n, .string K.val.s, .int .i64 K.val.o, .int .i64 K.val.p, .slice K.kA K.keys.length K.kc, .slice K.cA K.kids.length K.cc] 29)).alloc (.cells #[.string ⟨#[]⟩, .int .i64 i] 64)).heap.size ((wr.alloc (.cells #[.int .i64 K.val.k, .int .i64 K.val.n, .string K.val.s, .int .i64 K.val.o, .int .i64 K.val.p, .slice K.kA K.keys.length K.kc, .slice K.cA K.kids.length K.cc] 29)).alloc (.cells #[.string ⟨#[]⟩, .int .i64 i] 64)) Wz := ⟨hb1.os, hb1.tape, hb1.output, Nat.le_trans (by simp) hb1.size, fun k hk => (hb1.block k (by simp at hk ⊢; omega)).trans (Below.heap_alloc ((wr.alloc (.cells #[.int .i64 K.val.k, .int .i64 K.val.n, .string K.val.s, .int .i64 K.val.o, .int .i64 K.val.p, .slice K.kA K.keys.length K.kc, .slice K.cA K.kids.length K.cc] 29)).alloc (.cells #[.string ⟨#[]⟩, .int .i64 i] 64)) _ k hk)⟩
          have hKz := hKb.below hZb hKb.lt
          have fz : Wz.cell? ⟨bw, 0, none⟩ = some (.func (.func 16) #[] #[.pointer (some ⟨bv, 0, none⟩), .pointer (some ⟨bo, 0, none⟩), .pointer (some ⟨bw, 0, none⟩)]) := hEz.f.cell 0
          have kz0 : Wz.cell? ⟨wr.heap.size, 0, none⟩ = some (.int .i64 K.val.k) := hKz.cell 0
          have kz1 : Wz.cell? ⟨wr.heap.size, 1, none⟩ = some (.int .i64 K.val.n) := hKz.cell 1
          have kz2 : Wz.cell? ⟨wr.heap.size, 2, none⟩ = some (.string K.val.s) := hKz.cell 2
          have kz3 : Wz.cell? ⟨wr.heap.size, 3, none⟩ = some (.int .i64 K.val.o) := hKz.cell 3
          have kz4 : Wz.cell? ⟨wr.heap.size, 4, none⟩ = some (.int .i64 K.val.p) := hKz.cell 4
          have kz5 : Wz.cell? ⟨wr.heap.size, 5, none⟩ = some (.slice K.kA K.keys.length K.kc) := hKz.cell 5
          have kz6 : Wz.cell? ⟨wr.heap.size, 6, none⟩ = some (.slice K.cA K.kids.length K.cc) := hKz.cell 6
          have hSz := hSb.below hZb hSb.lt
          have sz0 : Wz.cell? ⟨wr.heap.size + 1, 0, none⟩ = some (.string ⟨#[]⟩) := hSz.cell 0
          have sz1 : Wz.cell? ⟨wr.heap.size + 1, 1, none⟩ = some (.int .i64 i) := hSz.cell 1
          have H1 := Lib.hid (And.intro hwz (And.intro htl (And.intro hts htl2)))
          have HR1 := Lib.hid hr1'
          have hnew : ∀ q, wr.heap.size ≤ q → ¬ ownO bo OAi q := by
            rintro q hq (g | g)
            · have := HX.out.1.env.o.lt; omega
            · have := (HX.out.1.env.own.lt q (by rw [ownB]; exact g)).2; omega
          have HK2 := Lib.hid (And.intro hKz (And.intro hSz (And.intro (hnew _ (Nat.le_refl _)) (hnew _ (Nat.le_succ _)))))
          clear hWX hszX hKb hSb hWY hAw hnone hr1 hr1' hsl1 hb1 hnew1 hpc1 hwz hstep hEz hYs hpSl htl hts htl2 hml hKl hLl HC hZb hKz hSz hnew
          go_wp2_with fail
          have fa : (((wr.alloc (.cells #[.int .i64 K.val.k, .int .i64 K.val.n, .string K.val.s, .int .i64 K.val.o, .int .i64 K.val.p, .slice K.kA K.keys.length K.kc, .slice K.cA K.kids.length K.cc] 29)).alloc (.cells #[.string ⟨#[]⟩, .int .i64 i] 64)).alloc (.cells #[.string ⟨#[]⟩, .int .i64 i] 64)).drew.cell? ⟨bw, 0, none⟩ = some (.func (.func 16) #[] #[.pointer (some ⟨bv, 0, none⟩), .pointer (some ⟨bo, 0, none⟩), .pointer (some ⟨bw, 0, none⟩)]) := HX.out.1.env.f.below ((((Below.refl _ wr).alloc (Nat.le_refl _) _).alloc (by simp) _).alloc (by simp; omega) _) hltf' |>.cell 0
          go_region_held3 (fun w' => w'.cell? ⟨bw, 0, none⟩ = some (.func (.func 16) #[] #[.pointer (some ⟨bv, 0, none⟩), .pointer (some ⟨bo, 0, none⟩), .pointer (some ⟨bw, 0, none⟩)]) ∧ w'.cell? ⟨wr.heap.size, 0, none⟩ = some (.int .i64 K.val.k) ∧ w'.cell? ⟨wr.heap.size, 1, none⟩ = some (.int .i64 K.val.n) ∧ w'.cell? ⟨wr.heap.size, 2, none⟩ = some (.string K.val.s) ∧ w'.cell? ⟨wr.heap.size, 3, none⟩ = some (.int .i64 K.val.o) ∧ w'.cell? ⟨wr.heap.size, 4, none⟩ = some (.int .i64 K.val.p) ∧ w'.cell? ⟨wr.heap.size, 5, none⟩ = some (.slice K.kA K.keys.length K.kc) ∧ w'.cell? ⟨wr.heap.size, 6, none⟩ = some (.slice K.cA K.kids.length K.cc) ∧ w'.cell? ⟨wr.heap.size + 1, 0, none⟩ = some (.string ⟨#[]⟩) ∧ w'.cell? ⟨wr.heap.size + 1, 1, none⟩ = some (.int .i64 i)) (first | (with_reducible exact ⟨fz, kz0, kz1, kz2, kz3, kz4, kz5, kz6, sz0, sz1⟩) | (with_reducible exact ⟨fd, kd0, kd1, kd2, kd3, kd4, kd5, kd6, sd0, sd1⟩) | ((with_reducible refine And.intro fa ?_); go_keep) | go_keep) (first
            | (refine step_append_run (o := ⟨some 49, _, _, _, _, _⟩) rfl _ _ _ _ rfl _ _ rfl rfl (HR1.out _) ?_)
            | (go_simp
               (with_reducible refine HCC.out.mono ?_)
               rintro e Wd ⟨OA', oc', m', rfl, hE', hm', hO', hT'⟩
               have hKd := HK2.out.1.only hO' HK2.out.2.2.1
               have hSd := HK2.out.2.1.only hO' HK2.out.2.2.2
               have fd : Wd.cell? ⟨bw, 0, none⟩ = some (.func (.func 16) #[] #[.pointer (some ⟨bv, 0, none⟩), .pointer (some ⟨bo, 0, none⟩), .pointer (some ⟨bw, 0, none⟩)]) := hE'.f.cell 0
               have kd0 : Wd.cell? ⟨wr.heap.size, 0, none⟩ = some (.int .i64 K.val.k) := hKd.cell 0
               have kd1 : Wd.cell? ⟨wr.heap.size, 1, none⟩ = some (.int .i64 K.val.n) := hKd.cell 1
               have kd2 : Wd.cell? ⟨wr.heap.size, 2, none⟩ = some (.string K.val.s) := hKd.cell 2
               have kd3 : Wd.cell? ⟨wr.heap.size, 3, none⟩ = some (.int .i64 K.val.o) := hKd.cell 3
               have kd4 : Wd.cell? ⟨wr.heap.size, 4, none⟩ = some (.int .i64 K.val.p) := hKd.cell 4
               have kd5 : Wd.cell? ⟨wr.heap.size, 5, none⟩ = some (.slice K.kA K.keys.length K.kc) := hKd.cell 5
               have kd6 : Wd.cell? ⟨wr.heap.size, 6, none⟩ = some (.slice K.cA K.kids.length K.cc) := hKd.cell 6
               have sd0 : Wd.cell? ⟨wr.heap.size + 1, 0, none⟩ = some (.string ⟨#[]⟩) := hSd.cell 0
               have sd1 : Wd.cell? ⟨wr.heap.size + 1, 1, none⟩ = some (.int .i64 i) := hSd.cell 1
               have hL : LoopW W0 x bv bo bw OA l w (.node v kA kc keys (some ⟨bk, ok, none⟩) cc kids) p (i + 1) OA' oc' (m ++ m') Wd := by
                 refine ⟨by rw [← List.append_assoc]; exact hE', ?_, (HX.out.1.only.trans (Only.of_below H1.out.1)).comp hO' HX.out.1.turn, ?_, ?_⟩
                 · rw [List.map_append, HX.out.1.ps, hm']
                   simp only [PT.val, PT.keys, PT.kids]
                   rw [JT.pathsL_take x v keys p H1.out.2.1, List.append_assoc]
                 · intro b hb g
                   exact HX.out.1.turn b hb (hT' b (Nat.lt_of_lt_of_le hb (Nat.le_trans HX.out.1.only.size H1.out.1.size)) g)
                 · refine (HX.out.1.t.below H1.out.1 HX.out.1.t.lt).only hO' ?_
                   rintro (g | g)
                   · exact Blk.ne_ HX.out.1.t HX.out.1.env.o (by decide) g
                   · rw [← ownB OAi (l ++ m).length oci] at g
                     exact own_blk_ne HX.out.1.env.own HX.out.1.t (by decide) g
               have HL := Lib.hid hL
               clear hE' hm' hO' hT' hL hKd hSd))
          all_goals
            go_wp2_with fail
            clear t0 hltw h5b p0 p1 p2 p3 p4 p5 p6 f0 hltf' fa fz kz0 kz1 kz2 kz3 kz4 kz5 kz6 sz0 sz1 HCC HR1 fd kd0 kd1 kd2 kd3 kd4 kd5 kd6 sd0 sd1
            go_roundw
            case rel => exact ⟨i + 1, OA', oc', m ++ m', by go_num, by omega, HL.out⟩
            case measure => simp [intOf] <;> omega
      · have hlti : ¬ (i : Int) < (kids.length : Int) := by omega
        have HX := Lib.hid hL
        clear hL
        go_wp2_with fail
        go_end0
        refine ⟨OAi, oci, m, rfl, HX.out.env, ?_, HX.out.only, HX.out.turn⟩
        rw [HP.out, HX.out.ps]
        simp only [PT.val, PT.keys, PT.kids]
        rw [List.take_of_length_le (by simp; omega)]
end Go.Proofs.YtmkebfclaehneaaDoor
