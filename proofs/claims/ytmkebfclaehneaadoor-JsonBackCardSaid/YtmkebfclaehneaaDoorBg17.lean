/- CkHead, TreeHead. -/
import Derived.Test.YtmkebfclaehneaaDoorBg16
import Derived.Laws.ResultCell
import Derived.Test.YtmkebfclaehneaaDoorBg7
import Derived.Test.YtmkebfclaehneaaDoorBg10
import Derived.Test.YtmkebfclaehneaaDoorBg12
import Derived.Test.YtmkebfclaehneaaDoorShelfP
import Derived.Test.YtmkebfclaehneaaDoorShelfA
import Derived.Test.YtmkebfclaehneaaDoorBg13
import Derived.Lib.SlTrimSet
import Derived.Lib.AtoiErrMem
import Derived.WalkSmall
/- What the walks over trees share. -/
namespace Go.Proofs.YtmkebfclaehneaaDoor
open Go.RowKit
set_option linter.unusedVariables false
set_option linter.unusedSimpArgs false

/-- A struct and one more result. -/
theorem results_row_tmp {P : Program} {fn : Func} {p u : Tmp} {ty : TypeId} (h : fn.results = #[.cell p ty, .tmp u]) (tmps : Array Value) (w : World) (g : Nat) (t : TypeId) (cs : Array Value) (d : TypeDesc)
    (hp : tmps.getD p undef = .pointer (some ⟨g, 0, none⟩)) (hg : Blk w g t cs)
    (hu : P.underlying ty = some d) (hd : (match d with | .struct _ | .array _ _ => true | _ => false) = true) (hi : (P.info? ty).map (·.size) = some cs.size) :
    (results fn tmps).run P w = .ok (.tuple #[.agg cs, tmps.getD u undef]) w := by
  have hp' : tmps[p]?.getD undef = .pointer (some ⟨g, 0, none⟩) := by simpa using hp
  simp [results, h, hp', asAddr, run_loadVar_row w g t ty cs (0, 0) d hg hu hd hi]

theorem boxes2 {w w' : World} {cs cs2 : Array Value} {t t2 : TypeId} (h : Below ((w.alloc (.cells cs t (0, 0))).alloc (.cells cs2 t2 (0, 0))).heap.size ((w.alloc (.cells cs t (0, 0))).alloc (.cells cs2 t2 (0, 0))) w') :
    Below w.heap.size w w' ∧ Blk w' w.heap.size t cs ∧ Blk w' (w.heap.size + 1) t2 cs2 ∧ w.heap.size + 2 ≤ w'.heap.size := by
  refine ⟨below_al2 h, ((Blk.new w t cs).alloc _).below h (by simp; omega), (Blk.newer (w.alloc (.cells cs t (0, 0))) t2 cs2 (g := w.heap.size + 1) (by simp)).below h (by simp), ?_⟩
  have := h.size
  simp at this
  omega
theorem checkV_ok {t : JT} (h : checkV t = .nilIface) : t.formed = true ∧ t.size ≤ 400 := by
  unfold checkV at h
  split at h
  · split at h
    · rename_i h1 h2; exact ⟨h2, h1⟩
    · cases h
  · cases h
theorem checkV_cases (t : JT) : checkV t = .nilIface ∨ ∃ n, checkV t = .iface 44 (.int .i64 n) := by
  unfold checkV
  split
  · split
    · exact .inl rfl
    · exact .inr ⟨1, rfl⟩
  · exact .inr ⟨4, rfl⟩
theorem calls_at {P : Program} {f : FuncId} {args : Array Value} {Q : Ending → World → Prop} {w : World} (F : World → Prop) (hF : F w) (h : ∀ w1, F w1 → Calls P f args w1 Q) : Calls P f args w Q := h w hF
theorem SlAt.of_blk {w : World} {g : Nat} {t : TypeId} {cs : Array Value} (h : Blk w g t cs) : SlAt w (some ⟨g, 0, none⟩) cs.toList :=
  .inr ⟨g, 0, rfl, fun j u hu => by rw [Nat.zero_add, h.cell]; simpa using hu⟩
theorem PT.value_eq (T : PT) : T.value = .agg #[.int .i64 T.val.k, .int .i64 T.val.n, .string T.val.s, .int .i64 T.val.o, .int .i64 T.val.p, .slice T.kA T.keys.length T.kc, .slice T.cA T.kids.length T.cc] := rfl
theorem blk7 {w : World} {g : Nat} {t : TypeId} {a0 a1 a2 a3 a4 a5 a6 : Value} (c0 c1 c2 c3 c4 c5 c6 : Value) (h : Blk w g t #[a0, a1, a2, a3, a4, a5, a6]) :
    Blk (((((((w.setCell ⟨g, 0, none⟩ c0).setCell ⟨g, 1, none⟩ c1).setCell ⟨g, 2, none⟩ c2).setCell ⟨g, 3, none⟩ c3).setCell ⟨g, 4, none⟩ c4).setCell ⟨g, 5, none⟩ c5).setCell ⟨g, 6, none⟩ c6) g t #[c0, c1, c2, c3, c4, c5, c6] := by
  have := ((((((h.set_ 0 c0).set_ 1 c1).set_ 2 c2).set_ 3 c3).set_ 4 c4).set_ 5 c5).set_ 6 c6
  simpa using this
theorem only7 (w : World) (g : Nat) (c0 c1 c2 c3 c4 c5 c6 : Value) (o0 o1 o2 o3 o4 o5 o6 : Nat) :
    Only (· = g) w (((((((w.setCell ⟨g, o0, none⟩ c0).setCell ⟨g, o1, none⟩ c1).setCell ⟨g, o2, none⟩ c2).setCell ⟨g, o3, none⟩ c3).setCell ⟨g, o4, none⟩ c4).setCell ⟨g, o5, none⟩ c5).setCell ⟨g, o6, none⟩ c6) :=
  (((((((Only.refl (· = g) w).setCell (p := ⟨g, o0, none⟩) rfl c0).setCell (p := ⟨g, o1, none⟩) rfl c1).setCell (p := ⟨g, o2, none⟩) rfl c2).setCell (p := ⟨g, o3, none⟩) rfl c3).setCell (p := ⟨g, o4, none⟩) rfl c4).setCell (p := ⟨g, o5, none⟩) rfl c5).setCell (p := ⟨g, o6, none⟩) rfl c6
end Go.Proofs.YtmkebfclaehneaaDoor
/- reader.tree: what its parts say. -/
namespace Go.Proofs.YtmkebfclaehneaaDoor
open Go.RowKit
set_option linter.unusedVariables false
set_option linter.unusedSimpArgs false

/-! Over no program: prefixes and runs. -/
theorem prefix_bytes : ∀ (p r : List UInt8), Lib.hasPrefix r p = prefB (p.map UInt8.toNat) (r.map UInt8.toNat)
  | [], r => by simp [Lib.hasPrefix, prefB]
  | a :: p, [] => by simp [Lib.hasPrefix, prefB, List.isPrefixOf]
  | a :: p, b :: r => by
    have ih := prefix_bytes p r
    unfold Lib.hasPrefix prefB at ih ⊢
    rw [List.map_cons, List.map_cons, List.isPrefixOf, List.isPrefixOf, ih]
    congr 1
    by_cases h : a = b
    · subst h; simp
    · have : a.toNat ≠ b.toNat := fun e => h (UInt8.toNat_inj.1 e)
      rw [beq_eq_false_iff_ne.2 h, beq_eq_false_iff_ne.2 this]
def cutS : List UInt8 := [45, 48, 49, 50, 51, 52, 53, 54, 55, 56, 57]
set_option maxRecDepth 100000 in
theorem cut_num (b : UInt8) : cutS.contains b = isNumC b.toNat := by
  have h : ∀ n : Fin 256, cutS.contains (UInt8.ofNat n) = isNumC n := by decide
  have := h ⟨b.toNat, b.toNat_lt⟩
  simpa using this
theorem run_map : ∀ r : List UInt8, numRun (r.map UInt8.toNat) = (r.takeWhile (cutS.contains ·)).map UInt8.toNat
  | [] => rfl
  | b :: r => by
    have ih := run_map r
    unfold numRun at ih ⊢
    rw [List.map_cons, List.takeWhile_cons, List.takeWhile_cons, cut_num b]
    by_cases h : isNumC b.toNat = true
    · rw [if_pos h, if_pos h, List.map_cons, ih]
    · rw [if_neg h, if_neg h, List.map_nil]
theorem trim_run (r : List UInt8) : r = r.takeWhile (cutS.contains ·) ++ Lib.trimLeftS r cutS := by
  unfold Lib.trimLeftS
  exact (List.takeWhile_append_dropWhile).symm
theorem run_len_le (r : List Nat) : (numRun r).length ≤ r.length := by
  unfold numRun
  exact (List.takeWhile_prefix _).length_le
/-- What stands ahead of what TrimLeft leaves. -/
theorem run_parts (r : ByteArray) (L : Nat) (hL : L = (numRun (toN r)).length) : L ≤ r.size ∧ (Lib.trimLeftS r.data.toList cutS).length = r.size - L ∧ (r.extract 0 L).data.toList.map UInt8.toNat = numRun (toN r) ∧ (r.extract 0 L).size = L := by
  have hr := run_map r.data.toList
  have ht := trim_run r.data.toList
  have hlen : r.data.toList.length = r.size := rfl
  have h1 : (numRun (toN r)).length = (r.data.toList.takeWhile (cutS.contains ·)).length := by
    unfold toN
    rw [hr, List.length_map]
  have h2 := congrArg List.length ht
  rw [List.length_append, hlen] at h2
  have hle : L ≤ r.size := by omega
  have hx : (r.extract 0 L).data.toList = r.data.toList.takeWhile (cutS.contains ·) := by
    rw [Lib.extract_data, List.drop_zero]
    rw [hL, h1]
    exact (List.prefix_iff_eq_take.1 (List.takeWhile_prefix _)).symm
  refine ⟨hle, by omega, ?_, by rw [ByteArray.size_extract]; omega⟩
  rw [hx]
  unfold toN
  rw [hr]
/-- What Atoi and Itoa say of the run. -/
theorem num_cases (r : ByteArray) (l : List Nat) (h : r.data.toList.map UInt8.toNat = l) :
    (∃ v, Go.Lib.atoiAll r.data.toList = .ok v ∧ I64 v ∧ ((Num l = some v ∧ (⟨(Go.Lib.itoa v).toArray⟩ : ByteArray) = r) ∨ (Num l = none ∧ (⟨(Go.Lib.itoa v).toArray⟩ : ByteArray) ≠ r))) ∨ ((∀ v, Go.Lib.atoiAll r.data.toList ≠ .ok v) ∧ Num l = none) := by
  subst h
  unfold Num
  rw [map_of_to]
  rcases Classical.em (∃ v, Go.Lib.atoiAll r.data.toList = .ok v) with ⟨v, ha⟩ | hno
  · left
    rw [ha]
    have hb := Go.Lib.atoiAll_bounds ha
    refine ⟨v, rfl, ⟨hb.1, hb.2⟩, ?_⟩
    simp only
    by_cases he : Go.Lib.itoa v = r.data.toList
    · left
      rw [he, if_pos rfl]
      refine ⟨rfl, ?_⟩
      apply ByteArray.ext
      simp
    · right
      have hne : (Go.Lib.itoa v).map UInt8.toNat ≠ r.data.toList.map UInt8.toNat := by
        intro e
        apply he
        have := congrArg (List.map UInt8.ofNat) e
        rw [map_of_to, map_of_to] at this
        exact this
      rw [if_neg hne]
      refine ⟨rfl, fun e => he ?_⟩
      rw [← e]
  · right
    refine ⟨fun v hv => hno ⟨v, hv⟩, ?_⟩
    split
    · rename_i v hv
      exact absurd ⟨v, hv⟩ hno
    · rfl

/-! Over the program. -/
/-- What Atoi's errors are. -/
def ErrAt (w : World) : Prop := ∃ ta pa tb pb, w.var? Tryd.prog "strconv.ErrSyntax" = some #[.iface ta pa] ∧ w.var? Tryd.prog "strconv.ErrRange" = some #[.iface tb pb]
theorem var_lt {w : World} {n : String} {g : Nat} {cs : Array Value} (hg : Tryd.prog.globalNamed n = some g) (h : w.var? Tryd.prog n = some cs) : g < w.heap.size := by
  unfold World.var? at h
  rw [hg] at h
  simp only [Option.bind_some] at h
  cases hh : w.heap[g]? with
  | none => rw [hh] at h; simp at h
  | some o => exact (Array.getElem?_eq_some_iff.1 hh).1
theorem ErrAt.below {w w' : World} (h : ErrAt w) (hb : Below w.heap.size w w') : ErrAt w' := by
  obtain ⟨ta, pa, tb, pb, h1, h2⟩ := h
  have g1 : Tryd.prog.globalNamed "strconv.ErrSyntax" = some 0 := by kernel_rfl
  have g2 : Tryd.prog.globalNamed "strconv.ErrRange" = some 1 := by kernel_rfl
  exact ⟨ta, pa, tb, pb, var?_below hb g1 (var_lt g1 h1) h1, var?_below hb g2 (var_lt g2 h2) h2⟩
/-- What Atoi answers. -/
def AtoiQ (s : ByteArray) (w : World) (e : Ending) (w' : World) : Prop :=
  ((∃ v, Go.Lib.atoiAll s.data.toList = .ok v ∧ e = .returned (.tuple #[.int .i64 v, .nilIface])) ∨ ((∀ v, Go.Lib.atoiAll s.data.toList ≠ .ok v) ∧ ∃ x T N, e = .returned (.tuple #[.int .i64 x, .iface T (.pointer (some ⟨N, 0, none⟩))]))) ∧ Below w.heap.size w w'
theorem atoi_any (s : ByteArray) (hs : s.size ≤ 60000) (w : World) (he : ErrAt w) : Calls Tryd.prog 26 #[.string s] w (AtoiQ s w) := by
  obtain ⟨ta, pa, tb, pb, h1, h2⟩ := he
  rcases Classical.em (∃ v, Go.Lib.atoiAll s.data.toList = .ok v) with ⟨v, ha⟩ | hno
  · refine (Tryd.strconv_Atoi_ok s (by omega) v ha w).mono ?_
    rintro e w' ⟨rfl, h⟩
    refine ⟨.inl ⟨v, ha, rfl⟩, ?_⟩
    rcases h with rfl | ⟨k, t, rfl⟩
    · exact Below.refl _ _
    · exact Lib.bytesWorld_below _ _ _
  · refine (Tryd.strconv_Atoi_bad s (by omega) (fun v hv => hno ⟨v, hv⟩) ta tb pa pb w h1 h2).mono ?_
    rintro e w' ⟨⟨x, T, N, rfl⟩, hb⟩
    exact ⟨.inr ⟨fun v hv => hno ⟨v, hv⟩, x, T, N, rfl⟩, hb⟩
/-- What a tree's reading ends in. -/
def TreeQ (rb : Nat) (s : ByteArray) (P : PR) (w : World) (e : Ending) (w' : World) : Prop :=
  (match P with
   | .ok t a l => ∃ T : PT, e = .returned T.value ∧ a ≤ s.size ∧ Rd w' rb s a l ∧ OwnJ 9 29 w' T ∧ T.own.Nodup ∧ (∀ b ∈ T.own, w.heap.size ≤ b) ∧ T.tree = t
   | .bad a x => e = faultE a x) ∧ Only (fun k => k = rb) w w'
/-- What a call of the reader may lean on. -/
structure Cx (W0 : World) (rb : Nat) (w : World) : Prop where
  bel : Below W0.heap.size W0 w
  rb : W0.heap.size ≤ rb
  pow : Pow10 W0
  err : ErrAt W0
theorem Cx.only {W0 w w' : World} {rb : Nat} (h : Cx W0 rb w) (ho : Only (fun k => k = rb) w w') : Cx W0 rb w' := ⟨h.bel.trans (ho.below h.bel.size (fun q hq e => by have := h.rb; omega)), h.rb, h.pow, h.err⟩
theorem Cx.below {W0 w w' : World} {rb : Nat} (h : Cx W0 rb w) (hb : Below w.heap.size w w') : Cx W0 rb w' := ⟨h.bel.trans (hb.mono h.bel.size), h.rb, h.pow, h.err⟩
theorem Cx.pow' {W0 w : World} {rb : Nat} (h : Cx W0 rb w) : Pow10 w := h.pow.below h.bel
theorem Cx.err' {W0 w : World} {rb : Nat} (h : Cx W0 rb w) : ErrAt w := h.err.below h.bel
end Go.Proofs.YtmkebfclaehneaaDoor
