/- Blocks known whole; what may be written. Over any program. Maps whose keys are pairs of numbers, whatever their elements: laws of our own. Over any program. -/
import Derived.Test.YteknflimfdkhoaaGreatDg1
import Derived.Test.YteknflimfdkhoaaGreatDg2
import Derived.Maps.RangeWalk
import Derived.Maps.Ext
import Derived.Maps.OwnSet
import Derived.DeepKeys4
namespace Go.Proofs.YteknflimfdkhoaaGreat
open Go.RowKit
set_option linter.unusedVariables false

/-- Block g is known whole. -/
def Blk (w : World) (g : Nat) (t : TypeId) (cs : Array Value) : Prop := w.heap[g]? = some (.cells cs t (0, 0))
theorem Blk.lt {w : World} {g : Nat} {t : TypeId} {cs : Array Value} (h : Blk w g t cs) : g < w.heap.size := (Array.getElem?_eq_some_iff.1 h).1
theorem Blk.cell {w : World} {g : Nat} {t : TypeId} {cs : Array Value} (h : Blk w g t cs) (i : Nat) : w.cell? ⟨g, i, none⟩ = cs[i]? := cell_of_row w g i cs t (0, 0) h
theorem Blk.frozen {w : World} {g : Nat} {t : TypeId} {cs : Array Value} (h : Blk w g t cs) (i : Nat) : w.frozen? ⟨g, i, none⟩ = false := by
  unfold Blk at h
  simp [World.frozen?, h]
theorem Blk.set_ {w : World} {g : Nat} {t : TypeId} {cs : Array Value} (h : Blk w g t cs) (i : Nat) (u : Value) : Blk (w.setCell ⟨g, i, none⟩ u) g t (cs.setIfInBounds i u) := by
  unfold Blk at h ⊢
  simp [World.setCell, Array.getElem?_modify, h]

/-- Between w and w' only the blocks of S, and new ones, have turned. -/
structure Only (S : Nat → Prop) (w w' : World) : Prop where
  os : w'.os = w.os
  tape : w'.tape = w.tape
  output : w'.output = w.output
  size : w.heap.size ≤ w'.heap.size
  block : ∀ k, k < w.heap.size → ¬ S k → w'.heap[k]? = w.heap[k]?
theorem Only.refl (S : Nat → Prop) (w : World) : Only S w w := ⟨rfl, rfl, rfl, Nat.le_refl _, fun _ _ _ => rfl⟩
theorem Only.trans {S : Nat → Prop} {a b c : World} (h : Only S a b) (k : Only S b c) : Only S a c :=
  ⟨k.os.trans h.os, k.tape.trans h.tape, k.output.trans h.output, Nat.le_trans h.size k.size, fun i hi hn => (k.block i (Nat.lt_of_lt_of_le hi h.size) hn).trans (h.block i hi hn)⟩
theorem Only.mono {S T : Nat → Prop} {w w' : World} (h : Only S w w') (hs : ∀ k, k < w.heap.size → S k → T k) : Only T w w' :=
  ⟨h.os, h.tape, h.output, h.size, fun k hk hn => h.block k hk (fun hS => hn (hs k hk hS))⟩
theorem Only.setCell {S : Nat → Prop} {a w : World} (h : Only S a w) {p : Addr} (hp : S p.block) (u : Value) : Only S a (w.setCell p u) :=
  ⟨h.os, h.tape, h.output, by simpa [World.setCell] using h.size, fun i hi hn => (Below.heap_setCell w p u i (fun e => hn (by rw [e]; exact hp))).trans (h.block i hi hn)⟩
theorem Only.drew {S : Nat → Prop} {a w : World} (h : Only S a w) : Only S a w.drew := ⟨h.os, h.tape, h.output, h.size, h.block⟩
theorem Only.drewN {S : Nat → Prop} {a w : World} (h : Only S a w) (n : Nat) : Only S a (w.drewN n) := ⟨h.os, h.tape, h.output, h.size, h.block⟩
theorem Only.alloc {S : Nat → Prop} {a w : World} (h : Only S a w) (o : Obj) : Only S a (w.alloc o) :=
  ⟨h.os, h.tape, h.output, Nat.le_trans h.size (by simp), fun i hi hn => (Below.heap_alloc w o i (Nat.lt_of_lt_of_le hi h.size)).trans (h.block i hi hn)⟩
theorem Only.of_below {S : Nat → Prop} {w w' : World} (h : Below w.heap.size w w') : Only S w w' := ⟨h.os, h.tape, h.output, h.size, fun k hk _ => h.block k hk⟩
theorem Only.below {S : Nat → Prop} {w w' : World} (h : Only S w w') {B : Nat} (hB : B ≤ w.heap.size) (hS : ∀ k, k < B → ¬ S k) : Below B w w' := ⟨h.os, h.tape, h.output, h.size, fun k hk => h.block k (by omega) (hS k hk)⟩
theorem Blk.only {w w' : World} {g : Nat} {t : TypeId} {cs : Array Value} (h : Blk w g t cs) {S : Nat → Prop} (ho : Only S w w') (hn : ¬ S g) : Blk w' g t cs := (ho.block g h.lt hn).trans h
theorem SlAt.only {w w' : World} {A : Option Addr} {cells : List Value} (h : SlAt w A cells) {S : Nat → Prop} (ho : Only S w w') (hn : ∀ b off s, A = some ⟨b, off, s⟩ → ¬ S b) : SlAt w' A cells := by
  rcases h with h | ⟨b, off, hA, hc⟩
  · exact .inl h
  · exact .inr ⟨b, off, hA, fun j u hu => (World.cell?_of_block (ho.block b (cell_lt (hc j u hu)) (hn b off none hA))).trans (hc j u hu)⟩

theorem Blk.setc {w : World} {g : Nat} {t : TypeId} {u v : Value} (h : Blk w g t #[u]) : Blk (w.setCell ⟨g, 0, none⟩ v) g t #[v] := by
  have := h.set_ 0 v
  simpa using this
theorem Blk.alloc {w : World} {g : Nat} {t : TypeId} {cs : Array Value} (h : Blk w g t cs) (o : Obj) : Blk (w.alloc o) g t cs := by
  unfold Blk at *
  rw [Below.heap_alloc w o g (Array.getElem?_eq_some_iff.1 h).1]; exact h
theorem Blk.drewN {w : World} {g : Nat} {t : TypeId} {cs : Array Value} (h : Blk w g t cs) (n : Nat) : Blk (w.drewN n) g t cs := h
theorem Blk.below {w w' : World} {g : Nat} {t : TypeId} {cs : Array Value} (h : Blk w g t cs) {B : Nat} (hb : Below B w w') (hg : g < B) : Blk w' g t cs := by
  unfold Blk at *
  rw [hb.block g hg]; exact h
theorem Blk.new (w : World) (t : TypeId) (cs : Array Value) : Blk (w.alloc (.cells cs t (0, 0))) w.heap.size t cs := by
  unfold Blk
  show (w.heap.push _)[w.heap.size]? = _
  simp
theorem Blk.newer (w : World) (t : TypeId) (cs : Array Value) {g : Nat} (hg : g = w.heap.size) : Blk (w.alloc (.cells cs t (0, 0))) g t cs := by
  subst hg; exact Blk.new w t cs

end Go.Proofs.YteknflimfdkhoaaGreat
namespace Go.Proofs.YteknflimfdkhoaaGreat
open Go.RowKit Go.Maps
set_option linter.unusedVariables false
set_option linter.unusedSimpArgs false

/-- An element stands for itself. -/
def anyElem (v : Value) : Option (DataW Value × List MemPlace) := some (.held v, [])
def refV (r : Int × Int) : Value := .agg #[.int .i64 r.1, .int .i64 r.2]
def I2 (r : Int × Int) : Prop := I64 r.1 ∧ I64 r.2
def rlit (r : Int × Int) : Lit := .string (keyBytes [.int .i64 r.1, .int .i64 r.2])
theorem rlit_key (r : Int × Int) : WideAt.IsKeyLit (rlit r) := trivial

structure PairK (P : Program) (k : TypeId) : Prop where
  keyed : Keyed P k
  of_ : ∀ r : Int × Int, I2 r → keyOf P k (refV r) = some (rlit r)
  inv : ∀ v l, keyOf P k v = some l → ∃ r, v = refV r ∧ I2 r

theorem wf_of_i64 {x : Int} (h : I64 x) : (Lit.int .i64 x).wf = true := WalkArith.wf_i64 h
theorem pairK_mk {P : Program} {k e : TypeId} {fs : Array Field} {f1 f2 : Field} (hu : P.underlying k = some (.struct fs)) (hfs : fs.toList = [f1, f2]) (t1 : f1.type = e) (t2 : f2.type = e) (o1 : f1.offset = 0) (o2 : f2.offset = 1)
    (hn : fs.all (·.name != "_") = true) (he : P.underlying e = some (.int .i64)) (ce : P.cellsOf e = 1) (ck : P.cellsOf k = 2) (hkt : P.keyType k = true) (hsz : ∃ m, P.types.size = m + 1) (K : Keyed P k) : PairK P k := by
  obtain ⟨m, hm⟩ := hsz
  have lits : ∀ cs : List Value, cs.length = 2 → P.keyLits (P.types.size + 1) k cs = (P.keyLits (m + 1) e (cs.take 1)).bind fun a => (P.keyLits (m + 1) e ((cs.drop 1).take 1)).map fun b => a ++ b := by
    intro cs hl
    rw [hm]
    conv => lhs; unfold Program.keyLits
    simp only [hu]
    rw [if_pos ⟨by rw [hl, ck], hn⟩, hfs]
    simp only [List.mapM_cons, List.mapM_nil, t1, t2, o1, o2, ce, List.drop_zero]
    cases P.keyLits (m + 1) e (cs.take 1) <;> cases P.keyLits (m + 1) e ((cs.drop 1).take 1) <;> simp
  have one : ∀ c : Value, ∀ ls, P.keyLits (m + 1) e [c] = some ls → ∃ a, c = .int .i64 a ∧ I64 a ∧ ls = [.int .i64 a] := by
    intro c ls h
    unfold Program.keyLits at h
    rw [he] at h
    cases c <;> simp at h
    obtain ⟨⟨rfl, hw⟩, rfl⟩ := h
    exact ⟨_, rfl, i64_of_wf hw, rfl⟩
  have one' : ∀ a : Int, I64 a → P.keyLits (m + 1) e [.int .i64 a] = some [.int .i64 a] := by
    intro a h
    unfold Program.keyLits
    rw [he]
    simp [wf_of_i64 h]
  refine ⟨K, ?_, ?_⟩
  · rintro ⟨a, b⟩ ⟨ha, hb⟩
    unfold keyOf
    simp only [hu]
    rw [if_pos (by simp [hkt, refV, Value.formed, hu, ck])]
    have h1 : (refV (a, b)).cells.toList = [.int .i64 a, .int .i64 b] := rfl
    rw [h1, lits _ rfl]
    simp [one' a ha, one' b hb, rlit]
  · intro v l h
    unfold keyOf at h
    simp only [hu] at h
    split at h
    · rename_i hc
      simp only [Bool.and_eq_true] at hc
      obtain ⟨-, hf⟩ := hc
      obtain ⟨cs, rfl⟩ : ∃ cs, v = .agg cs := by
        cases v <;> simp [Value.formed, hu] at hf
        exact ⟨_, rfl⟩
      simp [Value.formed, hu, ck] at hf
      obtain ⟨ls, hls, -⟩ := Option.map_eq_some_iff.1 h
      have hcl : (Value.agg cs).cells.toList = cs.toList := rfl
      obtain ⟨l', hl'⟩ : ∃ l', cs.toList = l' := ⟨_, rfl⟩
      have hlen : l'.length = 2 := by rw [← hl']; simpa using hf
      rw [hcl, hl', lits _ hlen] at hls
      match l', hlen with
      | [x, y], _ =>
        simp only [List.take_succ_cons, List.take_zero, List.drop_succ_cons, List.drop_zero] at hls
        cases hx : P.keyLits (m + 1) e [x] with
        | none => rw [hx] at hls; simp at hls
        | some lx =>
          cases hy : P.keyLits (m + 1) e [y] with
          | none => rw [hx, hy] at hls; simp at hls
          | some ly =>
            obtain ⟨a, rfl, ha, -⟩ := one x lx hx
            obtain ⟨b, rfl, hb, -⟩ := one y ly hy
            refine ⟨(a, b), ?_, ha, hb⟩
            show Value.agg cs = .agg #[.int .i64 a, .int .i64 b]
            have : cs = #[.int .i64 a, .int .i64 b] := by apply Array.toList_inj.1; rw [hl']
            rw [this]
    · cases h

section
variable {P : Program} {k : TypeId}
theorem refV_inj {r s : Int × Int} (h : refV r = refV s) : r = s := by
  unfold refV at h
  simp at h
  exact Prod.ext h.1 h.2
theorem PairK.inj (K : PairK P k) {r s : Int × Int} (hr : I2 r) (hs : I2 s) (h : rlit r = rlit s) : r = s :=
  refV_inj (K.keyed.inj (K.of_ r hr) (by rw [h]; exact K.of_ s hs))
theorem PairK.lit (K : PairK P k) {v : Value} {l : Lit} (h : keyOf P k v = some l) : ∃ r, v = refV r ∧ l = rlit r ∧ I2 r := by
  obtain ⟨r, rfl, hr⟩ := K.inv v l h
  exact ⟨r, rfl, (Option.some.inj ((K.of_ r hr).symm.trans h)).symm, hr⟩

/-- What a map has at r. -/
def mget (D : DataW Value) (r : Int × Int) : Option Value :=
  if Maps.has D (rlit r) then (match D.atKey (rlit r) .nil with | .held v => some v | _ => none) else none
theorem mget_none {D : DataW Value} {r : Int × Int} (h : Maps.has D (rlit r) = false) : mget D r = none := by simp [mget, h]
theorem mget_some {D : DataW Value} {r : Int × Int} {v : Value} (h : ∀ z, D.atKey (rlit r) z = .held v) : mget D r = some v := by
  simp [mget, has_true_of_atKey h, h]
theorem mget_empty (r : Int × Int) : mget (.map []) r = none := rfl
theorem mget_put (K : PairK P k) {D : DataW Value} (hD : IsMap D) {r s : Int × Int} (hr : I2 r) (hs : I2 s) (v : Value) : mget (D.put (rlit r) (.held v)) s = if s = r then some v else mget D s := by
  by_cases e : s = r
  · subst e
    rw [if_pos rfl]
    exact mget_some (fun z => atKey_put_same hD (rlit_key s) _ z)
  · rw [if_neg e]
    have hne : rlit s ≠ rlit r := fun h => e (K.inj hs hr h)
    unfold mget
    rw [has_put_other hne, atKey_put_other hne]
theorem mget_del (K : PairK P k) {D : DataW Value} {r s : Int × Int} (hr : I2 r) (hs : I2 s) : mget (D.del (rlit r)) s = if s = r then none else mget D s := by
  by_cases e : s = r
  · subst e
    rw [if_pos rfl]
    exact mget_none has_del_same
  · rw [if_neg e]
    have hne : rlit s ≠ rlit r := fun h => e (K.inj hs hr h)
    unfold mget
    rw [has_del_other hne, atKey_del_other hne]

variable {w : World} {b n : Nat} {D : DataW Value}
theorem own_tight (h : w.ownsMap P k anyElem b n D) : w.ownsMap P k anyElem b (Maps.size D) D := by
  obtain ⟨es, clock, hb, F, hs, rfl⟩ := h
  exact ⟨es, clock, hb, F, by simp [Maps.size, length_sorted], rfl⟩
theorem own_has (K : PairK P k) (h : w.ownsMap P k anyElem b n D) (hz : ∃ e t z, P.underlying t = some (.map k e) ∧ (zeroValue e).run P w = .ok z w) {r : Int × Int} (hr : I2 r) : Maps.has D (rlit r) = (mget D r).isSome := by
  obtain ⟨e, t, z, ht, hz⟩ := hz
  obtain ⟨es, clock, hb, F, hs, rfl⟩ := h
  rcases Maps.fit_look true K.keyed ht hz hb F (K.of_ r hr) with ⟨_, _, hat⟩ | ⟨e0, y, _, _, _, hR, hat, _⟩
  · rw [mget_none (has_false_of_atKey hat), has_false_of_atKey hat]; rfl
  · cases hR
    rw [mget_some hat, has_true_of_atKey hat]; rfl

/-- 'm[k]', with 'ok' and without. -/
theorem run_look (K : PairK P k) (h : w.ownsMap P k anyElem b n D) {t e : TypeId} (ht : P.underlying t = some (.map k e)) {z : Value} (hz : (zeroValue e).run P w = .ok z w) {r : Int × Int} (hr : I2 r) :
    (Instr.lookup t (.map (some b)) (refV r) false).run P w = .ok ((mget D r).getD z) w := by
  obtain ⟨es, clock, hb, F, hs, rfl⟩ := h
  rcases Maps.fit_look false K.keyed ht hz hb F (K.of_ r hr) with ⟨hrun, _, hat⟩ | ⟨e0, y, _, _, hrun, hR, hat, _⟩
  · rw [mget_none (has_false_of_atKey hat)]; exact hrun
  · cases hR
    rw [mget_some hat]; exact hrun
theorem run_look_ok (K : PairK P k) (h : w.ownsMap P k anyElem b n D) {t e : TypeId} (ht : P.underlying t = some (.map k e)) {z : Value} (hz : (zeroValue e).run P w = .ok z w) {r : Int × Int} (hr : I2 r) :
    (Instr.lookup t (.map (some b)) (refV r) true).run P w = .ok (.tuple #[(mget D r).getD z, .bool (mget D r).isSome]) w := by
  obtain ⟨es, clock, hb, F, hs, rfl⟩ := h
  rcases Maps.fit_look true K.keyed ht hz hb F (K.of_ r hr) with ⟨hrun, _, hat⟩ | ⟨e0, y, _, _, hrun, hR, hat, _⟩
  · rw [mget_none (has_false_of_atKey hat)]; exact hrun
  · cases hR
    rw [mget_some hat]; exact hrun

/-- Nothing but block b has turned. -/
theorem only_turned {w' : World} (h : w.mapTurned w' b) : Only (fun i => i = b) w w' := by
  have g := h.grown
  exact ⟨g.os, g.tape, g.output, g.size, fun i hi hn => g.block i hi (fun e => hn (Option.some.inj e))⟩
theorem only_grown {w' : World} (g : w.grownBy w' (some b)) : Only (fun i => i = b) w w' :=
  ⟨g.os, g.tape, g.output, g.size, fun i hi hn => g.block i hi (fun e => hn (Option.some.inj e))⟩
theorem only_grown0 {S : Nat → Prop} {w' : World} (g : w.grownBy w' none) : Only S w w' :=
  ⟨g.os, g.tape, g.output, g.size, fun i hi _ => g.block i hi (by simp)⟩
theorem own_only {w' : World} {S : Nat → Prop} (h : w.ownsMap P k anyElem b n D) (ho : Only S w w') (hn : ¬ S b) : w'.ownsMap P k anyElem b n D := by
  have hl := h.lt
  obtain ⟨es, clock, hb, r⟩ := h
  exact ⟨es, clock, (ho.block b hl hn).trans hb, r⟩
theorem ranges_only {w' : World} {S : Nat → Prop} {r : Nat} {left : Lit → Bool} {cnt : Nat} (h : w.ranges P k anyElem b r n D left cnt) (ho : Only S w w') (hb' : ¬ S b) (hr' : ¬ S r) : w'.ranges P k anyElem b r n D left cnt := by
  have h1 := h.owns.lt
  have h2 := h.lt
  obtain ⟨es, clock, since, seen, c0, hb, F, hs, hD, hr, rest⟩ := h
  exact ⟨es, clock, since, seen, c0, (ho.block b h1 hb').trans hb, F, hs, hD, (ho.block r h2 hr').trans hr, rest⟩

theorem left_struck (K : PairK P k) {left : Lit → Bool} {r s : Int × Int} (hr : I2 r) (hs : I2 s) : (left (rlit s) && !(rlit s).sameKey (rlit r)) = (left (rlit s) && !decide (s = r)) := by
  by_cases e : s = r
  · subst e
    rw [WideAt.sameKey_self (rlit_key s)]
    simp
  · rw [sameKey_ne (fun h => e (K.inj hs hr h))]
    simp [e]
end

section
variable {P : Program} (w : World) {ops : Array Oper} {rest : List Oper} {o : Oper} {a : Act} {Q : Exit → Act → World → Prop}

theorem wpList_look (hg : o.guard = none) (m x : Operand) (t : TypeId) (hop : o.op = Op.lookup t m x false) (k e : TypeId) (K : PairK P k) (ht : P.underlying t = some (.map k e)) (z : Value)
    (hz : (zeroValue e).run P w = .ok z w) (b n : Nat) (D : DataW Value) (hm : a.eval m = .map (some b)) (hown : w.ownsMap P k anyElem b n D) (r : Int × Int) (hx : a.eval x = refV r) (hr : I2 r)
    (v : Value) (hv : (mget D r).getD z = v) (hK : wpList P ops Q rest (a.put o.dst v) w) : wpList P ops Q (o :: rest) a w := by
  refine wpList_plain hg fun K' hK' => ?_
  have hrun := run_look K hown ht hz hr
  rw [hv] at hrun
  unfold Oper.wp
  simp [execOp, hop, hm, hx, hrun, Result.andThen]
  exact hK' _ _ hK
theorem wpList_look_ok (hg : o.guard = none) (m x : Operand) (t : TypeId) (hop : o.op = Op.lookup t m x true) (k e : TypeId) (K : PairK P k) (ht : P.underlying t = some (.map k e)) (z : Value)
    (hz : (zeroValue e).run P w = .ok z w) (b n : Nat) (D : DataW Value) (hm : a.eval m = .map (some b)) (hown : w.ownsMap P k anyElem b n D) (r : Int × Int) (hx : a.eval x = refV r) (hr : I2 r)
    (v : Value) (hv : (mget D r).getD z = v) (s : Bool) (hs : (mget D r).isSome = s) (hK : wpList P ops Q rest (a.put o.dst (.tuple #[v, .bool s])) w) : wpList P ops Q (o :: rest) a w := by
  refine wpList_plain hg fun K' hK' => ?_
  have hrun := run_look_ok K hown ht hz hr
  rw [hv, hs] at hrun
  unfold Oper.wp
  simp [execOp, hop, hm, hx, hrun, Result.andThen]
  exact hK' _ _ hK
/-- 'm[k] = v'. -/
theorem wpList_upd (hg : o.guard = none) (m x v : Operand) (t : TypeId) (hop : o.op = Op.mapUpdate t m x v) (k e : TypeId) (K : PairK P k) (ht : P.underlying t = some (.map k e))
    (b n : Nat) (D : DataW Value) (hm : a.eval m = .map (some b)) (hown : w.ownsMap P k anyElem b n D) (hn : n < maxLen) (r : Int × Int) (hx : a.eval x = refV r) (hr : I2 r)
    (u : Value) (hv : a.eval v = u) (hK : ∀ w', w'.ownsMap P k anyElem b (n + 1) (D.put (rlit r) (.held u)) → Only (fun i => i = b) w w' → w'.heap.size = w.heap.size → wpList P ops Q rest (a.put o.dst undef) w') : wpList P ops Q (o :: rest) a w := by
  refine wpList_mapUpdate_in w hg m x v t hop k e K.keyed ht anyElem b n D hm hown hn (refV r) u (rlit r) hx hv (K.of_ r hr) (.held u) [] rfl ?_
  intro w' h1 h2
  refine hK w' h1 (only_turned h2) ?_
  obtain ⟨es, clock, es', clock', _, rfl⟩ := h2
  simp [Go.ChangeMaps.setBlock]
/-- 'for r, v := range m'. -/
theorem wpList_next_pair (hg : o.guard = none) (it : Operand) (hop : o.op = Op.next it false) (k : TypeId) (K : PairK P k) (b r n : Nat) (D : DataW Value) (left : Lit → Bool) (cnt : Nat)
    (hit : a.eval it = .pointer (some ⟨r, 0, none⟩)) (h : w.ranges P k anyElem b r n D left cnt)
    (hDone : cnt = 0 → (∀ kl, left kl = false) → wpList P ops Q rest (a.put o.dst (.tuple #[.bool false])) w)
    (hMore : ∀ (x1 x2 : Int) (c : Value) (w' : World) (cnt' : Nat), I2 (x1, x2) → left (rlit (x1, x2)) = true → mget D (x1, x2) = some c → w'.ranges P k anyElem b r n D (fun z => left z && !z.sameKey (rlit (x1, x2))) cnt' → cnt' < cnt →
      Only (fun i => i = r) w w' → w'.heap.size = w.heap.size → (Instr.entry (.pointer (some ⟨r, 0, none⟩))).run P w' = .ok (.tuple #[.agg #[.int .i64 x1, .int .i64 x2], c]) w' → wpList P ops Q rest (a.put o.dst (.tuple #[.bool true, .agg #[.int .i64 x1, .int .i64 x2], c])) w') :
    wpList P ops Q (o :: rest) a w := by
  refine wpList_next_ranges w hg it hop k K.keyed anyElem refV id (fun key kl hkey => by obtain ⟨r, h, _⟩ := K.inv key kl hkey; exact ⟨r, h⟩) (fun v y hv => ⟨v, rfl⟩) b r n D left cnt hit h hDone ?_
  intro x c kl y w' cnt' hkey hl hR hat hrg hlt hgr hs hen
  obtain ⟨x', hx', rfl, hi⟩ := K.lit hkey
  obtain rfl := refV_inj hx'
  cases hR
  obtain ⟨x1, x2⟩ := x
  exact hMore x1 x2 c w' cnt' hi hl (mget_some hat) hrg hlt (only_grown hgr) hs hen
end

#print axioms wpList_next_pair
end Go.Proofs.YteknflimfdkhoaaGreat
