/- Maps keyed by strings whose elements are pointers to blocks: laws of our own. Over any program. -/
import Derived.Test.YtbfmdpgghknccaaDoorBlk
import Derived.Maps.RangeWalk
import Derived.Maps.Ext
import Derived.Maps.OwnOps
namespace Go.Proofs.YtbfmdpgghknccaaDoor
open Go.RowKit Go.Maps
set_option linter.unusedVariables false
set_option linter.unusedSimpArgs false

theorem Only.step {S T : Nat → Prop} {a b c : World} (h : Only S a b) (k : Only T b c) (hs : ∀ i, i < a.heap.size → T i → S i) : Only S a c :=
  ⟨k.os.trans h.os, k.tape.trans h.tape, k.output.trans h.output, Nat.le_trans h.size k.size, fun i hi hn => (k.block i (Nat.lt_of_lt_of_le hi h.size) (fun ht => hn (hs i hi ht))).trans (h.block i hi hn)⟩

/-- A pointer among a map's elements: nil, or to the head of a block. -/
def ptrV : Option Nat → Value
  | none => .pointer none
  | some b => .pointer (some ⟨b, 0, none⟩)
def ptrD : Option Nat → DataW Nat
  | none => .nil
  | some b => .held b
/-- How it reads. -/
def ptrElem : Value → Option (DataW Nat × List MemPlace)
  | .pointer none => some (.nil, [])
  | .pointer (some ⟨b, 0, none⟩) => some (.held b, [])
  | _ => none
theorem ptrElem_mk (p : Option Nat) : ptrElem (ptrV p) = some (ptrD p, []) := by cases p <;> rfl
theorem ptrElem_inv {v : Value} {y : DataW Nat × List MemPlace} (h : ptrElem v = some y) : ∃ p, v = ptrV p ∧ y = (ptrD p, []) := by
  unfold ptrElem at h
  split at h
  · exact ⟨none, rfl, (Option.some.inj h).symm⟩
  · rename_i b; exact ⟨some b, rfl, (Option.some.inj h).symm⟩
  · cases h
theorem ptrD_inj {p q : Option Nat} (h : ptrD p = ptrD q) : p = q := by
  cases p <;> cases q <;> simp [ptrD] at h ⊢
  exact h

section
variable {P : Program} (w : World) {ops : Array Oper} {rest : List Oper} {o : Oper} {a : Act} {Q : Exit → Act → World → Prop}

/-- 'm[k]'. -/
theorem wpList_lookup_ptr (hg : o.guard = none) (m x : Operand) (t : TypeId) (hop : o.op = Op.lookup t m x false) (k e : TypeId) (K : Keyed P k) (ht : P.underlying t = some (.map k e))
    (hz : (zeroValue e).run P w = .ok (.pointer none) w) (b n : Nat) (D : DataW Nat) (hm : a.eval m = .map (some b)) (hown : w.ownsMap P k ptrElem b n D) (key : Value) (kl : Lit) (hx : a.eval x = key) (hkey : keyOf P k key = some kl)
    (p : Option Nat) (hat : D.atKey kl .nil = ptrD p) (hK : wpList P ops Q rest (a.put o.dst (ptrV p)) w) : wpList P ops Q (o :: rest) a w := by
  refine wpList_plain hg fun K' hK' => ?_
  obtain ⟨v, ps, hrun, hv⟩ := hown.lookup K ht hz (ptrElem_mk none) hkey
  obtain ⟨q, rfl, hq⟩ := ptrElem_inv hv
  have e : p = q := by
    have h1 : D.atKey kl (ptrD none) = ptrD q := by injection hq
    have h2 : D.atKey kl (ptrD none) = ptrD p := hat
    exact ptrD_inj (h2.symm.trans h1)
  subst e
  unfold Oper.wp
  simp [execOp, hop, hm, hx, hrun, Result.andThen]
  exact hK' _ _ hK

/-- .. as an equation, for a guarded look-up. -/
theorem run_lookup_ptr {w : World} {t k e : TypeId} (K : Keyed P k) (ht : P.underlying t = some (.map k e)) (hz : (zeroValue e).run P w = .ok (.pointer none) w) {b n : Nat} {D : DataW Nat} (hown : w.ownsMap P k ptrElem b n D) {key : Value} {kl : Lit} (hkey : keyOf P k key = some kl)
    (p : Option Nat) (hat : D.atKey kl .nil = ptrD p) : (Instr.lookup t (.map (some b)) key false).run P w = .ok (ptrV p) w := by
  obtain ⟨v, ps, hrun, hv⟩ := hown.lookup K ht hz (ptrElem_mk none) hkey
  obtain ⟨q, rfl, hq⟩ := ptrElem_inv hv
  have e : p = q := by
    have h1 : D.atKey kl (ptrD none) = ptrD q := by injection hq
    have h2 : D.atKey kl (ptrD none) = ptrD p := hat
    exact ptrD_inj (h2.symm.trans h1)
  subst e
  exact hrun

/-- .. where there is none; where there is one. -/
theorem wpList_lookup_nil (hg : o.guard = none) (m x : Operand) (t : TypeId) (hop : o.op = Op.lookup t m x false) (k e : TypeId) (K : Keyed P k) (ht : P.underlying t = some (.map k e))
    (hz : (zeroValue e).run P w = .ok (.pointer none) w) (b n : Nat) (D : DataW Nat) (hm : a.eval m = .map (some b)) (hown : w.ownsMap P k ptrElem b n D) (key : Value) (kl : Lit) (hx : a.eval x = key) (hkey : keyOf P k key = some kl)
    (hat : D.atKey kl .nil = ptrD none) (hK : wpList P ops Q rest (a.put o.dst (.pointer none)) w) : wpList P ops Q (o :: rest) a w :=
  wpList_lookup_ptr w hg m x t hop k e K ht hz b n D hm hown key kl hx hkey none hat hK
theorem wpList_lookup_to (hg : o.guard = none) (m x : Operand) (t : TypeId) (hop : o.op = Op.lookup t m x false) (k e : TypeId) (K : Keyed P k) (ht : P.underlying t = some (.map k e))
    (hz : (zeroValue e).run P w = .ok (.pointer none) w) (b n : Nat) (D : DataW Nat) (hm : a.eval m = .map (some b)) (hown : w.ownsMap P k ptrElem b n D) (key : Value) (kl : Lit) (hx : a.eval x = key) (hkey : keyOf P k key = some kl)
    (f : Nat) (hat : D.atKey kl .nil = ptrD (some f)) (hK : wpList P ops Q rest (a.put o.dst (.pointer (some ⟨f, 0, none⟩))) w) : wpList P ops Q (o :: rest) a w :=
  wpList_lookup_ptr w hg m x t hop k e K ht hz b n D hm hown key kl hx hkey (some f) hat hK

/-- 'm[k] = p'. -/
theorem wpList_update_ptr (hg : o.guard = none) (m x v : Operand) (t : TypeId) (hop : o.op = Op.mapUpdate t m x v) (k e : TypeId) (K : Keyed P k) (ht : P.underlying t = some (.map k e))
    (b n : Nat) (D : DataW Nat) (hm : a.eval m = .map (some b)) (hown : w.ownsMap P k ptrElem b n D) (hn : n < maxLen) (key : Value) (kl : Lit) (hx : a.eval x = key) (hkey : keyOf P k key = some kl)
    (p : Option Nat) (hv : a.eval v = ptrV p) (hK : ∀ w', w'.ownsMap P k ptrElem b (n + 1) (D.put kl (ptrD p)) → w.grownBy w' (some b) → w'.heap.size = w.heap.size → wpList P ops Q rest (a.put o.dst undef) w') : wpList P ops Q (o :: rest) a w := by
  refine wpList_mapUpdate_in w hg m x v t hop k e K ht ptrElem b n D hm hown hn key (ptrV p) kl hx hv hkey (ptrD p) [] (ptrElem_mk p) ?_
  intro w' h1 h2
  refine hK w' h1 h2.grown ?_
  obtain ⟨es, clock, es', clock', _, rfl⟩ := h2
  simp [Go.ChangeMaps.setBlock]

/-- The step of 'for k, p := range m'. -/
theorem wpList_next_ptr (hg : o.guard = none) (it : Operand) (hop : o.op = Op.next it false) (k : TypeId) (K : Keyed P k) (hk : P.underlying k = some .string) (b r n : Nat) (D : DataW Nat) (left : Lit → Bool) (cnt : Nat)
    (hit : a.eval it = .pointer (some ⟨r, 0, none⟩)) (h : w.ranges P k ptrElem b r n D left cnt)
    (hDone : cnt = 0 → (∀ kl, left kl = false) → wpList P ops Q rest (a.put o.dst (.tuple #[.bool false])) w)
    (hMore : ∀ (s : ByteArray) (p : Option Nat) (w' : World) (cnt' : Nat), s.size ≤ maxLen → left (.string s.data.toList) = true → (∀ zd, D.atKey (.string s.data.toList) zd = ptrD p) →
      w'.ranges P k ptrElem b r n D (fun z => left z && !z.sameKey (.string s.data.toList)) cnt' → cnt' < cnt →
      w.grownBy w' (some r) → w'.heap.size = w.heap.size → (Instr.entry (.pointer (some ⟨r, 0, none⟩))).run P w' = .ok (.tuple #[.string s, ptrV p]) w' → wpList P ops Q rest (a.put o.dst (.tuple #[.bool true, .string s, ptrV p])) w') :
    wpList P ops Q (o :: rest) a w := by
  have inv : ∀ key kl, keyOf P k key = some kl → ∃ s : ByteArray, key = .string s ∧ kl = .string s.data.toList ∧ s.size ≤ maxLen := by
    intro key kl hkey
    cases key <;> simp [keyOf, hk, mapKey] at hkey
    exact ⟨_, rfl, hkey.2.symm, hkey.1⟩
  refine wpList_next_ranges w hg it hop k K ptrElem Value.string ptrV (fun key kl hkey => by obtain ⟨s, h, _⟩ := inv key kl hkey; exact ⟨s, h⟩) (fun v y hv => by obtain ⟨p, h, _⟩ := ptrElem_inv hv; exact ⟨p, h⟩) b r n D left cnt hit h hDone ?_
  intro s p kl y w' cnt' hkey hl hR hat hrg hlt hg' hs hen
  obtain ⟨s', hs', rfl, hsz⟩ := inv _ _ hkey
  injection hs' with hs'
  subst hs'
  obtain ⟨q, hq, rfl⟩ := ptrElem_inv hR
  have : p = q := by cases p <;> cases q <;> simp [ptrV] at hq ⊢; exact hq
  subst this
  exact hMore s p w' cnt' hsz hl hat hrg hlt hg' hs hen
end
end Go.Proofs.YtbfmdpgghknccaaDoor
