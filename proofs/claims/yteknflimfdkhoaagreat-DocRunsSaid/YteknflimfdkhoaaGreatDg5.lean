/- Maps of any keys, whatever their elements; keys that are a place (an id, a text, an id). Over any program. What comes of ops: plain. -/
import Derived.Test.YteknflimfdkhoaaGreatDg3
import Derived.Test.YteknflimfdkhoaaGreatDg4
namespace Go.Proofs.YteknflimfdkhoaaGreat
open Go.RowKit Go.Maps
set_option linter.unusedVariables false
set_option linter.unusedSimpArgs false

/-- A kind of keys: their values, their letters. -/
structure MKey (P : Program) (k : TypeId) {α : Type} (V : α → Value) (lit : α → Lit) (ok : α → Prop) : Prop where
  keyed : Keyed P k
  of_ : ∀ r, ok r → keyOf P k (V r) = some (lit r)
  inv : ∀ v l, keyOf P k v = some l → ∃ r, v = V r ∧ ok r
  vinj : ∀ r s, V r = V s → r = s
  isKey : ∀ r, WideAt.IsKeyLit (lit r)
section
variable {P : Program} {k : TypeId} {α : Type} {V : α → Value} {lit : α → Lit} {ok : α → Prop}
theorem MKey.inj (K : MKey P k V lit ok) {r s : α} (hr : ok r) (hs : ok s) (h : lit r = lit s) : r = s :=
  K.vinj _ _ (K.keyed.inj (K.of_ r hr) (by rw [h]; exact K.of_ s hs))
theorem MKey.litOf (K : MKey P k V lit ok) {v : Value} {l : Lit} (h : keyOf P k v = some l) : ∃ r, v = V r ∧ l = lit r ∧ ok r := by
  obtain ⟨r, rfl, hr⟩ := K.inv v l h
  exact ⟨r, rfl, (Option.some.inj ((K.of_ r hr).symm.trans h)).symm, hr⟩
/-- What a map has at a key. -/
def kget (D : DataW Value) (l : Lit) : Option Value :=
  if Maps.has D l then (match D.atKey l .nil with | .held v => some v | _ => none) else none
theorem kget_none {D : DataW Value} {l : Lit} (h : Maps.has D l = false) : kget D l = none := by simp [kget, h]
theorem kget_some {D : DataW Value} {l : Lit} {v : Value} (h : ∀ z, D.atKey l z = .held v) : kget D l = some v := by
  simp [kget, has_true_of_atKey h, h]
theorem kget_empty (l : Lit) : kget (.map []) l = none := rfl
theorem kget_put_same {D : DataW Value} (hD : IsMap D) {l : Lit} (hl : WideAt.IsKeyLit l) (v : Value) : kget (D.put l (.held v)) l = some v := kget_some (fun z => atKey_put_same hD hl _ z)
theorem kget_put_other {D : DataW Value} {l m : Lit} (e : m ≠ l) (v : DataW Value) : kget (D.put l v) m = kget D m := by
  unfold kget
  rw [has_put_other e, atKey_put_other e]
theorem kget_del_same {D : DataW Value} {l : Lit} : kget (D.del l) l = none := kget_none has_del_same
theorem kget_del_other {D : DataW Value} {l m : Lit} (e : m ≠ l) : kget (D.del l) m = kget D m := by
  unfold kget
  rw [has_del_other e, atKey_del_other e]
theorem kget_mget (D : DataW Value) (r : Int × Int) : kget D (rlit r) = mget D r := rfl
theorem MKey.get_put (K : MKey P k V lit ok) {D : DataW Value} (hD : IsMap D) {r s : α} [DecidableEq α] (hr : ok r) (hs : ok s) (v : Value) : kget (D.put (lit r) (.held v)) (lit s) = if s = r then some v else kget D (lit s) := by
  by_cases e : s = r
  · subst e; rw [if_pos rfl]; exact kget_put_same hD (K.isKey s) v
  · rw [if_neg e]; exact kget_put_other (fun h => e (K.inj hs hr h)) _

variable {w : World} {b n : Nat} {D : DataW Value}
theorem own_kget (K : MKey P k V lit ok) (h : w.ownsMap P k anyElem b n D) {t e : TypeId} (ht : P.underlying t = some (.map k e)) {z : Value} (hz : (zeroValue e).run P w = .ok z w) {r : α} (hr : ok r) : Maps.has D (lit r) = (kget D (lit r)).isSome := by
  obtain ⟨es, clock, hb, F, hs, rfl⟩ := h
  rcases Maps.fit_look true K.keyed ht hz hb F (K.of_ r hr) with ⟨_, _, hat⟩ | ⟨e0, y, _, _, _, hR, hat, _⟩
  · rw [kget_none (has_false_of_atKey hat), has_false_of_atKey hat]; rfl
  · cases hR
    rw [kget_some hat, has_true_of_atKey hat]; rfl
theorem krun_look (K : MKey P k V lit ok) (h : w.ownsMap P k anyElem b n D) {t e : TypeId} (ht : P.underlying t = some (.map k e)) {z : Value} (hz : (zeroValue e).run P w = .ok z w) {r : α} (hr : ok r) :
    (Instr.lookup t (.map (some b)) (V r) false).run P w = .ok ((kget D (lit r)).getD z) w := by
  obtain ⟨es, clock, hb, F, hs, rfl⟩ := h
  rcases Maps.fit_look false K.keyed ht hz hb F (K.of_ r hr) with ⟨hrun, _, hat⟩ | ⟨e0, y, _, _, hrun, hR, hat, _⟩
  · rw [kget_none (has_false_of_atKey hat)]; exact hrun
  · cases hR
    rw [kget_some hat]; exact hrun
theorem krun_look_ok (K : MKey P k V lit ok) (h : w.ownsMap P k anyElem b n D) {t e : TypeId} (ht : P.underlying t = some (.map k e)) {z : Value} (hz : (zeroValue e).run P w = .ok z w) {r : α} (hr : ok r) :
    (Instr.lookup t (.map (some b)) (V r) true).run P w = .ok (.tuple #[(kget D (lit r)).getD z, .bool (kget D (lit r)).isSome]) w := by
  obtain ⟨es, clock, hb, F, hs, rfl⟩ := h
  rcases Maps.fit_look true K.keyed ht hz hb F (K.of_ r hr) with ⟨hrun, _, hat⟩ | ⟨e0, y, _, _, hrun, hR, hat, _⟩
  · rw [kget_none (has_false_of_atKey hat)]; exact hrun
  · cases hR
    rw [kget_some hat]; exact hrun
end
section
variable {P : Program} {k : TypeId} {α : Type} {V : α → Value} {lit : α → Lit} {ok : α → Prop} (w : World) {ops : Array Oper} {rest : List Oper} {o : Oper} {a : Act} {Q : Exit → Act → World → Prop}
/-- 'm[k] = v'. -/
theorem wpList_kupd (hg : o.guard = none) (m x v : Operand) (t : TypeId) (hop : o.op = Op.mapUpdate t m x v) (e : TypeId) (K : MKey P k V lit ok) (ht : P.underlying t = some (.map k e))
    (b n : Nat) (D : DataW Value) (hm : a.eval m = .map (some b)) (hown : w.ownsMap P k anyElem b n D) (hn : n < maxLen) (r : α) (hx : a.eval x = V r) (hr : ok r)
    (u : Value) (hv : a.eval v = u) (hK : ∀ w', w'.ownsMap P k anyElem b (n + 1) (D.put (lit r) (.held u)) → Only (fun i => i = b) w w' → w'.heap.size = w.heap.size → wpList P ops Q rest (a.put o.dst undef) w') : wpList P ops Q (o :: rest) a w := by
  refine wpList_mapUpdate_in w hg m x v t hop k e K.keyed ht anyElem b n D hm hown hn (V r) u (lit r) hx hv (K.of_ r hr) (.held u) [] rfl ?_
  intro w' h1 h2
  refine hK w' h1 (only_turned h2) ?_
  obtain ⟨es, clock, es', clock', _, rfl⟩ := h2
  simp [Go.ChangeMaps.setBlock]
/-- 'for k, v := range m'. -/
theorem wpList_knext (hg : o.guard = none) (it : Operand) (hop : o.op = Op.next it false) (K : MKey P k V lit ok) (b r n : Nat) (D : DataW Value) (left : Lit → Bool) (cnt : Nat)
    (hit : a.eval it = .pointer (some ⟨r, 0, none⟩)) (h : w.ranges P k anyElem b r n D left cnt)
    (hDone : cnt = 0 → (∀ kl, left kl = false) → wpList P ops Q rest (a.put o.dst (.tuple #[.bool false])) w)
    (hMore : ∀ (x : α) (c : Value) (w' : World) (cnt' : Nat), ok x → left (lit x) = true → kget D (lit x) = some c → w'.ranges P k anyElem b r n D (fun z => left z && !z.sameKey (lit x)) cnt' → cnt' < cnt →
      Only (fun i => i = r) w w' → w'.heap.size = w.heap.size → (Instr.entry (.pointer (some ⟨r, 0, none⟩))).run P w' = .ok (.tuple #[V x, c]) w' → wpList P ops Q rest (a.put o.dst (.tuple #[.bool true, V x, c])) w') :
    wpList P ops Q (o :: rest) a w := by
  refine wpList_next_ranges w hg it hop k K.keyed anyElem V id (fun key kl hkey => by obtain ⟨r, h, _⟩ := K.inv key kl hkey; exact ⟨r, h⟩) (fun v y hv => ⟨v, rfl⟩) b r n D left cnt hit h hDone ?_
  intro x c kl y w' cnt' hkey hl hR hat hrg hlt hgr hs hen
  obtain ⟨x', hx', rfl, hi⟩ := K.litOf hkey
  obtain rfl := K.vinj _ _ hx'
  cases hR
  exact hMore x c w' cnt' hi hl (kget_some hat) hrg hlt (only_grown hgr) hs hen
end

/-- A place: an object, a key, an element. -/
abbrev Wh : Type := (Int × Int) × ByteArray × (Int × Int)
def whV (x : Wh) : Value := .agg #[.int .i64 x.1.1, .int .i64 x.1.2, .string x.2.1, .int .i64 x.2.2.1, .int .i64 x.2.2.2]
def whLit (x : Wh) : Lit := .string (keyBytes [.int .i64 x.1.1, .int .i64 x.1.2, .string x.2.1.data.toList, .int .i64 x.2.2.1, .int .i64 x.2.2.2])
def whOk (x : Wh) : Prop := I2 x.1 ∧ x.2.1.size ≤ maxLen ∧ I2 x.2.2
theorem whV_inj (r s : Wh) (h : whV r = whV s) : r = s := by
  obtain ⟨⟨a, b⟩, c, d, e⟩ := r
  obtain ⟨⟨a', b'⟩, c', d', e'⟩ := s
  unfold whV at h
  simp at h
  obtain ⟨rfl, rfl, rfl, rfl, rfl⟩ := h
  rfl
section
variable {P : Program} {e : TypeId}
theorem lits_int {m : Nat} (he : P.underlying e = some (.int .i64)) (a : Int) (h : I64 a) : P.keyLits (m + 1) e [.int .i64 a] = some [.int .i64 a] := by
  unfold Program.keyLits
  rw [he]
  simp [wf_of_i64 h]
theorem lits_int_inv {m : Nat} (he : P.underlying e = some (.int .i64)) (c : Value) (ls : List Lit) (h : P.keyLits (m + 1) e [c] = some ls) : ∃ a, c = .int .i64 a ∧ I64 a ∧ ls = [.int .i64 a] := by
  unfold Program.keyLits at h
  rw [he] at h
  cases c <;> simp at h
  obtain ⟨⟨rfl, hw⟩, rfl⟩ := h
  exact ⟨_, rfl, i64_of_wf hw, rfl⟩
theorem lits_str {m : Nat} (he : P.underlying e = some .string) (s : ByteArray) (h : s.size ≤ maxLen) : P.keyLits (m + 1) e [.string s] = some [.string s.data.toList] := by
  unfold Program.keyLits
  rw [he]
  simp [h]
theorem lits_str_inv {m : Nat} (he : P.underlying e = some .string) (c : Value) (ls : List Lit) (h : P.keyLits (m + 1) e [c] = some ls) : ∃ s, c = .string s ∧ s.size ≤ maxLen ∧ ls = [.string s.data.toList] := by
  unfold Program.keyLits at h
  rw [he] at h
  cases c <;> simp at h
  obtain ⟨hw, rfl⟩ := h
  exact ⟨_, rfl, hw, rfl⟩
theorem lits_pair {m : Nat} {k : TypeId} {fs : Array Field} {f1 f2 : Field} (hu : P.underlying k = some (.struct fs)) (hfs : fs.toList = [f1, f2]) (t1 : f1.type = e) (t2 : f2.type = e) (o1 : f1.offset = 0) (o2 : f2.offset = 1)
    (hn : fs.all (·.name != "_") = true) (ce : P.cellsOf e = 1) (ck : P.cellsOf k = 2) (x y : Value) : P.keyLits (m + 1) k [x, y] = (P.keyLits m e [x]).bind fun a => (P.keyLits m e [y]).map fun b => a ++ b := by
  conv => lhs; unfold Program.keyLits
  simp only [hu]
  rw [if_pos ⟨by rw [ck]; rfl, hn⟩, hfs]
  simp only [List.mapM_cons, List.mapM_nil, t1, t2, o1, o2, ce, List.drop_zero]
  cases h1 : P.keyLits m e [x] <;> cases h2 : P.keyLits m e [y] <;> simp [h1, h2]
theorem wh_mk {k ki ks : TypeId} {fs : Array Field} {f1 f2 f3 : Field} {gs : Array Field} {g1 g2 : Field} (hu : P.underlying k = some (.struct fs)) (hfs : fs.toList = [f1, f2, f3]) (t1 : f1.type = ki) (t2 : f2.type = ks) (t3 : f3.type = ki) (o1 : f1.offset = 0) (o2 : f2.offset = 2) (o3 : f3.offset = 3)
    (hn : fs.all (·.name != "_") = true) (hi : P.underlying ki = some (.struct gs)) (hgs : gs.toList = [g1, g2]) (u1 : g1.type = e) (u2 : g2.type = e) (p1 : g1.offset = 0) (p2 : g2.offset = 1) (hgn : gs.all (·.name != "_") = true)
    (hs : P.underlying ks = some .string) (he : P.underlying e = some (.int .i64)) (ce : P.cellsOf e = 1) (ci : P.cellsOf ki = 2) (cs : P.cellsOf ks = 1) (ck : P.cellsOf k = 5) (hkt : P.keyType k = true) (hsz : ∃ m, P.types.size = m + 2) (K : Keyed P k) : MKey P k whV whLit whOk := by
  obtain ⟨m, hm⟩ := hsz
  have lits : ∀ a b c d f : Value, P.keyLits (P.types.size + 1) k [a, b, c, d, f] = (P.keyLits (m + 2) ki [a, b]).bind fun x => (P.keyLits (m + 2) ks [c]).bind fun y => (P.keyLits (m + 2) ki [d, f]).map fun z => x ++ (y ++ z) := by
    intro a b c d f
    rw [hm]
    conv => lhs; unfold Program.keyLits
    simp only [hu]
    rw [if_pos ⟨by rw [ck]; rfl, hn⟩, hfs]
    simp only [List.mapM_cons, List.mapM_nil, t1, t2, t3, o1, o2, o3, ci, cs, List.drop_zero]
    cases h1 : P.keyLits (m + 2) ki [a, b] <;> cases h2 : P.keyLits (m + 2) ks [c] <;> cases h3 : P.keyLits (m + 2) ki [d, f] <;> simp [h1, h2, h3]
  have pair := fun x y => lits_pair (P := P) (m := m + 1) (e := e) hi hgs u1 u2 p1 p2 hgn ce ci x y
  refine ⟨K, ?_, ?_, whV_inj, fun _ => trivial⟩
  · rintro ⟨⟨a, b⟩, c, d, f⟩ ⟨⟨ha, hb⟩, hc, hd, hf⟩
    unfold keyOf
    simp only [hu]
    rw [if_pos (by simp [hkt, whV, Value.formed, hu, ck])]
    have h1 : (whV ((a, b), c, (d, f))).cells.toList = [.int .i64 a, .int .i64 b, .string c, .int .i64 d, .int .i64 f] := rfl
    rw [h1, lits, pair, pair, lits_int he a ha, lits_int he b hb, lits_int he d hd, lits_int he f hf, lits_str hs c hc]
    rfl
  · intro v l h
    unfold keyOf at h
    simp only [hu] at h
    split at h
    · rename_i hc
      simp only [Bool.and_eq_true] at hc
      obtain ⟨-, hf⟩ := hc
      obtain ⟨cv, rfl⟩ : ∃ cv, v = .agg cv := by
        cases v <;> simp [Value.formed, hu] at hf
        exact ⟨_, rfl⟩
      simp [Value.formed, hu, ck] at hf
      obtain ⟨ls, hls, -⟩ := Option.map_eq_some_iff.1 h
      have hcl : (Value.agg cv).cells.toList = cv.toList := rfl
      obtain ⟨l', hl'⟩ : ∃ l', cv.toList = l' := ⟨_, rfl⟩
      have hlen : l'.length = 5 := by rw [← hl']; simpa using hf
      rw [hcl, hl'] at hls
      match l', hlen with
      | [a, b, c, d, f], _ =>
        rw [lits, pair, pair] at hls
        cases h1 : P.keyLits (m + 1) e [a] with
        | none => rw [h1] at hls; simp at hls
        | some la =>
          cases h2 : P.keyLits (m + 1) e [b] with
          | none => rw [h1, h2] at hls; simp at hls
          | some lb =>
            cases h3 : P.keyLits (m + 2) ks [c] with
            | none => rw [h1, h2, h3] at hls; simp at hls
            | some lc =>
              cases h4 : P.keyLits (m + 1) e [d] with
              | none => rw [h1, h2, h3, h4] at hls; simp at hls
              | some ld =>
                cases h5 : P.keyLits (m + 1) e [f] with
                | none => rw [h1, h2, h3, h4, h5] at hls; simp at hls
                | some lf =>
                  obtain ⟨a', rfl, ha, -⟩ := lits_int_inv he a la h1
                  obtain ⟨b', rfl, hb, -⟩ := lits_int_inv he b lb h2
                  obtain ⟨c', rfl, hc, -⟩ := lits_str_inv hs c lc h3
                  obtain ⟨d', rfl, hd, -⟩ := lits_int_inv he d ld h4
                  obtain ⟨f', rfl, hff, -⟩ := lits_int_inv he f lf h5
                  refine ⟨((a', b'), c', (d', f')), ?_, ⟨ha, hb⟩, hc, hd, hff⟩
                  have : cv = #[.int .i64 a', .int .i64 b', .string c', .int .i64 d', .int .i64 f'] := by apply Array.toList_inj.1; rw [hl']
                  rw [this]
                  rfl
    · cases h
end
end Go.Proofs.YteknflimfdkhoaaGreat
namespace Go.Proofs.YteknflimfdkhoaaGreat
open Go.RowKit
set_option linter.unusedVariables false
set_option linter.unusedSimpArgs false

/-- A function turned at one place. -/
def upd {α β : Type} [DecidableEq α] (f : α → β) (a : α) (b : β) : α → β := fun x => if x = a then b else f x
theorem upd_same {α β : Type} [DecidableEq α] (f : α → β) (a : α) (b : β) : upd f a b a = b := if_pos rfl
theorem upd_other {α β : Type} [DecidableEq α] (f : α → β) {a x : α} (b : β) (h : x ≠ a) : upd f a b x = f x := if_neg h
theorem upd_self {α β : Type} [DecidableEq α] (f : α → β) (a : α) : upd f a (f a) = f := by
  funext x
  unfold upd
  split
  · rename_i e; rw [e]
  · rfl
theorem upd_upd {α β : Type} [DecidableEq α] (f : α → β) (a : α) (b c : β) : upd (upd f a b) a c = upd f a c := by
  funext x
  unfold upd
  split <;> rfl
/-- The values of a place, by their ids. -/
abbrev Vm : Type := Int × Int → Option JV
structure Sta where
  kinds : Int × Int → Option Int
  vals : Wh → Option Vm
  kids : Wh → Option (List (Int × Int))
  lists : Int × Int → Option (Int × Int)
def stNew : Sta := ⟨fun n => if n = (0, 0) then some 5 else none, fun _ => none, fun _ => none, fun _ => none⟩
def Sta.mv (s : Sta) (x : Wh) : Vm := (s.vals x).getD (fun _ => none)
/-- What an op does to one it overwrites, or adds to. -/
def predDo (o : OpV) (m : Vm) (p : Int × Int) : Vm :=
  if o.kind = 4 then (match m p with
    | some v => upd m p (some { v with n := IntKind.i64.wrap (v.n + o.val.n) })
    | none => m)
  else upd m p none
/-- What an op does to its place. -/
def doV (o : OpV) (n : Int × Int) (m : Vm) : Vm :=
  if o.kind = 2 then upd (o.preds.foldl (predDo o) m) n (some { o.val with o := n.1, p := n.2 })
  else if o.kind = 1 then upd (o.preds.foldl (predDo o) m) n (some o.val)
  else o.preds.foldl (predDo o) m
def Sta.do_ (s : Sta) (o : OpV) (n : Int × Int) : Sta where
  kinds := if o.kind = 2 then upd s.kinds n (some o.val.k) else s.kinds
  vals := upd s.vals (placeOf o n) (some (doV o n (s.mv (placeOf o n))))
  kids := if o.ins then upd s.kids (o.obj, o.key, o.elem) (some ((s.kids (o.obj, o.key, o.elem)).getD [] ++ [n])) else s.kids
  lists := if o.ins then upd s.lists n (some o.obj) else s.lists
/-- Ops, numbered from a number on. -/
def doOps (s : Sta) (actor : Int) : Int → List OpV → Sta
  | _, [] => s
  | k, o :: l => doOps (s.do_ o (k, actor)) actor (k + 1) l
def doChs (s : Sta) : List Ch → Sta
  | [] => s
  | c :: l => doChs (doOps s c.actor c.start c.ops) l
theorem doOps_snoc (actor : Int) : ∀ (l : List OpV) (s : Sta) (k : Int) (o : OpV), doOps s actor k (l ++ [o]) = (doOps s actor k l).do_ o (k + l.length, actor)
  | [], s, k, o => by simp [doOps]
  | x :: l, s, k, o => by
    show doOps (s.do_ x (k, actor)) actor (k + 1) (l ++ [o]) = _
    rw [doOps_snoc actor l]
    show _ = (doOps (s.do_ x (k, actor)) actor (k + 1) l).do_ o (k + ((l.length + 1 : Nat) : Int), actor)
    rw [show k + 1 + (l.length : Int) = k + ((l.length + 1 : Nat) : Int) by omega]
theorem doChs_snoc : ∀ (l : List Ch) (s : Sta) (c : Ch), doChs s (l ++ [c]) = doOps (doChs s l) c.actor c.start c.ops
  | [], s, c => rfl
  | x :: l, s, c => doChs_snoc l _ c
end Go.Proofs.YteknflimfdkhoaaGreat
