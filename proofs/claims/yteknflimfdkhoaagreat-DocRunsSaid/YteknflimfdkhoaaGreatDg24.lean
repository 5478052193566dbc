/- state.State.Do: a contract. state.New: a contract. -/
import Derived.Test.YteknflimfdkhoaaGreatDg20
import Derived.Deep.RegionHeld3
import Derived.WalkSpells
import Derived.Deep.Quiet
import Derived.Deep.QuietTactic
import Derived.BigQuiet
import Derived.Test.YteknflimfdkhoaaGreatDg22
namespace Go.Proofs.YteknflimfdkhoaaGreat
open Go.RowKit Go.Maps
set_option linter.unusedVariables false
set_option linter.unusedSimpArgs false

theorem StM.mono {w : World} {B sb kb vb ib lb N M : Nat} {s : Sta} (h : StM w B sb kb vb ib lb N s) (hN : N ≤ M) : StM w B sb kb vb ib lb M s := by
  obtain ⟨Dk, k1, k2, k3⟩ := h.ks
  obtain ⟨Dv, v1, v2, v3, v4⟩ := h.vs
  refine ⟨h.blk, ⟨Dk, k1, k2, by omega⟩, ⟨Dv, v1, by omega, fun x hx => ?_, v4⟩, h.low, h.ne, h.is.mono hN, h.ls.mono hN, h.ne2⟩
  have := v3 x hx
  cases e : s.vals x with
  | none => rw [e] at this; exact this
  | some f =>
    rw [e] at this
    obtain ⟨m, m1, ⟨Dm, g1, g2, g3⟩, m3⟩ := this
    exact ⟨m, m1, ⟨Dm, g1, g2, by omega⟩, m3⟩
/-- What is no map, and no row of ids, is as it was. -/
def KeepNM (w w' : World) : Prop := ∀ k, k < w.heap.size → ¬ IsMapB w k → ¬ IsIdB w k → w'.heap[k]? = w.heap[k]?
theorem KeepNM.blk {w w' : World} (h : KeepNM w w') {g : Nat} {t : TypeId} {cs : Array Value} (hb : Blk w g t cs) (ht : t ≠ 24) : Blk w' g t cs := (h g hb.lt (blk_noMap hb) (idB_blk hb ht)).trans hb
/-- The boxes of Do. -/
structure DoB (w : World) (B : Nat) (o : OpV) (pA : Option Addr) (pc : Nat) (n el : Int × Int) (W : World) : Prop where
  op : Blk W w.heap.size 51 #[.int .i64 o.kind, .int .i64 o.obj.1, .int .i64 o.obj.2, .string o.key, .int .i64 o.elem.1, .int .i64 o.elem.2, .bool o.ins, .int .i64 o.val.k, .int .i64 o.val.n, .string o.val.s, .int .i64 o.val.o, .int .i64 o.val.p, .slice pA o.preds.length pc]
  id : Blk W (w.heap.size + 1) 24 #[.int .i64 n.1, .int .i64 n.2]
  wh : Blk W (w.heap.size + 1 + 1) 109 #[.int .i64 o.obj.1, .int .i64 o.obj.2, .string o.key, .int .i64 el.1, .int .i64 el.2]
  preds : SlAt W pA (refs o.preds)
  bel : Below B w W
  size : w.heap.size + 3 ≤ W.heap.size
  nm : KeepNM w W
theorem DoB.new {w W W' : World} {B : Nat} {o : OpV} {pA : Option Addr} {pc : Nat} {n el : Int × Int} (h : DoB w B o pA pc n el W) (hB : B ≤ w.heap.size) (hb : Below W.heap.size W W') : DoB w B o pA pc n el W' :=
  ⟨h.op.below hb h.op.lt, h.id.below hb h.id.lt, h.wh.below hb h.wh.lt, h.preds.below hb, h.bel.trans (hb.mono (by have := h.bel.size; omega)), by have := h.size; have := hb.size; omega, fun k hk hn hi => (hb.block k (by have := h.size; omega)).trans (h.nm k hk hn hi)⟩
theorem DoB.maps {w W W' : World} {B : Nat} {o : OpV} {pA : Option Addr} {pc : Nat} {n el : Int × Int} {S : Nat → Prop} (h : DoB w B o pA pc n el W) (hB : B ≤ w.heap.size) (ho : Only S W W') (hS : ∀ i, S i → IsMapB W i ∧ B ≤ i) : DoB w B o pA pc n el W' :=
  ⟨h.op.only ho (fun e => blk_noMap h.op (hS _ e).1), h.id.only ho (fun e => blk_noMap h.id (hS _ e).1), h.wh.only ho (fun e => blk_noMap h.wh (hS _ e).1), h.preds.maps ho (fun i e => (hS i e).1), h.bel.trans (ho.below (by have := h.bel.size; omega) (fun k hk e => by have := (hS k e).2; omega)), by have := h.size; have := ho.size; omega, fun k hk hn hi => by
    have h1 := h.nm k hk hn hi
    refine (ho.block k (by have := h.size; omega) (fun e => hn ?_)).trans h1
    obtain ⟨es, ck, h2⟩ := (hS k e).1
    exact ⟨es, ck, h1 ▸ h2⟩⟩
theorem DoB.ins {w W W' : World} {B : Nat} {o : OpV} {pA : Option Addr} {pc : Nat} {n el : Int × Int} {S : Nat → Prop} (h : DoB w B o pA pc n el W) (hB : B ≤ w.heap.size) (ho : Only S W W') (hS : ∀ i, S i → i < W.heap.size → i < w.heap.size ∧ B ≤ i ∧ (IsMapB W i ∨ IsIdB W i)) (hp : ∀ W', Below B w W' → SlAt W' pA (refs o.preds)) : DoB w B o pA pc n el W' := by
  have hbel := h.bel.trans (ho.below (B := B) (by have := h.bel.size; omega) (fun k hk e => by have := (hS k e (by have := h.bel.size; omega)).2.1; omega))
  refine ⟨h.op.only ho (fun e => by have := (hS _ e h.op.lt).1; omega), h.id.only ho (fun e => by have := (hS _ e h.id.lt).1; omega), h.wh.only ho (fun e => by have := (hS _ e h.wh.lt).1; omega), hp _ hbel, hbel, by have := h.size; have := ho.size; omega, fun k hk hn hi => ?_⟩
  have h1 := h.nm k hk hn hi
  refine (ho.block k (by have := h.size; omega) (fun e => ?_)).trans h1
  rcases (hS k e (by have := h.size; omega)).2.2 with ⟨es, ck, h2⟩ | ⟨cs, h2⟩
  · exact hn ⟨es, ck, h1 ▸ h2⟩
  · exact hi ⟨cs, h1 ▸ h2⟩
theorem DoB.elem {w W : World} {B : Nat} {o : OpV} {pA : Option Addr} {pc : Nat} {n el : Int × Int} (h : DoB w B o pA pc n el W) (hB : B ≤ w.heap.size) (hp : ∀ W', Below B w W' → SlAt W' pA (refs o.preds)) (m : Int × Int) : DoB w B o pA pc n m ((W.setCell ⟨w.heap.size + 1 + 1, 3, none⟩ (.int .i64 m.1)).setCell ⟨w.heap.size + 1 + 1, 4, none⟩ (.int .i64 m.2)) := by
  have ho : Only (fun i => i = w.heap.size + 1 + 1) W ((W.setCell ⟨w.heap.size + 1 + 1, 3, none⟩ (.int .i64 m.1)).setCell ⟨w.heap.size + 1 + 1, 4, none⟩ (.int .i64 m.2)) := Only.setCell (S := fun k => k = w.heap.size + 1 + 1) (Only.setCell (S := fun k => k = w.heap.size + 1 + 1) (Only.refl _ W) (p := ⟨w.heap.size + 1 + 1, 3, none⟩) rfl _) (p := ⟨w.heap.size + 1 + 1, 4, none⟩) rfl _
  have hbel := h.bel.trans (ho.below (B := B) (by have := h.bel.size; omega) (fun k hk e => by have e : k = w.heap.size + 1 + 1 := e; omega))
  refine ⟨h.op.only ho (fun e => by have e : w.heap.size = w.heap.size + 1 + 1 := e; omega), h.id.only ho (fun e => by have e : w.heap.size + 1 = w.heap.size + 1 + 1 := e; omega), ?_, hp _ hbel, hbel, by have := h.size; have := ho.size; omega, fun k hk hn hi => (ho.block k (by have := h.size; omega) (fun e => by have e : k = w.heap.size + 1 + 1 := e; omega)).trans (h.nm k hk hn hi)⟩
  have := (h.wh.set_ 3 (.int .i64 m.1)).set_ 4 (.int .i64 m.2)
  simpa using this
/-- What stands while Do goes on: the place's values are f. -/
structure DoX (w : World) (B sb kb vb ib lb N : Nat) (s : Sta) (o : OpV) (pA : Option Addr) (pc : Nat) (n el : Int × Int) (f : Vm) (W : World) : Prop where
  b : DoB w B o pA pc n el W
  st : StM W B sb kb vb ib lb N { s with vals := upd s.vals (o.obj, o.key, el) (some f) }
theorem VmAt.below {w w' : World} {m : Nat} {f : Vm} {N : Nat} (h : VmAt w m f N) (hb : Below w.heap.size w w') : VmAt w' m f N := h.only (Only.of_below (S := fun _ => False) hb) (fun h => h)
theorem vm_del {w w' : World} {m N k : Nat} {f : Vm} {Dm : DataW Value} {d : Int × Int} (h1 : w.ownsMap Tryz.prog 24 anyElem m (Maps.size Dm) Dm) (h2 : ∀ n, I2 n → mget Dm n = (f n).map jvV) (h3 : Maps.size Dm ≤ N) (hd : I2 d) (hm : w'.ownsMap Tryz.prog 24 anyElem m k (Dm.del (rlit d))) (hk : k ≤ N) : VmAt w' m (upd f d none) (N + 1) := by
  refine ⟨_, own_tight hm, fun r hr => ?_, by have := own_size (own_tight hm); have := own_size hm; omega⟩
  rw [mget_del pairId hd hr]
  unfold upd
  by_cases e : r = d
  · rw [if_pos e, if_pos e]; rfl
  · rw [if_neg e, if_neg e]; exact h2 r hr
theorem vm_put {w w' : World} {m N k : Nat} {f : Vm} {Dm : DataW Value} {d : Int × Int} (v : JV) (h1 : w.ownsMap Tryz.prog 24 anyElem m (Maps.size Dm) Dm) (h2 : ∀ n, I2 n → mget Dm n = (f n).map jvV) (h3 : Maps.size Dm ≤ N) (hd : I2 d) (hm : w'.ownsMap Tryz.prog 24 anyElem m k (Dm.put (rlit d) (.held (jvV v)))) (hk : k ≤ N + 1) : VmAt w' m (upd f d (some v)) (N + 1) := by
  refine ⟨_, own_tight hm, fun r hr => ?_, by have := own_size (own_tight hm); have := own_size hm; omega⟩
  rw [mget_put pairId (World.ownsMap.isMap h1) hd hr]
  unfold upd
  by_cases e : r = d
  · rw [if_pos e, if_pos e]; rfl
  · rw [if_neg e, if_neg e]; exact h2 r hr
theorem vm_none (w : World) (N : Nat) : VmAt (w.alloc (.map #[] 0)) w.heap.size (fun _ => none) N := ⟨.map [], own_tight (World.ownsMap_made w _ _ _), fun r _ => mget_empty r, by simp [Maps.size]⟩
theorem foldl_take {α β : Type} (g : β → α → β) (b : β) {l : List α} {k : Nat} {x : α} (h : l[k]? = some x) : (l.take (k + 1)).foldl g b = g ((l.take k).foldl g b) x := by
  rw [List.take_add_one, h, List.foldl_append]
  rfl
theorem kstore {P : Program} {k : TypeId} {α : Type} {V : α → Value} {lit : α → Lit} {ok : α → Prop} (K : MKey P k V lit ok) {w : World} {b n : Nat} {D : DataW Value} {t e : TypeId} (h : w.ownsMap P k anyElem b n D) (ht : P.underlying t = some (.map k e)) (hn : n < maxLen) {r : α} (hr : ok r) (u : Value) :
    ∃ w', (Instr.mapUpdate t (.map (some b)) (V r) u).run P w = .ok () w' ∧ w'.ownsMap P k anyElem b (n + 1) (D.put (lit r) (.held u)) ∧ Only (fun i => i = b) w w' ∧ w'.heap.size = w.heap.size := by
  obtain ⟨w', hrun, r1, r2⟩ := h.store K.keyed ht hn (K.of_ r hr) (val := u) rfl
  refine ⟨w', hrun, r1, only_turned r2, ?_⟩
  obtain ⟨es, clock, es', clock', _, rfl⟩ := r2
  simp [Go.ChangeMaps.setBlock]
/-- Keys that are pairs, as keys. -/
theorem pairMK {P : Program} {k : TypeId} (K : PairK P k) : MKey P k refV rlit I2 := ⟨K.keyed, K.of_, K.inv, fun _ _ h => refV_inj h, rlit_key⟩
/-- What an Insert leaves, ahead of the values. -/
def insS (s : Sta) (o : OpV) (n : Int × Int) : Sta := { s with kids := if o.ins then upd s.kids (o.obj, o.key, o.elem) (some ((s.kids (o.obj, o.key, o.elem)).getD [] ++ [n])) else s.kids, lists := if o.ins then upd s.lists n (some o.obj) else s.lists }
theorem stDo_two {s t : Sta} {o : OpV} {n el : Int × Int} (hs : t = insS s o n) (he : el = if o.ins then n else o.elem) (hk : o.kind = 2) : s.do_ o n = { t with kinds := upd t.kinds n (some o.val.k), vals := upd t.vals (o.obj, o.key, el) (some (upd (o.preds.foldl (predDo o) (t.mv (o.obj, o.key, el))) n (some { o.val with o := n.1, p := n.2 }))) } := by
  subst hs he
  unfold Sta.do_ doV
  rw [if_pos hk, if_pos hk]
  rfl
theorem stDo_one {s t : Sta} {o : OpV} {n el : Int × Int} (hs : t = insS s o n) (he : el = if o.ins then n else o.elem) (hk : o.kind = 1) : s.do_ o n = { t with vals := upd t.vals (o.obj, o.key, el) (some (upd (o.preds.foldl (predDo o) (t.mv (o.obj, o.key, el))) n (some o.val))) } := by
  have h2 : ¬ o.kind = 2 := by omega
  subst hs he
  unfold Sta.do_ doV
  rw [if_neg h2, if_neg h2, if_pos hk]
  rfl
theorem stDo_else {s t : Sta} {o : OpV} {n el : Int × Int} (hs : t = insS s o n) (he : el = if o.ins then n else o.elem) (h1 : o.kind ≠ 1) (h2 : o.kind ≠ 2) : s.do_ o n = { t with vals := upd t.vals (o.obj, o.key, el) (some (o.preds.foldl (predDo o) (t.mv (o.obj, o.key, el)))) } := by
  subst hs he
  unfold Sta.do_ doV
  rw [if_neg h2, if_neg h2, if_neg h1]
  rfl

set_option maxRecDepth 100000 in
set_option maxHeartbeats 4000000 in
theorem stDo_any (B sb kb vb ib lb N : Nat) (s : Sta) (o : OpV) (pA : Option Addr) (pc : Nat) (n : Int × Int) (w : World) (H : StM w B sb kb vb ib lb N s) (hB : B ≤ w.heap.size) (hp : ∀ W, Below B w W → SlAt W pA (refs o.preds)) (hf : o.Fit) (hn : I2 n) (hN : N ≤ 100000) (hl : o.preds.length ≤ 1000) :
    Calls Tryz.prog 51 #[.pointer (some ⟨sb, 0, none⟩), .agg #[.int .i64 o.kind, .int .i64 o.obj.1, .int .i64 o.obj.2, .string o.key, .int .i64 o.elem.1, .int .i64 o.elem.2, .bool o.ins, .int .i64 o.val.k, .int .i64 o.val.n, .string o.val.s, .int .i64 o.val.o, .int .i64 o.val.p, .slice pA o.preds.length pc], .agg #[.int .i64 n.1, .int .i64 n.2]] w fun e w' => e = .returned (.tuple #[]) ∧ StM w' B sb kb vb ib lb (N + o.preds.length + 4) (s.do_ o n) ∧ Below B w w' ∧ KeepNM w w' := by
  obtain ⟨bi, hbi⟩ : ∃ bi, bi = o.ins := ⟨_, rfl⟩
  rw [← hbi]
  obtain ⟨el, hel⟩ : ∃ el, el = if o.ins then n else o.elem := ⟨_, rfl⟩
  obtain ⟨s1, hs1⟩ : ∃ s1, s1 = insS s o n := ⟨_, rfl⟩
  obtain ⟨x, hx⟩ : ∃ x : Wh, x = (o.obj, o.key, el) := ⟨_, rfl⟩
  have hxo : whOk x := by
    rw [hx]
    refine ⟨hf.obj, hf.key, ?_⟩
    rw [hel]
    split
    · exact hn
    · exact hf.elem
  obtain ⟨W0, hW0⟩ : ∃ W0, W0 = ((w.alloc (.cells #[.int .i64 o.kind, .int .i64 o.obj.1, .int .i64 o.obj.2, .string o.key, .int .i64 o.elem.1, .int .i64 o.elem.2, .bool bi, .int .i64 o.val.k, .int .i64 o.val.n, .string o.val.s, .int .i64 o.val.o, .int .i64 o.val.p, .slice pA o.preds.length pc] 51)).alloc (.cells #[.int .i64 n.1, .int .i64 n.2] 24)).alloc (.cells #[.int .i64 o.obj.1, .int .i64 o.obj.2, .string o.key, .int .i64 o.elem.1, .int .i64 o.elem.2] 109) := ⟨_, rfl⟩
  have hb0 : Below w.heap.size w W0 := by rw [hW0]; exact (((Below.refl _ _).alloc (Nat.le_refl _) _).alloc (by simp) _).alloc (by simp; omega) _
  have hD0 : DoB w B o pA pc n o.elem W0 := by
    refine ⟨?_, ?_, ?_, hp _ (hb0.mono hB), hb0.mono hB, ?_, fun k hk _ _ => hb0.block k hk⟩
    · rw [hW0, hbi]; exact ((Blk.new w _ _).alloc _).alloc _
    · rw [hW0]; exact (Blk.newer _ _ _ (by simp)).alloc _
    · rw [hW0]; exact Blk.newer _ _ _ (by simp)
    · rw [hW0]; simp
  have HG := Lib.hid (And.intro (H.below hb0) (And.intro hD0 (And.intro hp (And.intro hb0 H))))
  have HF := Lib.hid (And.intro hxo (And.intro hf (And.intro hn (And.intro hB hN))))
  have HZ := Lib.hid (And.intro hs1 (And.intro hel hbi))
  have HX := Lib.hid hx
  have HW := Lib.hid hW0
  have hlen : o.preds.length ≤ 9223372036854775807 := by omega
  clear hx hxo hb0 hD0 H hp hf hn hW0 hB hs1 hel hbi
  have qT : ∀ (w : World) (r : Option Nat), (binOp .eql 110 (.map r) (.map none)).run Tryz.prog w = .ok (.bool r.isNone) w := fun w r => run_eql_map_nil w _ _ _ r Tryz.underlying110
  have hmm := @run_makeMap Tryz.prog
  go_enter Tryz.func51, Tryz.ntmps51
  go_upto_if 20 with (fail)
  rw [← HW.out]
  go_cut [6] from 21 to 39 (fun s6 wx => s6 = .pointer (some ⟨w.heap.size + 1 + 1, 0, none⟩) ∧ DoB w B o pA pc n el wx ∧ StM wx B sb kb vb ib lb (N + 1) s1)
  case first =>
    cases bi with
    | false =>
      go_wp2_with fail
      go_meet
      have hi : o.ins = false := HZ.out.2.2.symm
      have e1 : el = o.elem := by rw [HZ.out.2.1, hi]; rfl
      have e2 : s1 = s := by rw [HZ.out.1]; unfold insS; rw [hi]; rfl
      rw [e1, e2]
      exact ⟨rfl, HG.out.2.1, HG.out.1.mono (by omega)⟩
    | true =>
      have hi : o.ins = true := HZ.out.2.2.symm
      have hB : B ≤ w.heap.size := HF.out.2.2.2.1
      have hwo : whOk (o.obj, o.key, o.elem) := ⟨HF.out.2.1.obj, HF.out.2.1.key, HF.out.2.1.elem⟩
      obtain ⟨A, c, Di, hk1, hk2, hk3, hk4, hk5⟩ := HG.out.2.2.2.2.is.look hwo
      obtain ⟨l, hl⟩ : ∃ l, (s.kids (o.obj, o.key, o.elem)).getD [] = l := ⟨_, rfl⟩
      rw [hl] at hk1 hk2 hk5
      have hll : l.length ≤ 1000000 := by have := hk1.len; have := HF.out.2.2.2.2; omega
      obtain ⟨Wa, hWa⟩ : ∃ Wa, Wa = (W0.alloc (.cells #[.int .i64 n.1, .int .i64 n.2] 24)).drew := ⟨_, rfl⟩
      have hal : Below W0.heap.size W0 Wa := by rw [hWa]; exact ((Below.refl _ _).alloc (Nat.le_refl _) _).drew
      have hba : Below w.heap.size w Wa := HG.out.2.2.2.1.trans (hal.mono HG.out.2.2.2.1.size)
      have hma := own_only hk3 (Only.of_below (S := fun _ => False) hba) (fun h => h)
      have hsz : Maps.size Di < maxLen := by have := HF.out.2.2.2.2; unfold maxLen; omega
      obtain ⟨st, w4, hrE, hoE, hsE, hmE, hS⟩ := own_entry hma whLaw Tryz.underlying73 zeroIdsL (whMK.of_ _ hwo) hsz (hk2 Wa (Only.of_below hba))
      have hrE : (Instr.mapEntry 73 (.map (some ib)) (.agg #[.int .i64 o.obj.1, .int .i64 o.obj.2, .string o.key, .int .i64 o.elem.1, .int .i64 o.elem.2])).run Tryz.prog (W0.alloc (.cells #[.int .i64 n.1, .int .i64 n.2] 24)).drew = .ok (.tuple #[.slice A l.length c, .int .i64 st]) w4 := by rw [← hWa]; exact hrE
      have ho4 : Only (fun i => i = ib) w w4 := (Only.of_below hba).trans hoE
      have hr4 : KidRow w4 B N A c l := hk1.maps ho4 (fun i e => by have e : i = ib := e; subst e; exact own_isMapB hk3)
      have hgA : ∀ i, (Value.slice A l.length c).ownBlock = some i → i < w.heap.size ∧ B ≤ i ∧ IsIdB w i ∧ IsIdB w4 i := by
        intro i hi
        cases A with
        | none => cases hi
        | some a =>
          have hi : some a.block = some i := hi
          injection hi with hi
          subst hi
          obtain ⟨cur, h1, h2, _⟩ := hk1.cells rfl
          obtain ⟨cur4, h4, _⟩ := hr4.cells rfl
          exact ⟨(Array.getElem?_eq_some_iff.1 h1).1, h2, ⟨cur, h1⟩, ⟨cur4, h4⟩⟩
      have hibA : ¬ (Value.slice A l.length c).ownBlock = some ib := fun e => idB_noMap (hgA ib e).2.2.2 hmE
      have hlib : ib < w.heap.size := World.ownsMap.lt hk3
      have hs4 : w.heap.size ≤ w4.heap.size := ho4.size
      have hsl : SlAt w4 (some ⟨W0.heap.size, 0, none⟩) [.int .i64 n.1, .int .i64 n.2] := by
        have hB : Blk w4 W0.heap.size 24 #[.int .i64 n.1, .int .i64 n.2] := (show Blk Wa _ _ _ by rw [hWa]; exact (Blk.new W0 _ _).drewN 1).only hoE (fun e => by have e : W0.heap.size = ib := e; have := HG.out.2.2.2.1.size; omega)
        exact .inr ⟨_, 0, rfl, fun j u hu => by rw [Nat.zero_add, hB.cell]; simpa using hu⟩
      obtain ⟨A', c', w5, hrA, hrow5, ho5, hA'⟩ := id_push2 hr4.row hsl (by omega) hll
      obtain ⟨w6, hrS, hm6, ho6, hs6⟩ := hS w5 (.slice A' (l.length + 1) c') (ho5.block ib (by omega) hibA)
      have hrS : (Instr.entryStore 73 (.map (some ib)) (.int .i64 st) (.slice A' (l.length + 1) c')).run Tryz.prog w5 = .ok () w6 := hrS
      have ho5' : Only (fun i => (Value.slice A l.length c).ownBlock = some i ∨ i = ib) w w5 := (ho4.mono (fun _ _ e => .inr e)).trans (ho5.mono (fun _ _ e => .inl e))
      have ho6' : Only (fun i => (Value.slice A l.length c).ownBlock = some i ∨ i = ib) w w6 := ho5'.trans (ho6.mono (fun _ _ e => .inr e))
      have hm5 : IsMapB w5 ib := by obtain ⟨es, ck, h1⟩ := hmE; exact ⟨es, ck, (ho5.block ib (by omega) hibA).trans h1⟩
      have hBib : B ≤ ib := HG.out.1.ne2.2.2.2.2.2.2.2.1
      have hK6 : KidsM w6 B ib (N + 1) (upd s.kids (o.obj, o.key, o.elem) (some (l ++ [n]))) :=
        hk5 w5 w6 A' c' n HF.out.2.2.1 (by rw [show refs (l ++ [n]) = refs l ++ [.int .i64 n.1, .int .i64 n.2] by unfold refs; simp]; exact hrow5) ho5' hm5 (hA'.imp id (fun ⟨g, e, h⟩ => ⟨g, e, by omega⟩)) hm6 ho6
      have hD4 : DoB w B o pA pc n o.elem w4 := (HG.out.2.1.new hB hal).ins hB hoE (fun i e _ => by have e : i = ib := e; subst e; exact ⟨hlib, hBib, .inl (own_isMapB hma)⟩) HG.out.2.2.1
      have hD5 : DoB w B o pA pc n o.elem w5 := hD4.ins hB ho5 (fun i e _ => ⟨(hgA i e).1, (hgA i e).2.1, .inr (hgA i e).2.2.2⟩) HG.out.2.2.1
      have hD6 : DoB w B o pA pc n o.elem w6 := hD5.ins hB ho6 (fun i e _ => by have e : i = ib := e; subst e; exact ⟨hlib, hBib, .inl hm5⟩) HG.out.2.2.1
      have hsbk : ∀ W, Only (fun i => (Value.slice A l.length c).ownBlock = some i ∨ i = ib) w W → Blk W sb 76 #[.map (some kb), .map (some vb), .map (some ib), .map (some lb)] := fun W ho => HG.out.2.2.2.2.blk.only ho (fun e => by
        rcases e with e | e
        · exact idB_blk HG.out.2.2.2.2.blk (by decide) (hgA sb e).2.2.1
        · exact HG.out.1.ne2.2.2.2.2.1 e)
      have hpp : ∀ W, Only (fun i => (Value.slice A l.length c).ownBlock = some i ∨ i = ib) w W → DoB w B o pA pc n o.elem W → W.cell? ⟨sb, 2, none⟩ = some (.map (some ib)) ∧ W.cell? ⟨w.heap.size + 1 + 1, 0, none⟩ = some (.int .i64 o.obj.1) ∧ W.cell? ⟨w.heap.size + 1 + 1, 1, none⟩ = some (.int .i64 o.obj.2) ∧ W.cell? ⟨w.heap.size + 1 + 1, 2, none⟩ = some (.string o.key) ∧ W.cell? ⟨w.heap.size + 1 + 1, 3, none⟩ = some (.int .i64 o.elem.1) ∧ W.cell? ⟨w.heap.size + 1 + 1, 4, none⟩ = some (.int .i64 o.elem.2) ∧ W.cell? ⟨w.heap.size + 1, 0, none⟩ = some (.int .i64 n.1) ∧ W.cell? ⟨w.heap.size + 1, 1, none⟩ = some (.int .i64 n.2) := fun W ho hD => ⟨(hsbk W ho).cell 2, hD.wh.cell 0, hD.wh.cell 1, hD.wh.cell 2, hD.wh.cell 3, hD.wh.cell 4, hD.id.cell 0, hD.id.cell 1⟩
      have HK0 := Lib.hid (show ∀ W, Below W0.heap.size W0 W → W.cell? ⟨sb, 2, none⟩ = some (.map (some ib)) ∧ W.cell? ⟨w.heap.size + 1 + 1, 0, none⟩ = some (.int .i64 o.obj.1) ∧ W.cell? ⟨w.heap.size + 1 + 1, 1, none⟩ = some (.int .i64 o.obj.2) ∧ W.cell? ⟨w.heap.size + 1 + 1, 2, none⟩ = some (.string o.key) ∧ W.cell? ⟨w.heap.size + 1 + 1, 3, none⟩ = some (.int .i64 o.elem.1) ∧ W.cell? ⟨w.heap.size + 1 + 1, 4, none⟩ = some (.int .i64 o.elem.2) ∧ W.cell? ⟨w.heap.size + 1, 0, none⟩ = some (.int .i64 n.1) ∧ W.cell? ⟨w.heap.size + 1, 1, none⟩ = some (.int .i64 n.2) from fun W hW => hpp W (Only.of_below (HG.out.2.2.2.1.trans (hW.mono HG.out.2.2.2.1.size))) (HG.out.2.1.new hB hW))
      have HK4 := Lib.hid (hpp w4 (ho4.mono (fun _ _ e => .inr e)) hD4)
      have HK5 := Lib.hid (hpp w5 ho5' hD5)
      have HK6 := Lib.hid (hpp w6 ho6' hD6)
      have HI := Lib.hid (And.intro hK6 (And.intro hD6 (And.intro ho6' (And.intro hgA (And.intro hl (And.intro hi hlib))))))
      clear hK6 hD4 hD5 hD6 hsbk hpp ho4 ho5' ho6' ho5 ho6 hoE hsE hmE hm5 hm6 hs6 hS hrow5 hA' hsl hr4 hgA hibA hlib hs4 hk1 hk2 hk3 hk4 hk5 hma hsz hba hal hl hll hwo hi hB hBib hWa
      obtain ⟨b2, q0, q1, q2, q3, q4, r0, r1⟩ := HK0.out W0 (Below.refl _ _)
      obtain ⟨c2, d0, d1, d2, d3, d4, e0, e1⟩ := HK0.out (W0.alloc (.cells #[.int .i64 n.1, .int .i64 n.2] 24)) ((Below.refl _ _).alloc (Nat.le_refl _) _)
      obtain ⟨c2', d0', d1', d2', d3', d4', e0', e1'⟩ := HK0.out (W0.alloc (.cells #[.int .i64 n.1, .int .i64 n.2] 24)).drew ((Below.refl _ _).alloc (Nat.le_refl _) _).drew
      have HRN := Lib.hid hrA
      clear hrA
      go_upto_region 3 with (fail)
      go_region_law (refine step_append_run (o := ⟨some 30, _, _, _, _, _⟩) rfl _ _ _ _ rfl _ _ rfl rfl (HRN.out _) ?_)
      all_goals
        clear b2 q0 q1 q2 q3 q4 r0 r1 c2 d0 d1 d2 d3 d4 e0 e1 c2' d0' d1' d2' d3' d4' e0' e1' HRN hrE hrS HK0 HK4 HK5 HK6
        obtain ⟨Dl, l1, l2, l3⟩ := HG.out.2.2.2.2.ls
        have hlb : ¬ ((Value.slice A l.length c).ownBlock = some lb ∨ lb = ib) := fun e => by
          rcases e with e | e
          · exact idB_noMap (HI.out.2.2.2.1 lb e).2.2.1 (own_isMapB l1)
          · exact HG.out.1.ne2.2.2.2.2.2.2.1 e.symm
        have hlm6 := own_only l1 HI.out.2.2.1 hlb
        have hom : w6.drew.ownsMap Tryz.prog 24 anyElem lb (Maps.size Dl) Dl := hlm6
        have hsz : Maps.size Dl < maxLen := by have := HF.out.2.2.2.2; unfold maxLen; omega
        have b3 : w6.cell? ⟨sb, 3, none⟩ = some (.map (some lb)) := (HG.out.2.2.2.2.blk.only HI.out.2.2.1 (fun e => by
          rcases e with e | e
          · exact idB_blk HG.out.2.2.2.2.blk (by decide) (HI.out.2.2.2.1 sb e).2.2.1
          · exact HG.out.1.ne2.2.2.2.2.1 e)).cell 3
        have r0 : w6.cell? ⟨w.heap.size + 1, 0, none⟩ = some (.int .i64 n.1) := HI.out.2.1.id.cell 0
        have r1 : w6.cell? ⟨w.heap.size + 1, 1, none⟩ = some (.int .i64 n.2) := HI.out.2.1.id.cell 1
        have o1 : w6.cell? ⟨w.heap.size, 1, none⟩ = some (.int .i64 o.obj.1) := HI.out.2.1.op.cell 1
        have o2 : w6.cell? ⟨w.heap.size, 2, none⟩ = some (.int .i64 o.obj.2) := HI.out.2.1.op.cell 2
        have HL := Lib.hid (And.intro l1 (And.intro l2 (And.intro l3 (And.intro hlb hlm6))))
        clear l1 l2 l3 hlb hlm6
        go_upto_region 4 with (fail)
        go_still_tail 7, (by kernel_rfl)
        change wpList _ _ _ _ _ w6.drew
        refine wpList_upd _ rfl _ _ _ 74 rfl 24 24 pairId Tryz.underlying74 lb _ Dl rfl hom hsz n rfl HF.out.2.2.1 (refV o.obj) rfl ?_
        intro w8 hm8 ho8 hs8
        have ho68 : Only (fun i => i = lb) w6 w8 := ((Only.refl (fun i => i = lb) w6).drew).trans ho8
        have hD8 : DoB w B o pA pc n o.elem w8 := HI.out.2.1.maps HF.out.2.2.2.1 ho68 (fun i e => by
          have e : i = lb := e
          subst e
          exact ⟨own_isMapB HL.out.2.2.2.2, HG.out.1.ne2.2.2.2.2.2.2.2.2⟩)
        have hK8 : KidsM w8 B ib (N + 1) (upd s.kids (o.obj, o.key, o.elem) (some (l ++ [n]))) := HI.out.1.only ho68 (fun e => HG.out.1.ne2.2.2.2.2.2.2.1 e) (fun i e => by
          have e : i = lb := e
          subst e
          exact own_isMapB HL.out.2.2.2.2)
        have hL8 : ListsM w8 lb (N + 1) (upd s.lists n (some o.obj)) := ListsM.put HL.out.2.2.2.2 HL.out.2.1 HL.out.2.2.1 HF.out.2.2.1 hm8
        have H8 := Lib.hid (And.intro hD8 (And.intro hK8 (And.intro hL8 ho68)))
        have r0 : w8.cell? ⟨w.heap.size + 1, 0, none⟩ = some (.int .i64 n.1) := hD8.id.cell 0
        have r1 : w8.cell? ⟨w.heap.size + 1, 1, none⟩ = some (.int .i64 n.2) := hD8.id.cell 1
        have z3 := hD8.wh.frozen 3
        have z4 := hD8.wh.frozen 4
        have x3 : w8.cell? ⟨w.heap.size + 1 + 1, 3, none⟩ = some (.int .i64 o.elem.1) := hD8.wh.cell 3
        have x4 : w8.cell? ⟨w.heap.size + 1 + 1, 4, none⟩ = some (.int .i64 o.elem.2) := hD8.wh.cell 4
        clear hm8 ho8 hs8 ho68 hD8 hK8 hL8 hom hsz b3 o1 o2
        go_wp2_with fail
        go_meet
        refine ⟨rfl, ?_, ?_⟩
        · rw [HZ.out.2.1, HI.out.2.2.2.2.2.1]
          exact H8.out.1.elem HF.out.2.2.2.1 HG.out.2.2.1 n
        · have e2 : s1 = { s with kids := upd s.kids (o.obj, o.key, o.elem) (some (l ++ [n])), lists := upd s.lists n (some o.obj) } := by rw [HZ.out.1]; unfold insS; rw [HI.out.2.2.2.2.2.1, HI.out.2.2.2.2.1]; rfl
          have hoW : Only (fun i => i = w.heap.size + 1 + 1) w8 ((w8.setCell ⟨w.heap.size + 1 + 1, 3, none⟩ (.int .i64 n.1)).setCell ⟨w.heap.size + 1 + 1, 4, none⟩ (.int .i64 n.2)) := Only.setCell (S := fun k => k = w.heap.size + 1 + 1) (Only.setCell (S := fun k => k = w.heap.size + 1 + 1) (Only.refl _ w8) (p := ⟨w.heap.size + 1 + 1, 3, none⟩) rfl _) (p := ⟨w.heap.size + 1 + 1, 4, none⟩) rfl _
          have hwm : w.heap.size + 3 ≤ w8.heap.size := H8.out.1.size
          have hoA : Only (fun i => (i = ib ∨ i = lb ∨ (Value.slice A l.length c).ownBlock = some i) ∨ i = w.heap.size + 1 + 1) w ((w8.setCell ⟨w.heap.size + 1 + 1, 3, none⟩ (.int .i64 n.1)).setCell ⟨w.heap.size + 1 + 1, 4, none⟩ (.int .i64 n.2)) := ((HI.out.2.2.1.mono (fun k _ e => by rcases e with e | e; exact .inl (.inr (.inr e)); exact .inl (.inl e))).trans (H8.out.2.2.2.mono (fun k _ e => .inl (.inr (.inl e))))).trans (hoW.mono (fun k _ e => .inr e))
          have hbW : Blk w8 (w.heap.size + 1 + 1) 109 _ := H8.out.1.wh
          rw [e2]
          refine StM.ins HG.out.2.2.2.2 (S := fun i => i = ib ∨ i = lb ∨ (Value.slice A l.length c).ownBlock = some i) (hoA.mono (fun k hk e => e.resolve_right (by omega))) (fun i e => by
            rcases e with e | e | e
            · exact .inl e
            · exact .inr (.inl e)
            · exact .inr (.inr (HI.out.2.2.2.1 i e).2.2.1)) (H8.out.2.1.only2 hoW (fun e => by have e : ib = w.heap.size + 1 + 1 := e; have := HI.out.2.2.2.2.2.2; omega) (fun i e => by have e : i = w.heap.size + 1 + 1 := e; subst e; exact idB_blk hbW (by decide))) (H8.out.2.2.1.only hoW (fun e => by have e : lb = w.heap.size + 1 + 1 := e; have := World.ownsMap.lt HL.out.1; omega))
  case rest =>
  obtain ⟨rfl, hDc, hSc⟩ := hcut

  have HH := Lib.hid (And.intro hSc (And.intro hDc HF.out))
  clear hSc hDc
  obtain ⟨M, hM⟩ : ∃ M, M = N + 1 := ⟨_, rfl⟩
  rw [← hM] at HH
  obtain ⟨W0, hW0⟩ : ∃ W0, W0 = wc := ⟨_, rfl⟩
  rw [← hW0] at HH ⊢
  clear hW0
  go_upto_region 6 with (fail)
  obtain ⟨r, hlk, hcase⟩ : ∃ r : Option Nat, (∀ w1, Only (fun i => i ≠ vb) W0 w1 → (Instr.lookup 72 (.map (some vb)) (whV x) false).run Tryz.prog w1 = .ok (.map r) w1) ∧
      ((∃ m f, r = some m ∧ s1.vals x = some f) ∨ (r = none ∧ s1.vals x = none)) := by
    cases hv : s1.vals x with
    | some f =>
      obtain ⟨m, m1, m2, m3, m4, m5, m6, m7⟩ := HH.out.1.val hv HH.out.2.2.1
      exact ⟨some m, m6, .inl ⟨m, f, rfl, rfl⟩⟩
    | none => exact ⟨none, (HH.out.1.fresh hv HH.out.2.2.1).1, .inr ⟨rfl, rfl⟩⟩
  have hS : ∀ w', Below W0.heap.size W0 w' → w'.cell? ⟨sb, 1, none⟩ = some (.map (some vb)) ∧ w'.cell? ⟨w.heap.size + 1 + 1, 0, none⟩ = some (.int .i64 o.obj.1) ∧ w'.cell? ⟨w.heap.size + 1 + 1, 1, none⟩ = some (.int .i64 o.obj.2) ∧ w'.cell? ⟨w.heap.size + 1 + 1, 2, none⟩ = some (.string o.key) ∧ w'.cell? ⟨w.heap.size + 1 + 1, 3, none⟩ = some (.int .i64 el.1) ∧ w'.cell? ⟨w.heap.size + 1 + 1, 4, none⟩ = some (.int .i64 el.2) ∧ (Instr.lookup 72 (.map (some vb)) (.agg #[.int .i64 o.obj.1, .int .i64 o.obj.2, .string o.key, .int .i64 el.1, .int .i64 el.2]) false).run Tryz.prog w' = .ok (.map r) w' := fun w' hW => by
    have h1 := (HH.out.1).below hW
    have h2 := (HH.out.2.1).wh.below hW (HH.out.2.1).wh.lt
    refine ⟨h1.blk.cell 1, h2.cell 0, h2.cell 1, h2.cell 2, h2.cell 3, h2.cell 4, ?_⟩
    have := hlk w' (Only.of_below hW)
    rw [HX.out] at this
    exact this
  have HKS := Lib.hid hS
  have HC := Lib.hid hcase
  clear hlk hcase hS
  obtain ⟨b1, w0, w1, w2, w3, w4, hq⟩ := HKS.out W0 (Below.refl _ _)
  go_region_held3 (fun w' => w'.cell? ⟨sb, 1, none⟩ = some (.map (some vb)) ∧ w'.cell? ⟨w.heap.size + 1 + 1, 0, none⟩ = some (.int .i64 o.obj.1) ∧ w'.cell? ⟨w.heap.size + 1 + 1, 1, none⟩ = some (.int .i64 o.obj.2) ∧ w'.cell? ⟨w.heap.size + 1 + 1, 2, none⟩ = some (.string o.key) ∧ w'.cell? ⟨w.heap.size + 1 + 1, 3, none⟩ = some (.int .i64 el.1) ∧ w'.cell? ⟨w.heap.size + 1 + 1, 4, none⟩ = some (.int .i64 el.2) ∧ (Instr.lookup 72 (.map (some vb)) (.agg #[.int .i64 o.obj.1, .int .i64 o.obj.2, .string o.key, .int .i64 el.1, .int .i64 el.2]) false).run Tryz.prog w' = .ok (.map r) w') (first | (with_reducible exact HKS.out _ (Below.refl _ W0).drew) | go_keep) (first | fail)
  obtain ⟨W1, hW1⟩ : ∃ W1, W1 = W0.drew := ⟨_, rfl⟩
  have hb1 : Below W0.heap.size W0 W1 := by rw [hW1]; exact (Below.refl _ _).drew
  have hs1 : W1.heap.size = W0.heap.size := by rw [hW1]; rfl
  have HB1 := Lib.hid (And.intro hb1 hs1)
  rw [← hW1]
  clear b1 w0 w1 w2 w3 w4 hq hW1 hb1 hs1
  go_upto_if 47 with (fail)
  go_cut [6] from 48 to 53 (fun s6 wx => s6 = .pointer (some ⟨w.heap.size + 1 + 1, 0, none⟩) ∧ DoX w B sb kb vb ib lb (M + 1) s1 o pA pc n el (s1.mv x) wx)
  case first =>
    cases r with
    | some m =>
      obtain ⟨f, HV⟩ : ∃ f, Hid (s1.vals x = some f) := by
        rcases HC.out with ⟨m', f, h1, h2⟩ | ⟨h1, h2⟩
        · exact ⟨f, Lib.hid h2⟩
        · cases h1
      go_wp2_with fail
      go_meet
      refine ⟨rfl, HH.out.2.1.new HH.out.2.2.2.2.2.1 HB1.out.1, ?_⟩
      have e1 : s1.mv x = f := by unfold Sta.mv; rw [HV.out]; rfl
      rw [e1, ← HX.out, ← HV.out, upd_self]
      exact (HH.out.1.below HB1.out.1).mono (by omega)
    | none =>
      have HV0 : Hid (s1.vals x = none) := by
        rcases HC.out with ⟨m', f, h1, h2⟩ | ⟨h1, h2⟩
        · cases h1
        · exact Lib.hid h2
      obtain ⟨_, Dv, m1, m2, m7⟩ := (HH.out.1.below HB1.out.1).fresh HV0.out HH.out.2.2.1
      have HV := Lib.hid (And.intro m1 (And.intro m2 m7))
      clear m1 m2 m7
      have hkb : ∀ w', Below W1.heap.size W1 w' → w'.cell? ⟨sb, 1, none⟩ = some (.map (some vb)) ∧ w'.cell? ⟨w.heap.size + 1 + 1, 0, none⟩ = some (.int .i64 o.obj.1) ∧ w'.cell? ⟨w.heap.size + 1 + 1, 1, none⟩ = some (.int .i64 o.obj.2) ∧ w'.cell? ⟨w.heap.size + 1 + 1, 2, none⟩ = some (.string o.key) ∧ w'.cell? ⟨w.heap.size + 1 + 1, 3, none⟩ = some (.int .i64 el.1) ∧ w'.cell? ⟨w.heap.size + 1 + 1, 4, none⟩ = some (.int .i64 el.2) := fun w' hW => by
        obtain ⟨b1, w0, w1, w2, w3, w4, hq⟩ := HKS.out w' (HB1.out.1.trans (hW.mono HB1.out.1.size))
        exact ⟨b1, w0, w1, w2, w3, w4⟩
      have HKB := Lib.hid hkb
      obtain ⟨b1, w0, w1, w2, w3, w4⟩ := hkb W1 (Below.refl _ _)
      clear hkb
      have hxo : whOk (o.obj, o.key, el) := by rw [← HX.out]; exact HH.out.2.2.1
      have hov : ((W1.alloc (.map #[] 0)).drew).ownsMap Tryz.prog 109 anyElem vb (Maps.size Dv) Dv := own_only HV.out.1 ((Only.refl (fun _ => False) W1).alloc _).drew (fun h => h)
      have hsz : Maps.size Dv < maxLen := by have := HV.out.2.1; have := HH.out.2.2.2.2.2.2; unfold maxLen; omega
      go_upto_region 7 with (fail)
      obtain ⟨w4, hrun, hm4, ho4, hs4⟩ := kstore whMK hov Tryz.underlying72 hsz hxo (.map (some W1.heap.size))
      have hrun : (Instr.mapUpdate 72 (.map (some vb)) (.agg #[.int .i64 o.obj.1, .int .i64 o.obj.2, .string o.key, .int .i64 el.1, .int .i64 el.2]) (.map (some W1.heap.size))).run Tryz.prog (W1.alloc (.map #[] 0)).drew = .ok () w4 := hrun
      have hal : Below W1.heap.size W1 (W1.alloc (.map #[] 0)).drew := ((Below.refl _ _).alloc (Nat.le_refl _) _).drew
      have hD4 : DoB w B o pA pc n el w4 := ((HH.out.2.1.new HH.out.2.2.2.2.2.1 HB1.out.1).new HH.out.2.2.2.2.2.1 hal).maps HH.out.2.2.2.2.2.1 ho4 (fun i e => by
        have e : i = vb := e
        subst e
        exact ⟨own_isMapB (own_only HV.out.1 (S := fun _ => False) (Only.of_below hal) (fun h => h)), HH.out.1.low.2.2⟩)
      have hb4 := (((HH.out.1.below HB1.out.1).below hal).blk).only ho4 HH.out.1.ne.2.1
      have HK4 := Lib.hid (show w4.cell? ⟨sb, 1, none⟩ = some (.map (some vb)) ∧ w4.cell? ⟨w.heap.size + 1 + 1, 0, none⟩ = some (.int .i64 o.obj.1) ∧ w4.cell? ⟨w.heap.size + 1 + 1, 1, none⟩ = some (.int .i64 o.obj.2) ∧ w4.cell? ⟨w.heap.size + 1 + 1, 2, none⟩ = some (.string o.key) ∧ w4.cell? ⟨w.heap.size + 1 + 1, 3, none⟩ = some (.int .i64 el.1) ∧ w4.cell? ⟨w.heap.size + 1 + 1, 4, none⟩ = some (.int .i64 el.2) from ⟨hb4.cell 1, hD4.wh.cell 0, hD4.wh.cell 1, hD4.wh.cell 2, hD4.wh.cell 3, hD4.wh.cell 4⟩)
      have H4 := Lib.hid (And.intro hm4 (And.intro ho4 (And.intro hD4 hal)))
      clear hm4 ho4 hs4 hov hsz hxo hal hD4 hb4
      go_region_held3 (fun w' => w'.cell? ⟨sb, 1, none⟩ = some (.map (some vb)) ∧ w'.cell? ⟨w.heap.size + 1 + 1, 0, none⟩ = some (.int .i64 o.obj.1) ∧ w'.cell? ⟨w.heap.size + 1 + 1, 1, none⟩ = some (.int .i64 o.obj.2) ∧ w'.cell? ⟨w.heap.size + 1 + 1, 2, none⟩ = some (.string o.key) ∧ w'.cell? ⟨w.heap.size + 1 + 1, 3, none⟩ = some (.int .i64 el.1) ∧ w'.cell? ⟨w.heap.size + 1 + 1, 4, none⟩ = some (.int .i64 el.2)) (first | (with_reducible exact (HKB.out _ (Below.refl _ W1).drew)) | (with_reducible exact (HKB.out _ ((Below.refl _ W1).alloc (Nat.le_refl _) _).drew)) | (with_reducible exact HK4.out) | go_keep) (first | fail)
      all_goals
        go_wp2_with fail
        go_meet
        refine ⟨rfl, H4.out.2.2.1, ?_⟩
        have e1 : s1.mv x = fun _ => none := by unfold Sta.mv; rw [HV0.out]; rfl
        rw [e1, ← HX.out]
        refine HV.out.2.2 (W1.alloc (.map #[] 0)).drew w4 W1.heap.size H4.out.2.2.2 (Nat.le_refl _) (VmAt.below (vm_none W1 (M + 1)) (Below.refl _ _).drew) ?_ H4.out.2.1 (Nat.le_trans HH.out.2.2.2.2.2.1 (Nat.le_trans (by omega) (HH.out.2.1.new HH.out.2.2.2.2.2.1 HB1.out.1).size))
        rw [HX.out]
        exact H4.out.1
  case rest =>
    obtain ⟨rfl, hX⟩ := hcut
    have HX1 := Lib.hid hX
    have hxo : whOk x := HH.out.2.2.1
    have HXO := Lib.hid hxo
    clear hX hxo
    have q12 : wc.cell? ⟨w.heap.size, 12, none⟩ = some (.slice pA o.preds.length pc) := HX1.out.b.op.cell 12
    go_wp2_with fail
    clear q12
    go_loopw [57, 8, 9, 10] (fun iv _ _ _ wr => ∃ j : Nat, iv = .int .i64 j ∧ j ≤ o.preds.length ∧ DoX w B sb kb vb ib lb (M + 1 + j) s1 o pA pc n el ((o.preds.take j).foldl (predDo o) (s1.mv x)) wr) (fun iv _ _ _ _ => o.preds.length - (intOf iv).toNat)
    case atStart => exact ⟨0, rfl, Nat.zero_le _, HX1.out⟩
    case round =>
      obtain ⟨j, rfl, hj, hI⟩ := hrel
      by_cases hlt : j < o.preds.length
      · obtain ⟨b, off, d, ha, hd, hx, hy⟩ := hI.b.preds.ref hlt
        have hdi : I2 d := HH.out.2.2.2.1.preds d (List.mem_of_getElem? hd)
        have hfold := foldl_take (predDo o) (s1.mv x) hd
        obtain ⟨f, hff⟩ : ∃ f, (o.preds.take j).foldl (predDo o) (s1.mv x) = f := ⟨_, rfl⟩
        rw [hff] at hI hfold
        obtain ⟨W5, hW5⟩ : ∃ W5, W5 = wr.alloc (.cells #[.int .i64 d.1, .int .i64 d.2] 24) := ⟨_, rfl⟩
        have hb5 : Below wr.heap.size wr W5 := by rw [hW5]; exact (Below.refl _ _).alloc (Nat.le_refl _) _
        have hR5 : Blk W5 wr.heap.size 24 #[.int .i64 d.1, .int .i64 d.2] := by rw [hW5]; exact Blk.new _ _ _
        have hD5 := hI.b.new HH.out.2.2.2.2.2.1 hb5
        have hS5 := hI.st.below hb5
        obtain ⟨m, ⟨Dm, g1, g2, g3⟩, m3, m4, m5, m6, m7, m8⟩ := hS5.val (x := x) (f := f) (by rw [HX.out]; exact upd_same _ _ _) HXO.out
        have hS : ∀ w', Below W5.heap.size W5 w' → w'.cell? ⟨sb, 1, none⟩ = some (.map (some vb)) ∧ w'.cell? ⟨w.heap.size + 1 + 1, 0, none⟩ = some (.int .i64 o.obj.1) ∧ w'.cell? ⟨w.heap.size + 1 + 1, 1, none⟩ = some (.int .i64 o.obj.2) ∧ w'.cell? ⟨w.heap.size + 1 + 1, 2, none⟩ = some (.string o.key) ∧ w'.cell? ⟨w.heap.size + 1 + 1, 3, none⟩ = some (.int .i64 el.1) ∧ w'.cell? ⟨w.heap.size + 1 + 1, 4, none⟩ = some (.int .i64 el.2) ∧ (Instr.lookup 72 (.map (some vb)) (.agg #[.int .i64 o.obj.1, .int .i64 o.obj.2, .string o.key, .int .i64 el.1, .int .i64 el.2]) false).run Tryz.prog w' = .ok (.map (some m)) w' := fun w' hW => by
          have h1 := (hS5).below hW
          have h2 := (hD5).wh.below hW (hD5).wh.lt
          refine ⟨h1.blk.cell 1, h2.cell 0, h2.cell 1, h2.cell 2, h2.cell 3, h2.cell 4, ?_⟩
          have := m7 w' (Only.of_below hW)
          rw [HX.out] at this
          exact this
        have HKS := Lib.hid hS
        have HAA := Lib.hid ha
        have H5 := Lib.hid (And.intro hD5 (And.intro hS5 (And.intro hR5 (And.intro hdi (And.intro (And.intro g1 (And.intro g2 g3)) (And.intro (And.intro m3 (And.intro m4 (And.intro m5 m6))) (And.intro m8 hfold)))))))
        have q0 : W5.cell? ⟨w.heap.size, 0, none⟩ = some (.int .i64 o.kind) := hD5.op.cell 0
        clear hI hd hdi hff hfold hb5 hR5 hD5 hS5 g1 g2 g3 m3 m4 m5 m6 m7 m8 hS
        rw [ha]
        clear ha
        go_upto_region 11 with (fail)
        rw [← hW5]
        clear hW5 hx hy
        cases hk : (o.kind == 4) with
        | false =>
          have hk4 : ¬ o.kind = 4 := by simpa using hk
          have hkn : (o.kind != 4) = true := by rw [bne, hk]; rfl
          go_upto_region 12 with (fail)
          clear q0
          obtain ⟨b1, w0, w1, w2, w3, w4, hq0⟩ := HKS.out W5 (Below.refl _ _)
          have hq : (Instr.lookup 72 (.map (some vb)) (.agg #[.int .i64 o.obj.1, .int .i64 o.obj.2, .string o.key, .int .i64 el.1, .int .i64 el.2]) false).run Tryz.prog W5.drew = .ok (.map (some m)) W5.drew := (HKS.out W5.drew (Below.refl _ _).drew).2.2.2.2.2.2
          have r0 : W5.cell? ⟨wr.heap.size, 0, none⟩ = some (.int .i64 d.1) := H5.out.2.2.1.cell 0
          have r1 : W5.cell? ⟨wr.heap.size, 1, none⟩ = some (.int .i64 d.2) := H5.out.2.2.1.cell 1
          clear hq0
          go_still_tail 7, (by kernel_rfl)
          change wpList _ _ _ _ _ W5.drew
          refine wpList_del _ rfl _ _ 110 24 rfl 31 pairId Tryz.underlying110 m _ Dm rfl (show W5.drew.ownsMap Tryz.prog 24 anyElem m (Maps.size Dm) Dm from H5.out.2.2.2.2.1.1) d rfl H5.out.2.2.2.1 ?_
          intro W9 hm9 ho9 hs9
          have hD9 : DoB w B o pA pc n el W9 := (H5.out.1.new HH.out.2.2.2.2.2.1 (Below.refl _ _).drew).maps HH.out.2.2.2.2.2.1 ho9 (fun i e => by
            have e : i = m := e
            subst e
            exact ⟨own_isMapB (show W5.drew.ownsMap Tryz.prog 24 anyElem _ _ _ from H5.out.2.2.2.2.1.1), H5.out.2.2.2.2.2.1.1⟩)
          have hS9 := H5.out.2.2.2.2.2.2.1 W9 (upd f d none) (((Only.refl (fun i => i = m) W5).drew).trans ho9) (vm_del H5.out.2.2.2.2.1.1 H5.out.2.2.2.2.1.2.1 H5.out.2.2.2.2.1.2.2 H5.out.2.2.2.1 hm9 H5.out.2.2.2.2.1.2.2)
          have hp : predDo o f d = upd f d none := by unfold predDo; rw [if_neg hk4]
          have hX9 : DoX w B sb kb vb ib lb (M + 1 + (j + 1)) s1 o pA pc n el ((o.preds.take (j + 1)).foldl (predDo o) (s1.mv x)) W9 := by
            refine ⟨hD9, ?_⟩
            rw [H5.out.2.2.2.2.2.2.2, hp]
            rw [HX.out] at hS9
            have e2 := upd_upd s1.vals (o.obj, o.key, el) (some f) (some (upd f d none))
            simp only [e2] at hS9
            exact hS9
          have HX9 := Lib.hid hX9
          clear hm9 ho9 hs9 hD9 hS9 hp hX9 b1 w0 w1 w2 w3 w4 hq r0 r1
          go_wp2_with fail
          exact ⟨⟨j + 1, by push_cast; rfl, by omega, by rw [← HAA.out]; exact HX9.out⟩, by simp [intOf]; omega⟩
        | true =>
          have hk4 : o.kind = 4 := by simpa using hk
          have hkn : (o.kind != 4) = false := by rw [bne, hk]; rfl
          obtain ⟨v, z, hv, hz, hvz⟩ : ∃ (v : JV) (z : Bool), (mget Dm d).getD (jvV zJV) = jvV v ∧ (mget Dm d).isSome = z ∧ ((z = false ∧ f d = none) ∨ (z = true ∧ f d = some v)) := by
            rw [H5.out.2.2.2.2.1.2.1 d H5.out.2.2.2.1]
            cases e : f d with
            | none => exact ⟨zJV, false, rfl, rfl, .inl ⟨rfl, rfl⟩⟩
            | some v => exact ⟨v, true, rfl, rfl, .inr ⟨rfl, rfl⟩⟩
          have hS2 : ∀ w', Below W5.heap.size W5 w' → w'.cell? ⟨sb, 1, none⟩ = some (.map (some vb)) ∧ w'.cell? ⟨w.heap.size + 1 + 1, 0, none⟩ = some (.int .i64 o.obj.1) ∧ w'.cell? ⟨w.heap.size + 1 + 1, 1, none⟩ = some (.int .i64 o.obj.2) ∧ w'.cell? ⟨w.heap.size + 1 + 1, 2, none⟩ = some (.string o.key) ∧ w'.cell? ⟨w.heap.size + 1 + 1, 3, none⟩ = some (.int .i64 el.1) ∧ w'.cell? ⟨w.heap.size + 1 + 1, 4, none⟩ = some (.int .i64 el.2) ∧ (Instr.lookup 72 (.map (some vb)) (.agg #[.int .i64 o.obj.1, .int .i64 o.obj.2, .string o.key, .int .i64 el.1, .int .i64 el.2]) false).run Tryz.prog w' = .ok (.map (some m)) w' ∧ w'.cell? ⟨wr.heap.size, 0, none⟩ = some (.int .i64 d.1) ∧ w'.cell? ⟨wr.heap.size, 1, none⟩ = some (.int .i64 d.2) ∧ (Instr.lookup 110 (.map (some m)) (.agg #[.int .i64 d.1, .int .i64 d.2]) true).run Tryz.prog w' = .ok (.tuple #[.agg #[.int .i64 v.k, .int .i64 v.n, .string v.s, .int .i64 v.o, .int .i64 v.p], .bool z]) w' := fun w' hW => by
            obtain ⟨b1, w0, w1, w2, w3, w4, hq⟩ := HKS.out w' hW
            have hR := H5.out.2.2.1.below hW H5.out.2.2.1.lt
            refine ⟨b1, w0, w1, w2, w3, w4, hq, hR.cell 0, hR.cell 1, ?_⟩
            have := run_look_ok pairId (w := w') (own_only H5.out.2.2.2.2.1.1 (S := fun _ => False) (Only.of_below hW) (fun h => h)) Tryz.underlying110 (zeroVal _) H5.out.2.2.2.1
            rw [hv, hz] at this
            exact this
          have HK2 := Lib.hid hS2
          have HVZ := Lib.hid (And.intro hvz hk4)
          clear hv hz hvz hS2
          go_upto_region 13 with (fail)
          clear q0 hkn hk hk4
          obtain ⟨b1, w0, w1, w2, w3, w4, hq, r0, r1, hq2⟩ := HK2.out W5 (Below.refl _ _)
          go_region_held3 (fun w' => w'.cell? ⟨sb, 1, none⟩ = some (.map (some vb)) ∧ w'.cell? ⟨w.heap.size + 1 + 1, 0, none⟩ = some (.int .i64 o.obj.1) ∧ w'.cell? ⟨w.heap.size + 1 + 1, 1, none⟩ = some (.int .i64 o.obj.2) ∧ w'.cell? ⟨w.heap.size + 1 + 1, 2, none⟩ = some (.string o.key) ∧ w'.cell? ⟨w.heap.size + 1 + 1, 3, none⟩ = some (.int .i64 el.1) ∧ w'.cell? ⟨w.heap.size + 1 + 1, 4, none⟩ = some (.int .i64 el.2) ∧ (Instr.lookup 72 (.map (some vb)) (.agg #[.int .i64 o.obj.1, .int .i64 o.obj.2, .string o.key, .int .i64 el.1, .int .i64 el.2]) false).run Tryz.prog w' = .ok (.map (some m)) w' ∧ w'.cell? ⟨wr.heap.size, 0, none⟩ = some (.int .i64 d.1) ∧ w'.cell? ⟨wr.heap.size, 1, none⟩ = some (.int .i64 d.2) ∧ (Instr.lookup 110 (.map (some m)) (.agg #[.int .i64 d.1, .int .i64 d.2]) true).run Tryz.prog w' = .ok (.tuple #[.agg #[.int .i64 v.k, .int .i64 v.n, .string v.s, .int .i64 v.o, .int .i64 v.p], .bool z]) w') (first | (with_reducible exact HK2.out _ (Below.refl _ W5).drew) | (with_reducible exact HK2.out _ ((Below.refl _ W5).alloc (Nat.le_refl _) _).drew) | go_keep) (first | fail)
          all_goals
            obtain ⟨W6, hW6⟩ : ∃ W6, W6 = (W5.alloc (.cells #[.int .i64 v.k, .int .i64 v.n, .string v.s, .int .i64 v.o, .int .i64 v.p] 31)).drew := ⟨_, rfl⟩
            have hb6 : Below W5.heap.size W5 W6 := by rw [hW6]; exact ((Below.refl _ _).alloc (Nat.le_refl _) _).drew
            have hv6 : Blk W6 W5.heap.size 31 #[.int .i64 v.k, .int .i64 v.n, .string v.s, .int .i64 v.o, .int .i64 v.p] := by rw [hW6]; exact (Blk.new W5 _ _).drewN 1
            rw [← hW6]
            have hD6 := H5.out.1.new HH.out.2.2.2.2.2.1 hb6
            have hS6 := H5.out.2.1.below hb6
            have H6 := Lib.hid (And.intro hb6 (And.intro hv6 (And.intro hD6 hS6)))
            clear hW6 hb6 hv6 hD6 hS6 b1 w0 w1 w2 w3 w4 hq r0 r1 hq2
            cases z with
            | false =>
              have hX9 : DoX w B sb kb vb ib lb (M + 1 + (j + 1)) s1 o pA pc n el ((o.preds.take (j + 1)).foldl (predDo o) (s1.mv x)) W6 := by
                refine ⟨H6.out.2.2.1, ?_⟩
                have hfd : f d = none := by
                  rcases HVZ.out.1 with ⟨h1, h2⟩ | ⟨h1, h2⟩
                  · exact h2
                  · cases h1
                have hp : predDo o f d = f := by unfold predDo; rw [if_pos HVZ.out.2, hfd]
                rw [H5.out.2.2.2.2.2.2.2, hp]
                exact H6.out.2.2.2.mono (by omega)
              have HX9 := Lib.hid hX9
              clear hX9
              go_wp2_with fail
              exact ⟨⟨j + 1, by push_cast; rfl, by omega, by rw [← HAA.out]; exact HX9.out⟩, by simp [intOf]; omega⟩
            | true =>
              have v1 : W6.cell? ⟨W5.heap.size, 1, none⟩ = some (.int .i64 v.n) := H6.out.2.1.cell 1
              have z1 := H6.out.2.1.frozen 1
              have q8 : W6.cell? ⟨w.heap.size, 8, none⟩ = some (.int .i64 o.val.n) := H6.out.2.2.1.op.cell 8
              obtain ⟨nn, hnn⟩ : ∃ nn, IntKind.i64.wrap (v.n + o.val.n) = nn := ⟨_, rfl⟩
              have HNN := Lib.hid hnn
              go_upto_region 16 with (fail)
              clear v1 z1 q8 hnn
              obtain ⟨v', hv'⟩ : ∃ v' : JV, v' = { v with n := nn } := ⟨_, rfl⟩
              obtain ⟨W7, hW7⟩ : ∃ W7, W7 = W6.setCell ⟨W5.heap.size, 1, none⟩ (.int .i64 nn) := ⟨_, rfl⟩
              rw [← hW7]
              have ho7 : Only (fun i => i = W5.heap.size) W6 W7 := by rw [hW7]; exact Only.setCell (S := fun k => k = W5.heap.size) (Only.refl _ W6) (p := ⟨W5.heap.size, 1, none⟩) rfl _
              have hv7 : Blk W7 W5.heap.size 31 #[.int .i64 v'.k, .int .i64 v'.n, .string v'.s, .int .i64 v'.o, .int .i64 v'.p] := by
                rw [hW7, hv']
                have := H6.out.2.1.set_ 1 (.int .i64 nn)
                simpa using this
              have hb7 : Below W5.heap.size W5 W7 := H6.out.1.trans (ho7.below H6.out.1.size (fun k hk e => by have : k = W5.heap.size := e; omega))
              have H7 := Lib.hid (And.intro hb7 (And.intro hv7 hv'))
              clear hW7 ho7 hv7 hb7 hv'
              obtain ⟨b1, w0, w1, w2, w3, w4, hq0, r0, r1, hq2⟩ := HK2.out W7 H7.out.1
              have hq : (Instr.lookup 72 (.map (some vb)) (.agg #[.int .i64 o.obj.1, .int .i64 o.obj.2, .string o.key, .int .i64 el.1, .int .i64 el.2]) false).run Tryz.prog W7.drew = .ok (.map (some m)) W7.drew := (HKS.out W7.drew H7.out.1.drew).2.2.2.2.2.2
              have x0 : W7.cell? ⟨W5.heap.size, 0, none⟩ = some (.int .i64 v'.k) := H7.out.2.1.cell 0
              have x1 : W7.cell? ⟨W5.heap.size, 1, none⟩ = some (.int .i64 v'.n) := H7.out.2.1.cell 1
              have x2 : W7.cell? ⟨W5.heap.size, 2, none⟩ = some (.string v'.s) := H7.out.2.1.cell 2
              have x3 : W7.cell? ⟨W5.heap.size, 3, none⟩ = some (.int .i64 v'.o) := H7.out.2.1.cell 3
              have x4 : W7.cell? ⟨W5.heap.size, 4, none⟩ = some (.int .i64 v'.p) := H7.out.2.1.cell 4
              have hom : W7.drew.ownsMap Tryz.prog 24 anyElem m (Maps.size Dm) Dm := own_only H5.out.2.2.2.2.1.1 (S := fun _ => False) (Only.of_below H7.out.1.drew) (fun h => h)
              have hsz : Maps.size Dm < maxLen := by have h1 := H5.out.2.2.2.2.1.2.2; have h2 := HH.out.2.2.2.2.2.2; unfold maxLen; omega
              clear hq0 hq2
              go_still_tail 8, (by kernel_rfl)
              change wpList _ _ _ _ _ W7.drew
              refine wpList_upd _ rfl _ _ _ 110 rfl 24 31 pairId Tryz.underlying110 m _ Dm rfl hom hsz d rfl H5.out.2.2.2.1 (jvV v') rfl ?_
              intro W9 hm9 ho9 hs9
              have hD9 : DoB w B o pA pc n el W9 := (H5.out.1.new HH.out.2.2.2.2.2.1 H7.out.1.drew).maps HH.out.2.2.2.2.2.1 ho9 (fun i e => by
                have e : i = m := e
                subst e
                exact ⟨own_isMapB hom, H5.out.2.2.2.2.2.1.1⟩)
              have hS9 := H5.out.2.2.2.2.2.2.1 W9 (upd f d (some v')) ((Only.of_below H7.out.1.drew).trans ho9) (vm_put v' H5.out.2.2.2.2.1.1 H5.out.2.2.2.2.1.2.1 H5.out.2.2.2.2.1.2.2 H5.out.2.2.2.1 hm9 (by have := H5.out.2.2.2.2.1.2.2; omega))
              have hX9 : DoX w B sb kb vb ib lb (M + 1 + (j + 1)) s1 o pA pc n el ((o.preds.take (j + 1)).foldl (predDo o) (s1.mv x)) W9 := by
                refine ⟨hD9, ?_⟩
                have hfd : f d = some v := by
                  rcases HVZ.out.1 with ⟨h1, h2⟩ | ⟨h1, h2⟩
                  · cases h1
                  · exact h2
                have hp : predDo o f d = upd f d (some v') := by unfold predDo; rw [if_pos HVZ.out.2, hfd, H7.out.2.2, ← HNN.out]
                rw [H5.out.2.2.2.2.2.2.2, hp]
                rw [HX.out] at hS9
                have e2 := upd_upd s1.vals (o.obj, o.key, el) (some f) (some (upd f d (some v')))
                simp only [e2] at hS9
                exact hS9
              have HX9 := Lib.hid hX9
              clear hm9 ho9 hs9 hD9 hS9 hX9 hom hsz b1 w0 w1 w2 w3 w4 hq r0 r1 x0 x1 x2 x3 x4
              go_wp2_with fail
              exact ⟨⟨j + 1, by push_cast; rfl, by omega, by rw [← HAA.out]; exact HX9.out⟩, by simp [intOf]; omega⟩
      · obtain rfl : j = o.preds.length := by omega
        rw [List.take_length] at hI
        obtain ⟨f, hff⟩ : ∃ f, o.preds.foldl (predDo o) (s1.mv x) = f := ⟨_, rfl⟩
        rw [hff] at hI
        have hb6 : Below wr.heap.size wr (wr.alloc (.cells #[.int .i64 o.val.k, .int .i64 o.val.n, .string o.val.s, .int .i64 o.val.o, .int .i64 o.val.p] 31)) := (Below.refl _ _).alloc (Nat.le_refl _) _
        obtain ⟨W6, hW6⟩ : ∃ W6, W6 = wr.alloc (.cells #[.int .i64 o.val.k, .int .i64 o.val.n, .string o.val.s, .int .i64 o.val.o, .int .i64 o.val.p] 31) := ⟨_, rfl⟩
        rw [← hW6] at hb6
        have hv6 : Blk W6 wr.heap.size 31 #[.int .i64 o.val.k, .int .i64 o.val.n, .string o.val.s, .int .i64 o.val.o, .int .i64 o.val.p] := by rw [hW6]; exact Blk.new _ _ _
        have HI := Lib.hid (And.intro hI (And.intro hff (And.intro hb6 hv6)))
        have q0 : wr.cell? ⟨w.heap.size, 0, none⟩ = some (.int .i64 o.kind) := hI.b.op.cell 0
        have q7 : wr.cell? ⟨w.heap.size, 7, none⟩ = some (.int .i64 o.val.k) := hI.b.op.cell 7
        have q8 : wr.cell? ⟨w.heap.size, 8, none⟩ = some (.int .i64 o.val.n) := hI.b.op.cell 8
        have q9 : wr.cell? ⟨w.heap.size, 9, none⟩ = some (.string o.val.s) := hI.b.op.cell 9
        have q10 : wr.cell? ⟨w.heap.size, 10, none⟩ = some (.int .i64 o.val.o) := hI.b.op.cell 10
        have q11 : wr.cell? ⟨w.heap.size, 11, none⟩ = some (.int .i64 o.val.p) := hI.b.op.cell 11
        have hlt0 := hI.b.op.lt
        clear hI hff hb6 hv6
        by_cases hk2 : o.kind = 2
        · have k2 : (o.kind == 2) = true := by simpa using hk2
          go_upto_region 21 with (fail)
          rw [← hW6]
          have HK2 := Lib.hid hk2
          clear q0 q7 q8 q9 q10 q11 hlt0 hW6 hk2 k2
          have hD6 := HI.out.1.b.new HH.out.2.2.2.2.2.1 HI.out.2.2.1
          have r0 : W6.cell? ⟨w.heap.size + 1, 0, none⟩ = some (.int .i64 n.1) := hD6.id.cell 0
          have r1 : W6.cell? ⟨w.heap.size + 1, 1, none⟩ = some (.int .i64 n.2) := hD6.id.cell 1
          have z3 := HI.out.2.2.2.frozen 3
          have z4 := HI.out.2.2.2.frozen 4
          have x3 : W6.cell? ⟨wr.heap.size, 3, none⟩ = some (.int .i64 o.val.o) := HI.out.2.2.2.cell 3
          have x4 : W6.cell? ⟨wr.heap.size, 4, none⟩ = some (.int .i64 o.val.p) := HI.out.2.2.2.cell 4
          have hl6 := HI.out.2.2.2.lt
          go_upto_region 22 with (fail)
          clear r0 r1 z3 z4 x3 x4 hl6
          obtain ⟨v', hv'⟩ : ∃ v' : JV, v' = { o.val with o := n.1, p := n.2 } := ⟨_, rfl⟩
          obtain ⟨W7, hW7⟩ : ∃ W7, W7 = (W6.setCell ⟨wr.heap.size, 3, none⟩ (.int .i64 n.1)).setCell ⟨wr.heap.size, 4, none⟩ (.int .i64 n.2) := ⟨_, rfl⟩
          rw [← hW7]
          have ho7 : Only (fun i => i = wr.heap.size) W6 W7 := by rw [hW7]; exact Only.setCell (S := fun k => k = wr.heap.size) (Only.setCell (S := fun k => k = wr.heap.size) (Only.refl _ W6) (p := ⟨wr.heap.size, 3, none⟩) rfl _) (p := ⟨wr.heap.size, 4, none⟩) rfl _
          have hv7 : Blk W7 wr.heap.size 31 #[.int .i64 v'.k, .int .i64 v'.n, .string v'.s, .int .i64 v'.o, .int .i64 v'.p] := by
            rw [hW7, hv']
            have := (HI.out.2.2.2.set_ 3 (.int .i64 n.1)).set_ 4 (.int .i64 n.2)
            simpa using this
          have hb7 : Below wr.heap.size wr W7 := HI.out.2.2.1.trans (ho7.below HI.out.2.2.1.size (fun k hk e => by have : k = wr.heap.size := e; omega))
          have hD7 := HI.out.1.b.new HH.out.2.2.2.2.2.1 hb7
          obtain ⟨Dk, k1, k2, k3⟩ := (HI.out.1.st.below hb7).kind HH.out.2.2.2.2.1 o.val.k
          have H7 := Lib.hid (And.intro hD7 (And.intro (HI.out.1.st.below hb7) (And.intro hv7 (And.intro hv' (And.intro k1 (And.intro k2 k3))))))
          have b0 : W7.cell? ⟨sb, 0, none⟩ = some (.map (some kb)) := (HI.out.1.st.below hb7).blk.cell 0
          have r0 : W7.cell? ⟨w.heap.size + 1, 0, none⟩ = some (.int .i64 n.1) := hD7.id.cell 0
          have r1 : W7.cell? ⟨w.heap.size + 1, 1, none⟩ = some (.int .i64 n.2) := hD7.id.cell 1
          have x0 : W7.cell? ⟨wr.heap.size, 0, none⟩ = some (.int .i64 o.val.k) := by have := hv7.cell 0; rw [hv'] at this; exact this
          have hom : W7.drew.ownsMap Tryz.prog 24 anyElem kb (Maps.size Dk) Dk := k1
          have hsz : Maps.size Dk < maxLen := by have h2 := HH.out.2.2.2.2.2.2; unfold maxLen; omega
          clear hW7 ho7 hv7 hb7 hD6 hD7 k1 k2 k3 hv'
          go_still_tail 7, (by kernel_rfl)
          change wpList _ _ _ _ _ W7.drew
          refine wpList_upd _ rfl _ _ _ 71 rfl 24 3 pairId Tryz.underlying71 kb _ Dk rfl hom hsz n rfl HH.out.2.2.2.2.1 (.int .i64 o.val.k) rfl ?_
          intro W8 hm8 ho8 hs8
          have ho78 : Only (fun i => i = kb) W7 W8 := ((Only.refl (fun i => i = kb) W7).drew).trans ho8
          have hS8 := H7.out.2.2.2.2.2.2 W8 hm8 ho78
          have hD8 : DoB w B o pA pc n el W8 := H7.out.1.maps HH.out.2.2.2.2.2.1 ho78 (fun i e => by
            have e : i = kb := e
            subst e
            exact ⟨own_isMapB H7.out.2.2.2.2.1, HH.out.1.low.2.1⟩)
          have hv8 : Blk W8 wr.heap.size 31 #[.int .i64 v'.k, .int .i64 v'.n, .string v'.s, .int .i64 v'.o, .int .i64 v'.p] := H7.out.2.2.1.only ho78 (fun e => blk_noMap H7.out.2.2.1 (by have e : wr.heap.size = kb := e; rw [e]; exact own_isMapB H7.out.2.2.2.2.1))
          have H8 := Lib.hid (And.intro hD8 (And.intro hS8 hv8))
          clear hm8 ho8 hs8 ho78 hS8 hD8 hv8 hom hsz b0 r0 r1 x0
          obtain ⟨m, hmA, m3, m4, m5, m6, m7, m8⟩ := H8.out.2.1.val (x := x) (f := f) (by rw [HX.out]; exact upd_same _ _ _) HXO.out
          obtain ⟨Dm, g1, g2, g3⟩ := hmA
          have hS : ∀ w', Below W8.heap.size W8 w' → w'.cell? ⟨sb, 1, none⟩ = some (.map (some vb)) ∧ w'.cell? ⟨w.heap.size + 1 + 1, 0, none⟩ = some (.int .i64 o.obj.1) ∧ w'.cell? ⟨w.heap.size + 1 + 1, 1, none⟩ = some (.int .i64 o.obj.2) ∧ w'.cell? ⟨w.heap.size + 1 + 1, 2, none⟩ = some (.string o.key) ∧ w'.cell? ⟨w.heap.size + 1 + 1, 3, none⟩ = some (.int .i64 el.1) ∧ w'.cell? ⟨w.heap.size + 1 + 1, 4, none⟩ = some (.int .i64 el.2) ∧ (Instr.lookup 72 (.map (some vb)) (.agg #[.int .i64 o.obj.1, .int .i64 o.obj.2, .string o.key, .int .i64 el.1, .int .i64 el.2]) false).run Tryz.prog w' = .ok (.map (some m)) w' := fun w' hW => by
            have h1 := (H8.out.2.1).below hW
            have h2 := (H8.out.1).wh.below hW (H8.out.1).wh.lt
            refine ⟨h1.blk.cell 1, h2.cell 0, h2.cell 1, h2.cell 2, h2.cell 3, h2.cell 4, ?_⟩
            have := m7 w' (Only.of_below hW)
            rw [HX.out] at this
            exact this
          have HKS := Lib.hid hS
          have HM := Lib.hid (And.intro (And.intro g1 (And.intro g2 g3)) (And.intro (And.intro m3 (And.intro m4 (And.intro m5 m6))) m8))
          clear g1 g2 g3 m3 m4 m5 m6 m7 m8 hS
          go_upto_region 23 with (fail)
          obtain ⟨b1, w0, w1, w2, w3, w4, hq0⟩ := HKS.out W8 (Below.refl _ _)
          have hq : (Instr.lookup 72 (.map (some vb)) (.agg #[.int .i64 o.obj.1, .int .i64 o.obj.2, .string o.key, .int .i64 el.1, .int .i64 el.2]) false).run Tryz.prog W8.drew = .ok (.map (some m)) W8.drew := (HKS.out W8.drew (Below.refl _ _).drew).2.2.2.2.2.2
          have r0 : W8.cell? ⟨w.heap.size + 1, 0, none⟩ = some (.int .i64 n.1) := H8.out.1.id.cell 0
          have r1 : W8.cell? ⟨w.heap.size + 1, 1, none⟩ = some (.int .i64 n.2) := H8.out.1.id.cell 1
          have x0 : W8.cell? ⟨wr.heap.size, 0, none⟩ = some (.int .i64 v'.k) := H8.out.2.2.cell 0
          have x1 : W8.cell? ⟨wr.heap.size, 1, none⟩ = some (.int .i64 v'.n) := H8.out.2.2.cell 1
          have x2 : W8.cell? ⟨wr.heap.size, 2, none⟩ = some (.string v'.s) := H8.out.2.2.cell 2
          have x3 : W8.cell? ⟨wr.heap.size, 3, none⟩ = some (.int .i64 v'.o) := H8.out.2.2.cell 3
          have x4 : W8.cell? ⟨wr.heap.size, 4, none⟩ = some (.int .i64 v'.p) := H8.out.2.2.cell 4
          have hom : W8.drew.ownsMap Tryz.prog 24 anyElem m (Maps.size Dm) Dm := HM.out.1.1
          have hsz : Maps.size Dm < maxLen := by have h1 := HM.out.1.2.2; have h2 := HH.out.2.2.2.2.2.2; unfold maxLen; omega
          clear hq0
          go_still_tail 8, (by kernel_rfl)
          change wpList _ _ _ _ _ W8.drew
          refine wpList_upd _ rfl _ _ _ 110 rfl 24 31 pairId Tryz.underlying110 m _ Dm rfl hom hsz n rfl HH.out.2.2.2.2.1 (jvV v') rfl ?_
          intro W9 hm9 ho9 hs9
          have hS9 := HM.out.2.2 W9 (upd f n (some v')) (((Only.refl (fun i => i = m) W8).drew).trans ho9) (vm_put v' HM.out.1.1 HM.out.1.2.1 HM.out.1.2.2 HH.out.2.2.2.2.1 hm9 (by have := HM.out.1.2.2; omega))
          have hb9 : DoB w B o pA pc n el W9 := H8.out.1.maps HH.out.2.2.2.2.2.1 ((Only.refl (fun i => i = m) W8).drew.trans ho9) (fun i e => by have e : i = m := e; subst e; exact ⟨own_isMapB HM.out.1.1, HM.out.2.1.1⟩)
          have H9 := Lib.hid (And.intro hS9 hb9)
          clear hm9 ho9 hs9 hS9 hb9 hom hsz b1 w0 w1 w2 w3 w4 hq r0 r1 x0 x1 x2 x3 x4
          go_wp2_with fail
          go_end0
          refine ⟨rfl, ?_, H9.out.2.bel, H9.out.2.nm⟩
          have hS9 := H9.out.1
          rw [HX.out] at hS9
          have e2 := upd_upd s1.vals (o.obj, o.key, el) (some f) (some (upd f n (some v')))
          simp only [e2] at hS9
          rw [stDo_two HZ.out.1 HZ.out.2.1 HK2.out, ← HX.out, HI.out.2.1, HX.out, ← H7.out.2.2.2.1]
          exact hS9.mono (by omega)
        · have k2 : (o.kind == 2) = false := by simpa using hk2
          by_cases hk1 : o.kind = 1
          · have k1 : (o.kind == 1) = true := by simpa using hk1
            have HK1 := Lib.hid hk1
            obtain ⟨v', hv'⟩ : ∃ v', v' = o.val := ⟨_, rfl⟩
            have HV' := Lib.hid hv'
            have H8 := Lib.hid (And.intro (HI.out.1.b.new HH.out.2.2.2.2.2.1 HI.out.2.2.1) (And.intro (HI.out.1.st.below HI.out.2.2.1) (show Blk W6 wr.heap.size 31 #[.int .i64 v'.k, .int .i64 v'.n, .string v'.s, .int .i64 v'.o, .int .i64 v'.p] from by rw [hv']; exact HI.out.2.2.2)))
            clear hv'
            have k2' : ¬ o.kind = 2 := by omega
            go_upto_region 25 with (fail)
            rw [← hW6]
            clear q0 q7 q8 q9 q10 q11 hlt0 hW6 hk1 k1 k2 hk2 k2'
            obtain ⟨m, hmA, m3, m4, m5, m6, m7, m8⟩ := H8.out.2.1.val (x := x) (f := f) (by rw [HX.out]; exact upd_same _ _ _) HXO.out
            obtain ⟨Dm, g1, g2, g3⟩ := hmA
            have hS : ∀ w', Below W6.heap.size W6 w' → w'.cell? ⟨sb, 1, none⟩ = some (.map (some vb)) ∧ w'.cell? ⟨w.heap.size + 1 + 1, 0, none⟩ = some (.int .i64 o.obj.1) ∧ w'.cell? ⟨w.heap.size + 1 + 1, 1, none⟩ = some (.int .i64 o.obj.2) ∧ w'.cell? ⟨w.heap.size + 1 + 1, 2, none⟩ = some (.string o.key) ∧ w'.cell? ⟨w.heap.size + 1 + 1, 3, none⟩ = some (.int .i64 el.1) ∧ w'.cell? ⟨w.heap.size + 1 + 1, 4, none⟩ = some (.int .i64 el.2) ∧ (Instr.lookup 72 (.map (some vb)) (.agg #[.int .i64 o.obj.1, .int .i64 o.obj.2, .string o.key, .int .i64 el.1, .int .i64 el.2]) false).run Tryz.prog w' = .ok (.map (some m)) w' := fun w' hW => by
              have h1 := (H8.out.2.1).below hW
              have h2 := (H8.out.1).wh.below hW (H8.out.1).wh.lt
              refine ⟨h1.blk.cell 1, h2.cell 0, h2.cell 1, h2.cell 2, h2.cell 3, h2.cell 4, ?_⟩
              have := m7 w' (Only.of_below hW)
              rw [HX.out] at this
              exact this
            have HKS := Lib.hid hS
            have HM := Lib.hid (And.intro (And.intro g1 (And.intro g2 g3)) (And.intro (And.intro m3 (And.intro m4 (And.intro m5 m6))) m8))
            clear g1 g2 g3 m3 m4 m5 m6 m7 m8 hS
            obtain ⟨b1, w0, w1, w2, w3, w4, hq0⟩ := HKS.out W6 (Below.refl _ _)
            have hq : (Instr.lookup 72 (.map (some vb)) (.agg #[.int .i64 o.obj.1, .int .i64 o.obj.2, .string o.key, .int .i64 el.1, .int .i64 el.2]) false).run Tryz.prog W6.drew = .ok (.map (some m)) W6.drew := (HKS.out W6.drew (Below.refl _ _).drew).2.2.2.2.2.2
            have r0 : W6.cell? ⟨w.heap.size + 1, 0, none⟩ = some (.int .i64 n.1) := H8.out.1.id.cell 0
            have r1 : W6.cell? ⟨w.heap.size + 1, 1, none⟩ = some (.int .i64 n.2) := H8.out.1.id.cell 1
            have x0 : W6.cell? ⟨wr.heap.size, 0, none⟩ = some (.int .i64 v'.k) := H8.out.2.2.cell 0
            have x1 : W6.cell? ⟨wr.heap.size, 1, none⟩ = some (.int .i64 v'.n) := H8.out.2.2.cell 1
            have x2 : W6.cell? ⟨wr.heap.size, 2, none⟩ = some (.string v'.s) := H8.out.2.2.cell 2
            have x3 : W6.cell? ⟨wr.heap.size, 3, none⟩ = some (.int .i64 v'.o) := H8.out.2.2.cell 3
            have x4 : W6.cell? ⟨wr.heap.size, 4, none⟩ = some (.int .i64 v'.p) := H8.out.2.2.cell 4
            have hom : W6.drew.ownsMap Tryz.prog 24 anyElem m (Maps.size Dm) Dm := HM.out.1.1
            have hsz : Maps.size Dm < maxLen := by have h1 := HM.out.1.2.2; have h2 := HH.out.2.2.2.2.2.2; unfold maxLen; omega
            clear hq0
            go_still_tail 8, (by kernel_rfl)
            change wpList _ _ _ _ _ W6.drew
            refine wpList_upd _ rfl _ _ _ 110 rfl 24 31 pairId Tryz.underlying110 m _ Dm rfl hom hsz n rfl HH.out.2.2.2.2.1 (jvV v') rfl ?_
            intro W9 hm9 ho9 hs9
            have hS9 := HM.out.2.2 W9 (upd f n (some v')) (((Only.refl (fun i => i = m) W6).drew).trans ho9) (vm_put v' HM.out.1.1 HM.out.1.2.1 HM.out.1.2.2 HH.out.2.2.2.2.1 hm9 (by have := HM.out.1.2.2; omega))
            have hb9 : DoB w B o pA pc n el W9 := H8.out.1.maps HH.out.2.2.2.2.2.1 ((Only.refl (fun i => i = m) W6).drew.trans ho9) (fun i e => by have e : i = m := e; subst e; exact ⟨own_isMapB HM.out.1.1, HM.out.2.1.1⟩)
            have H9 := Lib.hid (And.intro hS9 hb9)
            clear hm9 ho9 hs9 hS9 hb9 hom hsz b1 w0 w1 w2 w3 w4 hq r0 r1 x0 x1 x2 x3 x4
            go_wp2_with fail
            go_end0
            refine ⟨rfl, ?_, H9.out.2.bel, H9.out.2.nm⟩
            have hS9 := H9.out.1
            rw [HX.out] at hS9
            have e2 := upd_upd s1.vals (o.obj, o.key, el) (some f) (some (upd f n (some v')))
            simp only [e2] at hS9
            rw [stDo_one HZ.out.1 HZ.out.2.1 HK1.out, ← HX.out, HI.out.2.1, HX.out, ← HV'.out]
            exact hS9.mono (by omega)
          · have k1 : (o.kind == 1) = false := by simpa using hk1
            have HKK := Lib.hid (And.intro hk1 hk2)
            go_wp2_with fail
            rw [← hW6]
            go_end0
            refine ⟨rfl, ?_, (HI.out.1.b.new HH.out.2.2.2.2.2.1 HI.out.2.2.1).bel, (HI.out.1.b.new HH.out.2.2.2.2.2.1 HI.out.2.2.1).nm⟩
            rw [stDo_else HZ.out.1 HZ.out.2.1 HKK.out.1 HKK.out.2, ← HX.out, HI.out.2.1, HX.out]
            exact (HI.out.1.st.below HI.out.2.2.1).mono (by omega)
end Go.Proofs.YteknflimfdkhoaaGreat
namespace Go.Proofs.YteknflimfdkhoaaGreat
open Go.RowKit Go.Maps
set_option linter.unusedVariables false
set_option linter.unusedSimpArgs false

/-- What the ops of a change want so that New takes them. -/
structure StOk (c : PCh) : Prop where
  start : 0 ≤ c.start ∧ c.start ≤ 1000000
  actor : I64 c.actor
  ops : c.ops.length ≤ 40
  preds : ∀ o ∈ c.ops, o.op.preds.length ≤ 12
theorem doChs_take {s : Sta} {l : List PCh} {k : Nat} {c : PCh} (h : l[k]? = some c) : doChs s ((l.take (k + 1)).map PCh.ch) = doOps (doChs s ((l.take k).map PCh.ch)) c.actor c.start c.ch.ops := by
  rw [List.take_add_one, h, List.map_append]
  exact doChs_snoc _ _ _
theorem doOps_take {s : Sta} {a k : Int} {l : List OpV} {j : Nat} {o : OpV} (h : l[j]? = some o) : doOps s a k (l.take (j + 1)) = (doOps s a k (l.take j)).do_ o (k + j, a) := by
  rw [List.take_add_one, h]
  have hl : (l.take j).length = j := by
    have := (List.getElem?_eq_some_iff.1 h).1
    rw [List.length_take]; omega
  show doOps s a k (l.take j ++ [o]) = _
  rw [doOps_snoc, hl]
/-- What New answers. -/
def NewSt (w : World) (l : List PCh) (e : Ending) (w' : World) : Prop :=
  ∃ sb kb vb ib lb : Nat, e = .returned (.pointer (some ⟨sb, 0, none⟩)) ∧ StM w' w.heap.size sb kb vb ib lb (640 * l.length + 1) (doChs stNew (l.map PCh.ch)) ∧ Below w.heap.size w w'
theorem stm_new (w W : World) (h0 : w.heap.size ≤ W.heap.size) {w1 : World} (hm : w1.ownsMap Tryz.prog 24 anyElem W.heap.size 1 ((DataW.map []).put (rlit (0, 0)) (.held (.int .i64 5)))) (hs : w1.heap.size = W.heap.size + 1) :
    StM ((((w1.alloc (.map #[] 0)).alloc (.map #[] 0)).alloc (.map #[] 0)).alloc (.cells #[.map (some W.heap.size), .map (some w1.heap.size), .map (some (w1.alloc (.map #[] 0)).heap.size), .map (some ((w1.alloc (.map #[] 0)).alloc (.map #[] 0)).heap.size)] 76)) w.heap.size (((w1.alloc (.map #[] 0)).alloc (.map #[] 0)).alloc (.map #[] 0)).heap.size W.heap.size w1.heap.size (w1.alloc (.map #[] 0)).heap.size ((w1.alloc (.map #[] 0)).alloc (.map #[] 0)).heap.size 1 stNew := by
  have ho : Only (fun _ => False) w1 ((((w1.alloc (.map #[] 0)).alloc (.map #[] 0)).alloc (.map #[] 0)).alloc (.cells #[.map (some W.heap.size), .map (some w1.heap.size), .map (some (w1.alloc (.map #[] 0)).heap.size), .map (some ((w1.alloc (.map #[] 0)).alloc (.map #[] 0)).heap.size)] 76)) := ((((Only.refl _ w1).alloc _).alloc _).alloc _).alloc _
  refine ⟨Blk.new _ _ _, ⟨_, own_tight (own_only hm ho (fun h => h)), fun n hn => ?_, own_size hm⟩, ⟨.map [], own_tight (own_only (World.ownsMap_made w1 Tryz.prog 109 anyElem) ((((Only.refl (fun _ => False) _).alloc _).alloc _).alloc _) (fun h => h)), by simp [Maps.size], fun x _ => ?_, fun x y m _ _ h => by rw [kget_empty] at h; cases h⟩, ⟨by simp; omega, h0, by omega⟩, ⟨by simp; omega, by simp; omega, by omega⟩, ⟨.map [], own_tight (own_only (World.ownsMap_made (w1.alloc (.map #[] 0)) Tryz.prog 109 anyElem) (((Only.refl (fun _ => False) _).alloc _).alloc _) (fun h => h)), by simp [Maps.size], fun x _ => kget_empty _, fun x y a n1 n2 c1 c2 _ _ h => by rw [kget_empty] at h; cases h⟩, ⟨.map [], own_tight (own_only (World.ownsMap_made ((w1.alloc (.map #[] 0)).alloc (.map #[] 0)) Tryz.prog 24 anyElem) ((Only.refl (fun _ => False) _).alloc _) (fun h => h)), fun n _ => mget_empty n, by simp [Maps.size]⟩, ⟨by first | (simp; done) | (simp; omega), by first | (simp; done) | (simp; omega), by first | (simp; done) | (simp; omega), by first | (simp; done) | (simp; omega), by first | (simp; done) | (simp; omega), by first | (simp; done) | (simp; omega), by first | (simp; done) | (simp; omega), by first | (simp; done) | (simp; omega), by first | (simp; done) | (simp; omega)⟩⟩
  · rw [mget_put pairId isMap_empty (show I2 (0, 0) from ⟨⟨by decide, by decide⟩, ⟨by decide, by decide⟩⟩) hn]
    show _ = (if n = (0, 0) then some (5 : Int) else none).map _
    split
    · rfl
    · rfl
  · exact kget_empty _
set_option maxRecDepth 100000 in
set_option maxHeartbeats 4000000 in
theorem stNew_any (l : List PCh) (A : Option Addr) (cp : Nat) (w : World) (hA : SlAt w A (chsCells l)) (hin : ∀ c ∈ l, InC w c ∧ StOk c) (hl : l.length ≤ 120) :
    Calls Tryz.prog 50 #[.slice A l.length cp] w (NewSt w l) := by
  have hmm := @run_makeMap Tryz.prog
  have HH := Lib.hid (And.intro hA (And.intro hin hl))
  have hlen : l.length ≤ 9223372036854775807 := by omega
  have hz : I2 (0, 0) := ⟨⟨by decide, by decide⟩, ⟨by decide, by decide⟩⟩
  clear hA hin
  go_enter Tryz.func50, Tryz.ntmps50
  go_wp2_with (first
    | (with_reducible refine wpList_ins _ rfl _ _ _ 71 rfl 24 3 pairId Tryz.underlying71 w.heap.size 0 (.map []) rfl (World.ownsMap_made w _ _ _) (by decide) (0, 0) rfl hz (.int .i64 5) rfl ?_)
    | fail)
  intro w1 hm1 ho1 hs1
  have hs1' : w1.heap.size = w.heap.size + 1 := hs1.trans (by simp)
  have hst := stm_new w w (Nat.le_refl _) hm1 hs1'
  have hb1 : Below w.heap.size w w1 := ((Only.refl (fun i => i = w.heap.size) w).alloc (.map #[] 0)).trans ho1 |>.below (Nat.le_refl _) (fun k hk e => by have : k = w.heap.size := e; omega)
  have hb2 : Below w.heap.size w ((((w1.alloc (.map #[] 0)).alloc (.map #[] 0)).alloc (.map #[] 0)).alloc (.cells #[.map (some w.heap.size), .map (some w1.heap.size), .map (some (w1.alloc (.map #[] 0)).heap.size), .map (some ((w1.alloc (.map #[] 0)).alloc (.map #[] 0)).heap.size)] 76)) := (((hb1.alloc (by omega) _).alloc (by simp; omega) _).alloc (by simp; omega) _).alloc (by simp; omega) _
  have e1 : (w1.alloc (.map #[] 0)).heap.size = w.heap.size + 1 + 1 := by simp [hs1']
  have e2 : ((w1.alloc (.map #[] 0)).alloc (.map #[] 0)).heap.size = w.heap.size + 1 + 1 + 1 := by simp [hs1']
  have e3 : (((w1.alloc (.map #[] 0)).alloc (.map #[] 0)).alloc (.map #[] 0)).heap.size = w.heap.size + 1 + 1 + 1 + 1 := by simp [hs1']
  rw [e3, e2, e1, hs1'] at hst
  rw [e2, e1, hs1'] at hb2
  obtain ⟨W4, hW4⟩ : ∃ W4, W4 = ((((w1.alloc (.map #[] 0)).alloc (.map #[] 0)).alloc (.map #[] 0)).alloc (.cells #[.map (some w.heap.size), .map (some (w.heap.size + 1)), .map (some (w.heap.size + 1 + 1)), .map (some (w.heap.size + 1 + 1 + 1))] 76)) := ⟨_, rfl⟩
  rw [← hW4] at hst hb2
  have HST := Lib.hid (And.intro hst hb2)
  clear hst hb1 hb2 hm1 ho1 e1 e2 e3
  go_wp2_with fail
  rw [← hW4]
  clear hW4 hs1 hs1'
  go_loopw [18, 5, 6, 7] (fun iv _ _ _ wr => ∃ k : Nat, iv = .int .i64 k ∧ k ≤ l.length ∧ StM wr w.heap.size (w.heap.size + 1 + 1 + 1 + 1) w.heap.size (w.heap.size + 1) (w.heap.size + 1 + 1) (w.heap.size + 1 + 1 + 1) (640 * k + 1) (doChs stNew ((l.take k).map PCh.ch)) ∧ Below w.heap.size w wr) (fun iv _ _ _ _ => l.length - (intOf iv).toNat)
  case atStart => exact ⟨0, rfl, Nat.zero_le _, HST.out.1, HST.out.2⟩
  case round =>
    obtain ⟨k, rfl, hk, hS, hb⟩ := hrel
    by_cases hlt : k < l.length
    · obtain ⟨c, hc⟩ : ∃ c, l[k]? = some c := ⟨_, List.getElem?_eq_getElem hlt⟩
      have hcm := List.mem_of_getElem? hc
      obtain ⟨hcI, hcO⟩ := HH.out.2.1 c hcm
      obtain ⟨b, off, ha, hcell⟩ := (HH.out.1.below hb).chg hc
      have c0 : wr.cell? ⟨b, off + k * 5, none⟩ = some (.int .i64 c.actor) := hcell 0 _ rfl
      have c1 : wr.cell? ⟨b, off + k * 5 + 1, none⟩ = some (.int .i64 c.seq) := hcell 1 _ rfl
      have c2 : wr.cell? ⟨b, off + k * 5 + 2, none⟩ = some (.int .i64 c.start) := hcell 2 _ rfl
      have c3 : wr.cell? ⟨b, off + k * 5 + 3, none⟩ = some (.slice c.dA c.deps.length c.dc) := hcell 3 _ rfl
      have c4 : wr.cell? ⟨b, off + k * 5 + 4, none⟩ = some (.slice c.oA c.ops.length c.oc) := hcell 4 _ rfl
      have hol : c.ops.length ≤ 9223372036854775807 := by have := hcO.ops; omega
      obtain ⟨W5, hW5⟩ : ∃ W5, W5 = wr.alloc (.cells #[.int .i64 c.actor, .int .i64 c.seq, .int .i64 c.start, .slice c.dA c.deps.length c.dc, .slice c.oA c.ops.length c.oc] 65) := ⟨_, rfl⟩
      have hb5 : Below wr.heap.size wr W5 := by rw [hW5]; exact (Below.refl _ _).alloc (Nat.le_refl _) _
      have hB5 : Blk W5 wr.heap.size 65 #[.int .i64 c.actor, .int .i64 c.seq, .int .i64 c.start, .slice c.dA c.deps.length c.dc, .slice c.oA c.ops.length c.oc] := by rw [hW5]; exact Blk.new _ _ _
      have HAA := Lib.hid ha
      have H5 := Lib.hid (And.intro (hS.below hb5) (And.intro (hb.trans (hb5.mono hb.size)) (And.intro hB5 (And.intro hcI (And.intro hcO hc)))))
      have hwl : w.heap.size < wr.heap.size := Nat.lt_of_le_of_lt (by omega) (show w.heap.size + 1 + 1 + 1 + 1 < wr.heap.size from hS.blk.lt)
      clear hS hb hb5 hB5 hcI hcO hcm hcell hc
      rw [ha]
      clear ha
      go_upto_region 5 with (fail)
      rw [← hW5]
      clear hW5 c0 c1 c2 c3 c4
      have d4 : W5.cell? ⟨wr.heap.size, 4, none⟩ = some (.slice c.oA c.ops.length c.oc) := H5.out.2.2.1.cell 4
      go_wp2_with fail
      clear d4
      obtain ⟨cb, hcb⟩ : ∃ cb, cb = wr.heap.size := ⟨_, rfl⟩
      rw [← hcb] at H5 hwl ⊢
      clear hcb
      rename World => wz
      go_loopw [25, 6, 7] (fun iv _ _ wj => ∃ j : Nat, iv = .int .i64 j ∧ j ≤ c.ops.length ∧ StM wj w.heap.size (w.heap.size + 1 + 1 + 1 + 1) w.heap.size (w.heap.size + 1) (w.heap.size + 1 + 1) (w.heap.size + 1 + 1 + 1) (640 * k + 16 * j + 1) (doOps (doChs stNew ((l.take k).map PCh.ch)) c.actor c.start (c.ch.ops.take j)) ∧ Below w.heap.size w wj ∧ Blk wj cb 65 #[.int .i64 c.actor, .int .i64 c.seq, .int .i64 c.start, .slice c.dA c.deps.length c.dc, .slice c.oA c.ops.length c.oc]) (fun iv _ _ _ => c.ops.length - (intOf iv).toNat)
      case atStart => exact ⟨0, rfl, Nat.zero_le _, by simpa [doOps] using H5.out.1, H5.out.2.1, H5.out.2.2.1⟩
      case round =>
        obtain ⟨j, rfl, hj, hS, hb, hB⟩ := hrel
        by_cases hlt2 : j < c.ops.length
        · obtain ⟨o, ho⟩ : ∃ o, c.ops[j]? = some o := ⟨_, List.getElem?_eq_getElem hlt2⟩
          have hom := List.mem_of_getElem? ho
          obtain ⟨b2, off2, ha2, hcell2⟩ := (H5.out.2.2.2.1.ops.below hb).op ho
          have o0 : wr.cell? ⟨b2, off2 + j * 13, none⟩ = some (.int .i64 o.op.kind) := hcell2 0 _ rfl
          have o1 : wr.cell? ⟨b2, off2 + j * 13 + 1, none⟩ = some (.int .i64 o.op.obj.1) := hcell2 1 _ rfl
          have o2 : wr.cell? ⟨b2, off2 + j * 13 + 2, none⟩ = some (.int .i64 o.op.obj.2) := hcell2 2 _ rfl
          have o3 : wr.cell? ⟨b2, off2 + j * 13 + 3, none⟩ = some (.string o.op.key) := hcell2 3 _ rfl
          have o4 : wr.cell? ⟨b2, off2 + j * 13 + 4, none⟩ = some (.int .i64 o.op.elem.1) := hcell2 4 _ rfl
          have o5 : wr.cell? ⟨b2, off2 + j * 13 + 5, none⟩ = some (.int .i64 o.op.elem.2) := hcell2 5 _ rfl
          have o6 : wr.cell? ⟨b2, off2 + j * 13 + 6, none⟩ = some (.bool o.op.ins) := hcell2 6 _ rfl
          have o7 : wr.cell? ⟨b2, off2 + j * 13 + 7, none⟩ = some (.int .i64 o.op.val.k) := hcell2 7 _ rfl
          have o8 : wr.cell? ⟨b2, off2 + j * 13 + 8, none⟩ = some (.int .i64 o.op.val.n) := hcell2 8 _ rfl
          have o9 : wr.cell? ⟨b2, off2 + j * 13 + 9, none⟩ = some (.string o.op.val.s) := hcell2 9 _ rfl
          have o10 : wr.cell? ⟨b2, off2 + j * 13 + 10, none⟩ = some (.int .i64 o.op.val.o) := hcell2 10 _ rfl
          have o11 : wr.cell? ⟨b2, off2 + j * 13 + 11, none⟩ = some (.int .i64 o.op.val.p) := hcell2 11 _ rfl
          have o12 : wr.cell? ⟨b2, off2 + j * 13 + 12, none⟩ = some (.slice o.pA o.op.preds.length o.pc) := hcell2 12 _ rfl
          obtain ⟨W8, hW8⟩ : ∃ W8, W8 = wr.alloc (.cells #[.int .i64 o.op.kind, .int .i64 o.op.obj.1, .int .i64 o.op.obj.2, .string o.op.key, .int .i64 o.op.elem.1, .int .i64 o.op.elem.2, .bool o.op.ins, .int .i64 o.op.val.k, .int .i64 o.op.val.n, .string o.op.val.s, .int .i64 o.op.val.o, .int .i64 o.op.val.p, .slice o.pA o.op.preds.length o.pc] 51) := ⟨_, rfl⟩
          have hb8 : Below wr.heap.size wr W8 := by rw [hW8]; exact (Below.refl _ _).alloc (Nat.le_refl _) _
          have hO8 : Blk W8 wr.heap.size 51 #[.int .i64 o.op.kind, .int .i64 o.op.obj.1, .int .i64 o.op.obj.2, .string o.op.key, .int .i64 o.op.elem.1, .int .i64 o.op.elem.2, .bool o.op.ins, .int .i64 o.op.val.k, .int .i64 o.op.val.n, .string o.op.val.s, .int .i64 o.op.val.o, .int .i64 o.op.val.p, .slice o.pA o.op.preds.length o.pc] := by rw [hW8]; exact Blk.new _ _ _
          have hbw8 := hb.trans (hb8.mono hb.size)
          have hn : I2 (c.start + (j : Int), c.actor) := ⟨⟨by show (-9223372036854775808 : Int) ≤ c.start + (j : Int); have := H5.out.2.2.2.2.1.start; omega, by show c.start + (j : Int) ≤ 9223372036854775807; have := H5.out.2.2.2.2.1.start; have := H5.out.2.2.2.2.1.ops; omega⟩, H5.out.2.2.2.2.1.actor⟩
          have hkb : k ≤ 120 := by omega
          have hjb : j ≤ 40 := by have := H5.out.2.2.2.2.1.ops; omega
          have hpl := H5.out.2.2.2.2.1.preds o hom
          have hdo := stDo_any w.heap.size (w.heap.size + 1 + 1 + 1 + 1) w.heap.size (w.heap.size + 1) (w.heap.size + 1 + 1) (w.heap.size + 1 + 1 + 1) (640 * k + 16 * j + 1) (doOps (doChs stNew ((l.take k).map PCh.ch)) c.actor c.start (c.ch.ops.take j)) o.op o.pA o.pc (c.start + (j : Int), c.actor) W8 (hS.below hb8) hbw8.size (fun W hW => (H5.out.2.2.2.1.preds o hom).below (hbw8.trans hW)) (H5.out.2.2.2.1.op o hom) hn (by omega) (by omega)
          have HDO := Lib.hid hdo
          have hop : c.ch.ops[j]? = some o.op := by show (c.ops.map POp.op)[j]? = _; rw [List.getElem?_map, ho]; rfl
          have H8 := Lib.hid (And.intro hbw8 (And.intro (hB.below hb8 hB.lt) (And.intro hop hpl)))
          have HA2 := Lib.hid ha2
          have hw8 : IntKind.i64.wrap (c.start + (j : Int)) = c.start + (j : Int) := by have h1 := hn.1; rw [IntKind.wrap_i64]; have h2 : (-9223372036854775808 : Int) ≤ c.start + (j : Int) := h1.1; have h3 : c.start + (j : Int) ≤ 9223372036854775807 := h1.2; omega
          rw [ha2]
          clear ha2 hcell2 hom hdo hS hb hB hbw8 hb8 hn hop ho hpl hkb hjb
          go_upto_region 8 with (fail)
          rw [← hW8]
          clear hW8 o0 o1 o2 o3 o4 o5 o6 o7 o8 o9 o10 o11 o12
          have p0 : W8.cell? ⟨wr.heap.size, 0, none⟩ = some (.int .i64 o.op.kind) := hO8.cell 0
          have p1 : W8.cell? ⟨wr.heap.size, 1, none⟩ = some (.int .i64 o.op.obj.1) := hO8.cell 1
          have p2 : W8.cell? ⟨wr.heap.size, 2, none⟩ = some (.int .i64 o.op.obj.2) := hO8.cell 2
          have p3 : W8.cell? ⟨wr.heap.size, 3, none⟩ = some (.string o.op.key) := hO8.cell 3
          have p4 : W8.cell? ⟨wr.heap.size, 4, none⟩ = some (.int .i64 o.op.elem.1) := hO8.cell 4
          have p5 : W8.cell? ⟨wr.heap.size, 5, none⟩ = some (.int .i64 o.op.elem.2) := hO8.cell 5
          have p6 : W8.cell? ⟨wr.heap.size, 6, none⟩ = some (.bool o.op.ins) := hO8.cell 6
          have p7 : W8.cell? ⟨wr.heap.size, 7, none⟩ = some (.int .i64 o.op.val.k) := hO8.cell 7
          have p8 : W8.cell? ⟨wr.heap.size, 8, none⟩ = some (.int .i64 o.op.val.n) := hO8.cell 8
          have p9 : W8.cell? ⟨wr.heap.size, 9, none⟩ = some (.string o.op.val.s) := hO8.cell 9
          have p10 : W8.cell? ⟨wr.heap.size, 10, none⟩ = some (.int .i64 o.op.val.o) := hO8.cell 10
          have p11 : W8.cell? ⟨wr.heap.size, 11, none⟩ = some (.int .i64 o.op.val.p) := hO8.cell 11
          have p12 : W8.cell? ⟨wr.heap.size, 12, none⟩ = some (.slice o.pA o.op.preds.length o.pc) := hO8.cell 12
          have r0 : W8.cell? ⟨cb, 0, none⟩ = some (.int .i64 c.actor) := H8.out.2.1.cell 0
          have r2 : W8.cell? ⟨cb, 2, none⟩ = some (.int .i64 c.start) := H8.out.2.1.cell 2
          clear hO8
          go_wp2_with (go_at_call 51; (with_reducible refine HDO.out.mono ?_); rintro e w9 ⟨rfl, hS9, hb9, hn9⟩; have H9 := Lib.hid (And.intro hS9 (And.intro hb9 hn9)); clear hS9 hb9 hn9)
          refine ⟨⟨j + 1, by push_cast; rfl, by omega, ?_, H8.out.1.trans H9.out.2.1, ?_⟩, by simp [intOf]; omega⟩
          · rw [doOps_take H8.out.2.2.1]
            exact H9.out.1.mono (by have := H8.out.2.2.2; omega)
          · rw [← HA2.out]
            exact H9.out.2.2.blk H8.out.2.1 (by decide)
        · obtain rfl : j = c.ops.length := by omega
          have HI := Lib.hid (And.intro hS hb)
          clear hS hb hB
          go_wp2_with fail
          refine ⟨⟨k + 1, by push_cast; rfl, by omega, ?_, HI.out.2⟩, by simp [intOf]; omega⟩
          rw [doChs_take H5.out.2.2.2.2.2]
          have h1 := HI.out.1
          rw [show c.ch.ops.take c.ops.length = c.ch.ops from List.take_of_length_le (by show (c.ops.map POp.op).length ≤ _; rw [List.length_map]; exact Nat.le_refl _)] at h1
          exact h1.mono (by have := H5.out.2.2.2.2.1.ops; omega)
    · obtain rfl : k = l.length := by omega
      have HI := Lib.hid (And.intro hS hb)
      clear hS hb
      go_wp2_with fail
      go_ret
      have h1 := HI.out.1
      rw [List.take_length] at h1
      exact ⟨_, _, _, _, _, rfl, h1, HI.out.2⟩
end Go.Proofs.YteknflimfdkhoaaGreat
