/- dag.Book.ready: a contract. How many entries a map of refs has; inserting into a map. -/
import Derived.Test.YteknflimfdkhoaaGreatDg14
namespace Go.Proofs.YteknflimfdkhoaaGreat
open Go.RowKit Go.Maps
set_option linter.unusedVariables false
set_option linter.unusedSimpArgs false

set_option maxRecDepth 100000 in
set_option maxHeartbeats 1000000 in
theorem ready1_any (pb bk h wt bh : Nat) (Dh Dw Db : DataW Value) (r : Int × Int) (w : World) (hp : Blk w pb 54 #[.pointer (some ⟨bk, 0, none⟩)]) (H : BkM w bk h wt bh Dh Dw Db) (hs : ChMap Dh) (hr : I2 r) :
    Calls Tryz.prog 75 #[.agg #[.int .i64 r.1, .int .i64 r.2], .pointer (some ⟨pb, 0, none⟩)] w fun e w' => e = .returned (.bool (!hasB Dh r)) ∧ Below w.heap.size w w' := by
  have hb0 : Below w.heap.size w (w.alloc (.cells #[.int .i64 r.1, .int .i64 r.2] 33)) := (Below.refl _ _).alloc (Nat.le_refl _) _
  have HC := Lib.hid (has_any bk h wt bh Dh Dw Db r _ (H.below hb0) hs hr)
  have c0 : (w.alloc (.cells #[.int .i64 r.1, .int .i64 r.2] 33)).cell? ⟨pb, 0, none⟩ = some (.pointer (some ⟨bk, 0, none⟩)) := (hp.below hb0 hp.lt).cell 0
  have HB := Lib.hid hb0
  clear hb0 H hs hp
  go_enter Tryz.func75, Tryz.ntmps75
  go_wp2_with (go_at_call 22; refine HC.out.mono ?_; rintro e w1 ⟨rfl, hb1⟩)
  go_ret
  exact ⟨rfl, HB.out.trans (hb1.mono HB.out.size)⟩

def readyB (Dh : DataW Value) (deps : List (Int × Int)) : Bool := !(deps.any fun r => !hasB Dh r)

set_option maxRecDepth 100000 in
set_option maxHeartbeats 1000000 in
theorem ready_any (bk h wt bh : Nat) (Dh Dw Db : DataW Value) (c : PCh) (w : World) (H : BkM w bk h wt bh Dh Dw Db) (hs : ChMap Dh) (hc : InC w c) :
    Calls Tryz.prog 47 #[.pointer (some ⟨bk, 0, none⟩), .agg #[.int .i64 c.actor, .int .i64 c.seq, .int .i64 c.start, .slice c.dA c.deps.length c.dc, .slice c.oA c.ops.length c.oc]] w fun e w' => e = .returned (.bool (readyB Dh c.deps)) ∧ Below w.heap.size w w' := by
  obtain ⟨W0, hW0⟩ : ∃ W0, W0 = (w.alloc (.cells #[.pointer (some ⟨bk, 0, none⟩)] 54)).alloc (.cells #[.int .i64 c.actor, .int .i64 c.seq, .int .i64 c.start, .slice c.dA c.deps.length c.dc, .slice c.oA c.ops.length c.oc] 65) := ⟨_, rfl⟩
  have hb0 : Below w.heap.size w W0 := by rw [hW0]; exact ((Below.refl _ _).alloc (Nat.le_refl _) _).alloc (by simp) _
  have hp : Blk W0 w.heap.size 54 #[.pointer (some ⟨bk, 0, none⟩)] := by rw [hW0]; exact (Blk.new w _ _).alloc _
  have H0 := H.below hb0
  have HC := Lib.hid (any_ready (.pointer (some ⟨w.heap.size, 0, none⟩)) (fun r => !hasB Dh r) c.deps c.dA c.dc W0 hc.dlen (hc.deps.below hb0) (fun r hr W hW => ready1_any w.heap.size bk h wt bh Dh Dw Db r W (hp.below hW hp.lt) (H0.below hW) hs (hc.dep r hr)))
  have HB := Lib.hid hb0
  clear hb0 hp H H0 hs hc
  rw [hW0] at HC HB
  clear hW0
  go_enter Tryz.func47, Tryz.ntmps47
  go_wp2_with (go_at_call 41; refine HC.out.mono ?_; rintro e w1 ⟨rfl, hb1⟩)
  go_ret
  exact ⟨rfl, HB.out.trans (hb1.mono HB.out.size)⟩
end Go.Proofs.YteknflimfdkhoaaGreat
namespace Go.Proofs.YteknflimfdkhoaaGreat
open Go.RowKit Go.Maps Go.WideShapes
set_option linter.unusedVariables false
set_option linter.unusedSimpArgs false

theorem nodup_sub_len {α : Type} [DecidableEq α] : ∀ (l m : List α), l.Nodup → (∀ x ∈ l, x ∈ m) → l.length ≤ m.length
  | [], m, _, _ => Nat.zero_le _
  | x :: l, m, h, hs => by
    obtain ⟨h1, h2⟩ := List.nodup_cons.1 h
    have hx : x ∈ m := hs x (by simp)
    have ih := nodup_sub_len l (m.erase x) h2 (fun y hy => by
      have hne : y ≠ x := fun e => h1 (e ▸ hy)
      exact (List.mem_erase_of_ne hne).2 (hs y (by simp [hy])))
    rw [List.length_erase_of_mem hx] at ih
    have := List.length_pos_of_mem hx
    simp
    omega
theorem own_keys {P : Program} {k : TypeId} (K : PairK P k) {w : World} {b n : Nat} {D : DataW Value} (h : w.ownsMap P k anyElem b n D) :
    ∃ es, D = .map es ∧ es.Pairwise (fun p q => p.1 ≠ q.1) ∧ ∀ p ∈ es, ∃ s, I2 s ∧ p.1 = rlit s := by
  obtain ⟨es, clock, hb, F, hs, rfl⟩ := h
  refine ⟨_, rfl, ((sorted_perm _).pairwise_iff (fun {_ _} hne => Ne.symm hne)).2 (Maps.fit_apart K.keyed F), fun p hp => ?_⟩
  obtain ⟨x, hx, rfl⟩ := List.mem_map.1 (mem_sorted.1 hp)
  obtain ⟨y, hy⟩ := F.reads x hx
  obtain ⟨s, _, e2, hi⟩ := K.lit (Go.WideElems.rd_key hy)
  exact ⟨s, hi, by rw [Go.WideElems.rg_of hy]; exact e2⟩
theorem hasD_ref {w : World} {b : Nat} {D : DataW Value} (h : OM w b D) {r : Int × Int} (hr : I2 r) : Maps.has D (rlit r) = hasB D r :=
  own_has pairRef h ⟨_, _, _, Tryz.underlying93, zeroCh w⟩ hr
/-- A map whose keys are r and keys of another one. -/
theorem size_cont {w w2 : World} {m h : Nat} {Dm Dh : DataW Value} {r : Int × Int} (hm : OM w m Dm) (hh : OM w2 h Dh) (hc : ∀ s, I2 s → hasB Dm s = true → s = r ∨ hasB Dh s = true) : Maps.size Dm ≤ Maps.size Dh + 1 := by
  obtain ⟨es, e1, e2, e3⟩ := own_keys pairRef hm
  obtain ⟨fs, f1, f2, f3⟩ := own_keys pairRef hh
  have hn : (es.map (·.1)).Nodup := by
    rw [List.Nodup, List.pairwise_map]
    exact e2
  have : DecidableEq Lit := fun a b => Classical.propDecidable (a = b)
  have := nodup_sub_len (es.map (·.1)) (rlit r :: fs.map (·.1)) hn (by
    intro l hl
    obtain ⟨p, hp, rfl⟩ := List.mem_map.1 hl
    obtain ⟨s, hs, e⟩ := e3 p hp
    have h1 : Maps.has Dm (rlit s) = true := by
      rw [e1]
      exact List.any_eq_true.2 ⟨p, hp, by rw [e]; exact WideAt.sameKey_self (rlit_key s)⟩
    rw [hasD_ref hm hs] at h1
    rcases hc s hs h1 with h2 | h2
    · rw [e, h2]; simp
    · rw [← hasD_ref hh hs, f1] at h2
      obtain ⟨q, hq, hqs⟩ := List.any_eq_true.1 h2
      have : q.1 = rlit s := WideAt.sameKey_eq hqs
      rw [e, ← this]
      exact List.mem_cons_of_mem _ (List.mem_map_of_mem hq))
  simp at this
  rw [e1, f1]
  exact this
theorem OM.put {w w' : World} {b : Nat} {D : DataW Value} {r : Int × Int} {v : Value} (h : w'.ownsMap Tryz.prog 33 anyElem b (Maps.size D + 1) (D.put (rlit r) (.held v))) : OM w' b (D.put (rlit r) (.held v)) := OM.of h
theorem OM.isMap {w : World} {b : Nat} {D : DataW Value} (h : OM w b D) : IsMap D := World.ownsMap.isMap h
theorem OM.get_put {w : World} {b : Nat} {D : DataW Value} (h : OM w b D) {r s : Int × Int} (hr : I2 r) (hs : I2 s) (v : Value) : mget (D.put (rlit r) (.held v)) s = if s = r then some v else mget D s := mget_put pairRef h.isMap hr hs v

theorem only_step {S T : Nat → Prop} {a b c : World} (h : Only S a b) (k : Only T b c) (hs : ∀ i, i < a.heap.size → T i → S i) : Only S a c :=
  ⟨k.os.trans h.os, k.tape.trans h.tape, k.output.trans h.output, Nat.le_trans h.size k.size, fun i hi hn => (k.block i (Nat.lt_of_lt_of_le hi h.size) (fun ht => hn (hs i hi ht))).trans (h.block i hi hn)⟩

/-- A literal's entry: 'map[K]V{k: v}'. -/
theorem wpList_ins {P : Program} (w : World) {ops : Array Oper} {rest : List Oper} {o : Oper} {a : Act} {Q : Exit → Act → World → Prop} (hg : o.guard = none) (m x v : Operand) (t : TypeId) (hop : o.op = Op.insert t m x v) (k e : TypeId) (K : PairK P k) (ht : P.underlying t = some (.map k e))
    (b n : Nat) (D : DataW Value) (hm : a.eval m = .map (some b)) (hown : w.ownsMap P k anyElem b n D) (hn : n < maxLen) (r : Int × Int) (hx : a.eval x = refV r) (hr : I2 r)
    (u : Value) (hv : a.eval v = u) (hK : ∀ w', w'.ownsMap P k anyElem b (n + 1) (D.put (rlit r) (.held u)) → Only (fun i => i = b) w w' → w'.heap.size = w.heap.size → wpList P ops Q rest (a.put o.dst undef) w') : wpList P ops Q (o :: rest) a w := by
  refine wpList_plain hg fun K' hK' => ?_
  obtain ⟨w', hrun, r1, r2⟩ := hown.store K.keyed ht hn (K.of_ r hr) (show anyElem u = some (.held u, []) from rfl)
  have hs : w'.heap.size = w.heap.size := by
    obtain ⟨es, clock, es', clock', _, rfl⟩ := r2
    simp [Go.ChangeMaps.setBlock]
  unfold Oper.wp
  simp [execOp, hop, hm, hx, hv, hrun, Result.andThen]
  exact hK' _ _ (hK w' r1 (only_turned r2) hs)
end Go.Proofs.YteknflimfdkhoaaGreat
