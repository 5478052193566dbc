/- How many entries a map of refs has; inserting into a map. -/
import Derived.Test.YtdenaejhfgmihaaDagReady
namespace Go.Proofs.Ytdenaejhfgmihaa
open Go.RowKit Go.Maps Go.WideShapes
set_option linter.unusedVariables false
set_option linter.unusedSimpArgs false

theorem nodup_sub_len {α : Type} [DecidableEq α] : ∀ (l m : List α), l.Nodup → (∀ x ∈ l, x ∈ m) → l.length ≤ m.length
  | [], m, _, _ => Nat.zero_le _
  | x :: l, m, h, hs => by
    obtain ⟨h1, h2⟩ := List.nodup_cons.1 h
    have hx : x ∈ m := hs x (by simp)
    have ih := nodup_sub_len l (m.erase x) h2 (fun y hy => by
      have hne : y ≠ x := fun e => h1 (e ▸ hy)
      exact (List.mem_erase_of_ne hne).2 (hs y (by simp [hy])))
    rw [List.length_erase_of_mem hx] at ih
    have := List.length_pos_of_mem hx
    simp
    omega
theorem own_keys {P : Program} {k : TypeId} (K : PairK P k) {w : World} {b n : Nat} {D : DataW Value} (h : w.ownsMap P k anyElem b n D) :
    ∃ es, D = .map es ∧ es.Pairwise (fun p q => p.1 ≠ q.1) ∧ ∀ p ∈ es, ∃ s, I2 s ∧ p.1 = rlit s := by
  obtain ⟨es, clock, hb, F, hs, rfl⟩ := h
  refine ⟨_, rfl, ((sorted_perm _).pairwise_iff (fun {_ _} hne => Ne.symm hne)).2 (Maps.fit_apart K.keyed F), fun p hp => ?_⟩
  obtain ⟨x, hx, rfl⟩ := List.mem_map.1 (mem_sorted.1 hp)
  obtain ⟨y, hy⟩ := F.reads x hx
  obtain ⟨s, _, e2, hi⟩ := K.lit (Go.WideElems.rd_key hy)
  exact ⟨s, hi, by rw [Go.WideElems.rg_of hy]; exact e2⟩
theorem hasD_ref {w : World} {b : Nat} {D : DataW Value} (h : OM w b D) {r : Int × Int} (hr : I2 r) : Maps.has D (rlit r) = hasB D r :=
  own_has pairRef h ⟨_, _, _, Try.underlying41, zeroCh w⟩ hr
/-- A map whose keys are r and keys of another one. -/
theorem size_cont {w w2 : World} {m h : Nat} {Dm Dh : DataW Value} {r : Int × Int} (hm : OM w m Dm) (hh : OM w2 h Dh) (hc : ∀ s, I2 s → hasB Dm s = true → s = r ∨ hasB Dh s = true) : Maps.size Dm ≤ Maps.size Dh + 1 := by
  obtain ⟨es, e1, e2, e3⟩ := own_keys pairRef hm
  obtain ⟨fs, f1, f2, f3⟩ := own_keys pairRef hh
  have hn : (es.map (·.1)).Nodup := by
    rw [List.Nodup, List.pairwise_map]
    exact e2
  have : DecidableEq Lit := fun a b => Classical.propDecidable (a = b)
  have := nodup_sub_len (es.map (·.1)) (rlit r :: fs.map (·.1)) hn (by
    intro l hl
    obtain ⟨p, hp, rfl⟩ := List.mem_map.1 hl
    obtain ⟨s, hs, e⟩ := e3 p hp
    have h1 : Maps.has Dm (rlit s) = true := by
      rw [e1]
      exact List.any_eq_true.2 ⟨p, hp, by rw [e]; exact WideAt.sameKey_self (rlit_key s)⟩
    rw [hasD_ref hm hs] at h1
    rcases hc s hs h1 with h2 | h2
    · rw [e, h2]; simp
    · rw [← hasD_ref hh hs, f1] at h2
      obtain ⟨q, hq, hqs⟩ := List.any_eq_true.1 h2
      have : q.1 = rlit s := WideAt.sameKey_eq hqs
      rw [e, ← this]
      exact List.mem_cons_of_mem _ (List.mem_map_of_mem hq))
  simp at this
  rw [e1, f1]
  exact this
theorem OM.put {w w' : World} {b : Nat} {D : DataW Value} {r : Int × Int} {v : Value} (h : w'.ownsMap Try.prog 34 anyElem b (Maps.size D + 1) (D.put (rlit r) (.held v))) : OM w' b (D.put (rlit r) (.held v)) := OM.of h
theorem OM.isMap {w : World} {b : Nat} {D : DataW Value} (h : OM w b D) : IsMap D := World.ownsMap.isMap h
theorem OM.get_put {w : World} {b : Nat} {D : DataW Value} (h : OM w b D) {r s : Int × Int} (hr : I2 r) (hs : I2 s) (v : Value) : mget (D.put (rlit r) (.held v)) s = if s = r then some v else mget D s := mget_put pairRef h.isMap hr hs v

theorem only_step {S T : Nat → Prop} {a b c : World} (h : Only S a b) (k : Only T b c) (hs : ∀ i, i < a.heap.size → T i → S i) : Only S a c :=
  ⟨k.os.trans h.os, k.tape.trans h.tape, k.output.trans h.output, Nat.le_trans h.size k.size, fun i hi hn => (k.block i (Nat.lt_of_lt_of_le hi h.size) (fun ht => hn (hs i hi ht))).trans (h.block i hi hn)⟩

/-- A literal's entry: 'map[K]V{k: v}'. -/
theorem wpList_ins {P : Program} (w : World) {ops : Array Oper} {rest : List Oper} {o : Oper} {a : Act} {Q : Exit → Act → World → Prop} (hg : o.guard = none) (m x v : Operand) (t : TypeId) (hop : o.op = Op.insert t m x v) (k e : TypeId) (K : PairK P k) (ht : P.underlying t = some (.map k e))
    (b n : Nat) (D : DataW Value) (hm : a.eval m = .map (some b)) (hown : w.ownsMap P k anyElem b n D) (hn : n < maxLen) (r : Int × Int) (hx : a.eval x = refV r) (hr : I2 r)
    (u : Value) (hv : a.eval v = u) (hK : ∀ w', w'.ownsMap P k anyElem b (n + 1) (D.put (rlit r) (.held u)) → Only (fun i => i = b) w w' → w'.heap.size = w.heap.size → wpList P ops Q rest (a.put o.dst undef) w') : wpList P ops Q (o :: rest) a w := by
  refine wpList_plain hg fun K' hK' => ?_
  obtain ⟨w', hrun, r1, r2⟩ := hown.store K.keyed ht hn (K.of_ r hr) (show anyElem u = some (.held u, []) from rfl)
  have hs : w'.heap.size = w.heap.size := by
    obtain ⟨es, clock, es', clock', _, rfl⟩ := r2
    simp [Go.ChangeMaps.setBlock]
  unfold Oper.wp
  simp [execOp, hop, hm, hx, hv, hrun, Result.andThen]
  exact hK' _ _ (hK w' r1 (only_turned r2) hs)
end Go.Proofs.Ytdenaejhfgmihaa
