/- A book, described; what it holds. -/
import Derived.Test.YtdenaejhfgmihaaDagFits2
import Derived.Test.YtdenaejhfgmihaaDagSame2
namespace Go.Proofs.Ytdenaejhfgmihaa
open Go.RowKit Go.Maps
set_option linter.unusedVariables false
set_option linter.unusedSimpArgs false

/-- What a change that Check lets by is like. -/
structure GoodC (c : PCh) : Prop where
  ref : refOk c.ref = true
  st : 1 ≤ c.start ∧ c.start ≤ 1000000
  deps : c.deps.length ≤ 12
  ops : c.ops.length ≤ 40
  preds : ∀ o ∈ c.ops, o.op.preds.length ≤ 12
  key : ∀ o ∈ c.ops, o.op.key.size ≤ 20
  val : ∀ o ∈ c.ops, o.op.val.ok = true
theorem firstF_cons {x : Int} {l : List Int} (h : firstF (x :: l) = 0) : x = 0 ∧ firstF l = 0 := by
  unfold firstF at h
  split at h
  · rename_i h0; exact ⟨h0, h⟩
  · rename_i h0; exact absurd h h0
theorem chE_good {c : PCh} (h : chE c.ch = 0) : GoodC c := by
  have hch : c.ch.ops = c.ops.map POp.op := rfl
  unfold chE at h
  split at h
  · rename_i h1
    unfold chE1 at h1
    split at h1
    · exact absurd h1 (by decide)
    · rename_i hn
      simp only [not_or] at hn
      obtain ⟨n1, n2, n3⟩ := hn
      split at h1
      · exact absurd h1 (by decide)
      · rename_i hd
        unfold chE2 at h
        split at h
        · exact absurd h (by decide)
        · rename_i ho
          split at h
          · exact absurd h (by decide)
          · rw [hch, List.length_map] at ho
            have hop : ∀ o ∈ c.ops, opE o.op = 0 := fun o hm => firstF_all h _ (List.mem_map_of_mem (by rw [hch]; exact List.mem_map_of_mem hm))
            have h3 : ∀ o ∈ c.ops, opE3 o.op = 0 ∧ opE4 o.op = 0 := fun o hm => by
              have h0 := hop o hm
              unfold opE at h0
              have a1 := firstF_cons h0
              have a2 := firstF_cons a1.2
              have a3 := firstF_cons a2.2
              exact ⟨a3.1, (firstF_cons a3.2).1⟩
            refine ⟨(Bool.not_eq_false _).mp n1, ⟨by have : ¬ c.start < 1 := n2; omega, by have : ¬ 1000000 < c.start := n3; omega⟩, by have : ¬ 12 < c.deps.length := hd; omega, by omega, fun o hm => ?_, fun o hm => ?_, fun o hm => ?_⟩
            · have h0 := (h3 o hm).1
              unfold opE3 at h0
              split at h0
              · exact absurd h0 (by decide)
              · unfold idsE at h0
                split at h0
                · exact absurd h0 (by decide)
                · omega
            · have h0 := (h3 o hm).1
              unfold opE3 at h0
              split at h0
              · exact absurd h0 (by decide)
              · omega
            · have h0 := (h3 o hm).2
              unfold opE4 at h0
              split at h0
              · exact absurd h0 (by decide)
              · split at h0
                · exact absurd h0 (by decide)
                · rename_i hv; simpa using hv
  · rename_i h1; exact absurd h h1
theorem GoodC.i2 {c : PCh} (h : GoodC c) : I2 c.ref := refOk_i2 h.ref
theorem GoodC.seq {c : PCh} (h : GoodC c) : 1 ≤ c.seq := by
  have h1 : (refOk (c.actor, c.seq)) = true := h.ref
  simp [refOk] at h1
  exact h1.2.1

/-- A map whose keys are keys of another one. -/
theorem size_sub {w w2 : World} {m h : Nat} {Dm Dh : DataW Value} (hm : OM w m Dm) (hh : OM w2 h Dh) (hc : ∀ s, I2 s → hasB Dm s = true → hasB Dh s = true) : Maps.size Dm ≤ Maps.size Dh := by
  obtain ⟨es, e1, e2, e3⟩ := own_keys pairRef hm
  obtain ⟨fs, f1, f2, f3⟩ := own_keys pairRef hh
  have hn : (es.map (·.1)).Nodup := by
    rw [List.Nodup, List.pairwise_map]
    exact e2
  have : DecidableEq Lit := fun a b => Classical.propDecidable (a = b)
  have := nodup_sub_len (es.map (·.1)) (fs.map (·.1)) hn (by
    intro l hl
    obtain ⟨p, hp, rfl⟩ := List.mem_map.1 hl
    obtain ⟨s, hs, e⟩ := e3 p hp
    have h1 : Maps.has Dm (rlit s) = true := by
      rw [e1]
      exact List.any_eq_true.2 ⟨p, hp, by rw [e]; exact WideAt.sameKey_self (rlit_key s)⟩
    rw [hasD_ref hm hs] at h1
    have h2 := hc s hs h1
    rw [← hasD_ref hh hs, f1] at h2
    obtain ⟨q, hq, hqs⟩ := List.any_eq_true.1 h2
    have : q.1 = rlit s := WideAt.sameKey_eq hqs
    rw [e, ← this]
    exact List.mem_map_of_mem hq)
  simp at this
  rw [e1, f1]
  exact this
theorem OM.tidy {w : World} {b : Nat} {D : DataW Value} (h : OM w b D) : Tidy D := World.ownsMap.tidy h keyedRef
theorem OM.size_put {w : World} {b : Nat} {D : DataW Value} (h : OM w b D) (r : Int × Int) (v : DataW Value) : Maps.size (D.put (rlit r) v) ≤ Maps.size D + 1 := by
  rw [Maps.size_put h.tidy]
  split <;> omega
theorem OM.size_del {w : World} {b : Nat} {D : DataW Value} (h : OM w b D) {r : Int × Int} (hr : I2 r) (hh : hasB D r = true) : Maps.size (D.del (rlit r)) + 1 = Maps.size D := by
  have := Maps.size_del (k := rlit r) h.tidy
  rw [hasD_ref h hr, hh] at this
  simpa using this

/-- The changes of a list, as a map. -/
def findC (L : List PCh) (r : Int × Int) : Option PCh := L.find? (fun c => decide (c.ref = r))
theorem findC_some {L : List PCh} {r : Int × Int} {c : PCh} (h : findC L r = some c) : c ∈ L ∧ c.ref = r := ⟨List.mem_of_find?_eq_some h, by simpa using List.find?_some h⟩
theorem findC_mem {L : List PCh} {r : Int × Int} : (findC L r).isSome = true ↔ r ∈ L.map PCh.ref := by
  unfold findC
  rw [List.find?_isSome]
  simp
theorem findC_of {L : List PCh} (hn : (L.map PCh.ref).Nodup) {c : PCh} (hc : c ∈ L) : findC L c.ref = some c := by
  induction L with
  | nil => cases hc
  | cons x L ih =>
    unfold findC
    rw [List.find?_cons]
    rw [List.map_cons, List.nodup_cons] at hn
    rcases List.mem_cons.1 hc with rfl | hc
    · simp
    · have hne : ¬ x.ref = c.ref := fun e => hn.1 (by rw [e]; exact List.mem_map_of_mem hc)
      simp only [hne, decide_false]
      exact ih hn.2 hc
theorem findC_append {L : List PCh} {c : PCh} {r : Int × Int} (hn : c.ref ∉ L.map PCh.ref) : findC (L ++ [c]) r = if r = c.ref then some c else findC L r := by
  unfold findC
  rw [List.find?_append]
  by_cases e : r = c.ref
  · subst e
    have : L.find? (fun x => decide (x.ref = c.ref)) = none := List.find?_eq_none.2 (fun x hx => by
      simp only [decide_eq_true_eq]
      intro e; exact hn (by rw [← e]; exact List.mem_map_of_mem hx))
    simp [this]
  · have : ¬ c.ref = r := fun h => e h.symm
    simp [e, this]

/-- A book: its maps, the changes that are there in the order in which they came, the changes that wait. -/
structure Dag (w : World) (bk h wt bh : Nat) (Dh Dw Db : DataW Value) (L : List PCh) : Prop where
  bkm : BkM w bk h wt bh Dh Dw Db
  beh : BehOk w h wt bh Dh Db
  keys : ∀ r, I2 r → (mget Db r).isSome = (mget Dh r).isSome
  has : ∀ r, I2 r → mget Dh r = (findC L r).map PCh.value
  good : ∀ c ∈ L, InC w c ∧ chE c.ch = 0
  ndp : (L.map PCh.ref).Nodup
  shut : ∀ L1 c L2, L = L1 ++ c :: L2 → ∀ d ∈ c.deps, d ∈ L1.map PCh.ref
  wts : ∀ r, I2 r → ∀ v, mget Dw r = some v → ∃ c : PCh, v = c.value ∧ InC w c ∧ chE c.ch = 0 ∧ c.ref = r
  sz : Maps.size Dh + Maps.size Dw ≤ 120
  apart : ∀ r, I2 r → hasB Dw r = true → hasB Dh r = false
theorem Dag.below {w w' : World} {bk h wt bh : Nat} {Dh Dw Db : DataW Value} {L : List PCh} (H : Dag w bk h wt bh Dh Dw Db L) (hb : Below w.heap.size w w') : Dag w' bk h wt bh Dh Dw Db L :=
  ⟨H.bkm.below hb, fun r hr v hv => by
      obtain ⟨m, Dm, e1, e2, e3⟩ := H.beh r hr v hv
      exact ⟨m, Dm, e1, e2.below hb, e3⟩, H.keys, H.has, fun c hc => ⟨(H.good c hc).1.below hb, (H.good c hc).2⟩, H.ndp, H.shut, fun r hr v hv => by
      obtain ⟨c, e1, e2, e3⟩ := H.wts r hr v hv
      exact ⟨c, e1, e2.below hb, e3⟩, H.sz, H.apart⟩
theorem Dag.hasB_mem {w : World} {bk h wt bh : Nat} {Dh Dw Db : DataW Value} {L : List PCh} (H : Dag w bk h wt bh Dh Dw Db L) {r : Int × Int} (hr : I2 r) : hasB Dh r = true ↔ r ∈ L.map PCh.ref := by
  unfold hasB
  rw [H.has r hr, Option.isSome_map]
  exact findC_mem
theorem Dag.chmap {w : World} {bk h wt bh : Nat} {Dh Dw Db : DataW Value} {L : List PCh} (H : Dag w bk h wt bh Dh Dw Db L) : ChMap Dh := fun r hr v hv => by
  rw [H.has r hr] at hv
  obtain ⟨c, hc, rfl⟩ := Option.map_eq_some_iff.1 hv
  exact ⟨c, rfl⟩
theorem Dag.inHas {w : World} {bk h wt bh : Nat} {Dh Dw Db : DataW Value} {L : List PCh} (H : Dag w bk h wt bh Dh Dw Db L) : InHas w Dh := fun r hr v hv => by
  rw [H.has r hr] at hv
  obtain ⟨c, hc, rfl⟩ := Option.map_eq_some_iff.1 hv
  have hm := (findC_some hc).1
  have hg := chE_good (H.good c hm).2
  exact ⟨c, rfl, (H.good c hm).1, ⟨by have := hg.st; omega, hg.st.2⟩, hg.ops⟩
theorem Dag.sizeDb {w : World} {bk h wt bh : Nat} {Dh Dw Db : DataW Value} {L : List PCh} (H : Dag w bk h wt bh Dh Dw Db L) : Maps.size Db ≤ Maps.size Dh :=
  size_sub H.bkm.beh H.bkm.has (fun s hs hb => by unfold hasB at *; rw [← H.keys s hs]; exact hb)
theorem Dag.deps {w : World} {bk h wt bh : Nat} {Dh Dw Db : DataW Value} {L : List PCh} (H : Dag w bk h wt bh Dh Dw Db L) {c : PCh} (hi : ∀ d ∈ c.deps, I2 d) (hr : readyB Dh c.deps = true) : (∀ d ∈ c.deps, d ∈ L.map PCh.ref) ∧ ∀ d ∈ c.deps, (mget Db d).isSome = true := by
  unfold readyB at hr
  have h1 : ∀ d ∈ c.deps, hasB Dh d = true := by
    intro d hd
    simp at hr
    exact hr d.1 d.2 hd
  refine ⟨fun d hd => (H.hasB_mem (hi d hd)).1 (h1 d hd), fun d hd => ?_⟩
  rw [H.keys d (hi d hd)]
  exact h1 d hd

/-- Behind put. -/
theorem Dag.put {w w' : World} {bk h wt bh m : Nat} {Dh Dw Db Dm : DataW Value} {L : List PCh} {c : PCh} (H : Dag w bk h wt bh Dh Dw Db L) (hc : InC w c) (hg : chE c.ch = 0) (hn : hasB Dh c.ref = false) (hnw : hasB Dw c.ref = false) (hd : ∀ d ∈ c.deps, d ∈ L.map PCh.ref)
    (hsz : Maps.size Dh + Maps.size Dw < 120)
    (hb : BkM w' bk h wt bh (Dh.put (rlit c.ref) (.held c.value)) Dw (Db.put (rlit c.ref) (.held (.map (some m))))) (hm : OM w' m Dm) (hwm : w.heap.size ≤ m) (hk : Cont Dh c.ref Dm) (ho : Only (fun i => i = h ∨ i = bh) w w') :
    Dag w' bk h wt bh (Dh.put (rlit c.ref) (.held c.value)) Dw (Db.put (rlit c.ref) (.held (.map (some m)))) (L ++ [c]) := by
  have hr := (chE_good hg).i2
  have hnr : c.ref ∉ L.map PCh.ref := fun e => by rw [(H.hasB_mem hr).2 e] at hn; cases hn
  have gh : ∀ s, I2 s → mget (Dh.put (rlit c.ref) (.held c.value)) s = if s = c.ref then some c.value else mget Dh s := fun s hs => H.bkm.has.get_put hr hs _
  have gb : ∀ s, I2 s → mget (Db.put (rlit c.ref) (.held (.map (some m)))) s = if s = c.ref then some (.map (some m)) else mget Db s := fun s hs => H.bkm.beh.get_put hr hs _
  have hS : ∀ i, (i = h ∨ i = bh) → IsMapB w i := fun i e => by
    rcases e with rfl | rfl
    · exact H.bkm.has.isMapB
    · exact H.bkm.beh.isMapB
  have hh : ∀ s, I2 s → hasB Dh s = true → hasB (Dh.put (rlit c.ref) (.held c.value)) s = true := fun s hs e => by
    unfold hasB at *
    rw [gh s hs]
    split
    · rfl
    · exact e
  refine ⟨hb, ?_, ?_, ?_, ?_, ?_, ?_, ?_, ?_, ?_⟩
  · intro r hr' v hv
    rw [gb r hr'] at hv
    split at hv
    · rename_i e
      have := Option.some.inj hv
      have l1 := H.bkm.has.lt
      have l2 := H.bkm.wts.lt
      have l3 := H.bkm.beh.lt
      refine ⟨m, Dm, this.symm, hm, by omega, by omega, by omega, fun s hs u hu => ?_⟩
      obtain ⟨k1, k2⟩ := hk s hs u hu
      refine ⟨k1, ?_⟩
      rcases k2 with rfl | k2
      · unfold hasB
        rw [gh _ hs, if_pos rfl]; rfl
      · exact hh s hs k2
    · obtain ⟨m', Dm', e1, e2, e3, e4, e5, e6⟩ := H.beh r hr' v hv
      exact ⟨m', Dm', e1, e2.only ho (fun e => by rcases e with e | e; exact e3 e; exact e5 e), e3, e4, e5, fun s hs u hu => ⟨(e6 s hs u hu).1, hh s hs (e6 s hs u hu).2⟩⟩
  · intro r hr'
    rw [gh r hr', gb r hr']
    split
    · rfl
    · exact H.keys r hr'
  · intro r hr'
    rw [gh r hr', findC_append hnr]
    split
    · rfl
    · exact H.has r hr'
  · intro x hx
    rcases List.mem_append.1 hx with hx | hx
    · exact ⟨(H.good x hx).1.maps ho hS, (H.good x hx).2⟩
    · rw [List.mem_singleton] at hx
      subst hx
      exact ⟨hc.maps ho hS, hg⟩
  · rw [List.map_append, List.nodup_append]
    refine ⟨H.ndp, by simp, fun a ha b hb' e => ?_⟩
    simp at hb'
    subst hb'
    exact hnr (e ▸ ha)
  · intro L1 x L2 he
    rcases List.eq_nil_or_concat L2 with rfl | ⟨L3, y, rfl⟩
    · have := List.append_inj' he rfl
      have h2 := this.2
      injection h2 with h2 _
      subst h2
      rw [← this.1]
      exact hd
    · have he2 : L ++ [c] = (L1 ++ x :: L3) ++ [y] := by rw [he]; simp
      have := (List.append_inj' he2 rfl).1
      exact H.shut L1 x L3 this
  · intro r hr' v hv
    obtain ⟨x, e1, e2, e3⟩ := H.wts r hr' v hv
    exact ⟨x, e1, e2.maps ho hS, e3⟩
  · have := H.bkm.has.size_put c.ref (.held c.value)
    omega
  · intro r hr' hw
    unfold hasB
    rw [gh r hr']
    split
    · rename_i e
      subst e
      rw [hnw] at hw
      cases hw
    · exact H.apart r hr' hw
/-- A change that waits. -/
theorem Dag.wait {w w' : World} {bk h wt bh : Nat} {Dh Dw Db : DataW Value} {L : List PCh} {c : PCh} (H : Dag w bk h wt bh Dh Dw Db L) (hc : InC w c) (hg : chE c.ch = 0) (hn : hasB Dh c.ref = false) (hsz : Maps.size Dh + Maps.size Dw < 120)
    (hm : OM w' wt (Dw.put (rlit c.ref) (.held c.value))) (ho : Only (fun i => i = wt) w w') : Dag w' bk h wt bh Dh (Dw.put (rlit c.ref) (.held c.value)) Db L := by
  have hr := (chE_good hg).i2
  have hS : ∀ i, i = wt → IsMapB w i := fun i e => by subst e; exact H.bkm.wts.isMapB
  have hnb := H.bkm.nbk
  refine ⟨⟨H.bkm.blk.only ho hnb.2.1, H.bkm.has.only ho H.bkm.n1, hm, H.bkm.beh.only ho (fun e => H.bkm.n3 e.symm), H.bkm.n1, H.bkm.n2, H.bkm.n3⟩, ?_, H.keys, H.has, fun x hx => ⟨(H.good x hx).1.maps ho hS, (H.good x hx).2⟩, H.ndp, H.shut, ?_, ?_, ?_⟩
  · intro r hr' v hv
    obtain ⟨m', Dm', e1, e2, e3, e4, e5, e6⟩ := H.beh r hr' v hv
    exact ⟨m', Dm', e1, e2.only ho e4, e3, e4, e5, e6⟩
  · intro r hr' v hv
    rw [H.bkm.wts.get_put hr hr'] at hv
    split at hv
    · rename_i e
      exact ⟨c, (Option.some.inj hv).symm, hc.maps ho hS, hg, e.symm⟩
    · obtain ⟨x, e1, e2, e3⟩ := H.wts r hr' v hv
      exact ⟨x, e1, e2.maps ho hS, e3⟩
  · have := H.bkm.wts.size_put c.ref (.held c.value)
    omega
  · intro r hr' hw
    unfold hasB at hw
    rw [H.bkm.wts.get_put hr hr'] at hw
    split at hw
    · rename_i e
      rw [e]
      exact hn
    · exact H.apart r hr' hw
/-- One that waits no more. -/
theorem Dag.free {w w' : World} {bk h wt bh : Nat} {Dh Dw Db : DataW Value} {L : List PCh} {r : Int × Int} (H : Dag w bk h wt bh Dh Dw Db L) (hr : I2 r)
    (hm : OM w' wt (Dw.del (rlit r))) (ho : Only (fun i => i = wt) w w') (hh : hasB Dw r = true) : Dag w' bk h wt bh Dh (Dw.del (rlit r)) Db L ∧ Maps.size Dh + Maps.size (Dw.del (rlit r)) < 120 ∧ Maps.size (Dw.del (rlit r)) < Maps.size Dw := by
  have hS : ∀ i, i = wt → IsMapB w i := fun i e => by subst e; exact H.bkm.wts.isMapB
  have hnb := H.bkm.nbk
  have hs := H.bkm.wts.size_del hr hh
  have hz := H.sz
  refine ⟨⟨⟨H.bkm.blk.only ho hnb.2.1, H.bkm.has.only ho H.bkm.n1, hm, H.bkm.beh.only ho (fun e => H.bkm.n3 e.symm), H.bkm.n1, H.bkm.n2, H.bkm.n3⟩, ?_, H.keys, H.has, fun x hx => ⟨(H.good x hx).1.maps ho hS, (H.good x hx).2⟩, H.ndp, H.shut, ?_, by omega, ?_⟩, by omega, by omega⟩
  · intro r' hr' v hv
    obtain ⟨m', Dm', e1, e2, e3, e4, e5, e6⟩ := H.beh r' hr' v hv
    exact ⟨m', Dm', e1, e2.only ho e4, e3, e4, e5, e6⟩
  · intro r' hr' v hv
    rw [mget_del pairRef hr hr'] at hv
    split at hv
    · cases hv
    · obtain ⟨x, e1, e2, e3⟩ := H.wts r' hr' v hv
      exact ⟨x, e1, e2.maps ho hS, e3⟩
  · intro r' hr' hw
    unfold hasB at hw
    rw [mget_del pairRef hr hr'] at hw
    split at hw
    · cases hw
    · exact H.apart r' hr' hw
end Go.Proofs.Ytdenaejhfgmihaa
