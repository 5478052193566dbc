/- A book, described exactly: what it has, what waits, what is behind what. state.State.Do of an op that comes in nowhere: a contract. -/
import Derived.Test.YthimkpkoimfkiaaGreatCg20
import Derived.Test.YthimkpkoimfkiaaGreatCg22
import Derived.Test.YthimkpkoimfkiaaGreatCg19
import Derived.Deep.RegionHeld3
import Derived.WalkSpells
import Derived.Deep.Quiet
import Derived.Deep.QuietTactic
import Derived.BigQuiet
namespace Go.Proofs.YthimkpkoimfkiaaGreat
open Go.RowKit Go.Maps
set_option linter.unusedVariables false
set_option linter.unusedSimpArgs false

/-- Of two worlds the blocks of a set are the same. -/
def Agree (F : Nat → Prop) (w W : World) : Prop := ∀ b, F b → b < w.heap.size → W.heap[b]? = w.heap[b]?
/-- A change that stands wherever the blocks of a set do. -/
def Stays (F : Nat → Prop) (w : World) (c : PCh) : Prop := ∀ W, Agree F w W → InC W c
theorem Stays.inC {F : Nat → Prop} {w : World} {c : PCh} (h : Stays F w c) : InC w c := h w (fun _ _ _ => rfl)
theorem Stays.only {F S : Nat → Prop} {w w' : World} {c : PCh} (h : Stays F w c) (ho : Only S w w') (hS : ∀ i, i < w.heap.size → S i → ¬ F i) : Stays F w' c :=
  fun W hW => h W (fun b hb hl => (hW b hb (Nat.lt_of_lt_of_le hl ho.size)).trans (ho.block b hl (fun e => hS b hl e hb)))
theorem Stays.below {F : Nat → Prop} {w w' : World} {c : PCh} (h : Stays F w c) (hb : Below w.heap.size w w') : Stays F w' c := h.only (S := fun _ => False) (Only.of_below hb) (fun _ _ e => e.elim)
structure DagX (w : World) (F : Nat → Prop) (bk h wt bh : Nat) (Dh Dw Db : DataW Value) (L Wl : List PCh) : Prop extends Dag w bk h wt bh Dh Dw Db L where
  behx : BehX w h wt bh Dh Db (behL (L.map PCh.ch))
  fine : Fine (L.map PCh.ch)
  wx : ∀ r, I2 r → mget Dw r = (findC Wl r).map PCh.value
  win : ∀ c ∈ Wl, InC w c ∧ chE c.ch = 0
  wnd : (Wl.map PCh.ref).Nodup
  szh : Maps.size Dh = L.length
  szw : Maps.size Dw = Wl.length
  fx : ∀ c, c ∈ L ∨ c ∈ Wl → Stays F w c
  fb : ∀ r, I2 r → ∀ m, mget Db r = some (.map (some m)) → F m
  fn : ¬ F bk ∧ ¬ F h ∧ ¬ F wt ∧ ¬ F bh
  fh : ∀ i, w.heap.size ≤ i → F i
theorem BehX.below {w w' : World} {h wt bh : Nat} {Dh Db : DataW Value} {beh : Int × Int → List (Int × Int)} (H : BehX w h wt bh Dh Db beh) (hb : Below w.heap.size w w') : BehX w' h wt bh Dh Db beh := fun r hr v hv => by
  obtain ⟨m, Dm, e1, e2, e3⟩ := H r hr v hv
  exact ⟨m, Dm, e1, e2.below hb, e3⟩
theorem DagX.below {w w' : World} {F : Nat → Prop} {bk h wt bh : Nat} {Dh Dw Db : DataW Value} {L Wl : List PCh} (H : DagX w F bk h wt bh Dh Dw Db L Wl) (hb : Below w.heap.size w w') : DagX w' F bk h wt bh Dh Dw Db L Wl :=
  ⟨H.toDag.below hb, H.behx.below hb, H.fine, H.wx, fun c hc => ⟨(H.win c hc).1.below hb, (H.win c hc).2⟩, H.wnd, H.szh, H.szw, fun c hc => (H.fx c hc).below hb, H.fb, H.fn, fun i hi => H.fh i (Nat.le_trans hb.size hi)⟩
theorem DagX.ready {w : World} {F : Nat → Prop} {bk h wt bh : Nat} {Dh Dw Db : DataW Value} {L Wl : List PCh} (H : DagX w F bk h wt bh Dh Dw Db L Wl) {c : PCh} (hi : ∀ d ∈ c.deps, I2 d) : readyB Dh c.deps = readyL (L.map PCh.ch) c.ch := by
  unfold readyB readyL
  rw [map_ch_ref, List.not_any_eq_all_not]
  show _ = c.deps.all _
  have key : ∀ l : List (Int × Int), (∀ d ∈ l, I2 d) → l.all (fun a => !!hasB Dh a) = l.all (fun d => decide (d ∈ L.map PCh.ref)) := by
    intro l hl
    rw [Bool.eq_iff_iff, List.all_eq_true, List.all_eq_true]
    refine forall_congr' fun d => imp_congr_right fun hd => ?_
    rw [Bool.not_not, H.hasB_mem (hl d hd), decide_eq_true_eq]
  exact key c.deps hi
theorem size_put_new {w : World} {b : Nat} {D : DataW Value} (h : OM w b D) {r : Int × Int} (hr : I2 r) (hn : hasB D r = false) (v : DataW Value) : Maps.size (D.put (rlit r) v) = Maps.size D + 1 := by
  rw [Maps.size_put h.tidy, hasD_ref h hr, hn]
  simp
/-- Behind put. -/
theorem DagX.put {w w' : World} {F : Nat → Prop} {bk h wt bh m : Nat} {Dh Dw Db Dm : DataW Value} {L Wl : List PCh} {c : PCh} (H : DagX w F bk h wt bh Dh Dw Db L Wl) (hst : Stays F w c) (hg : chE c.ch = 0) (hn : hasB Dh c.ref = false) (hnw : hasB Dw c.ref = false) (hd : ∀ d ∈ c.deps, d ∈ L.map PCh.ref)
    (hsz : Maps.size Dh + Maps.size Dw < 120) (hf : fitsB (L.map PCh.ch) c.ch = true)
    (hb : BkM w' bk h wt bh (Dh.put (rlit c.ref) (.held c.value)) Dw (Db.put (rlit c.ref) (.held (.map (some m))))) (hm : OM w' m Dm) (hwm : w.heap.size ≤ m) (hk : Cont Dh c.ref Dm) (hkx : KeyPred Dm (fun s => s = c.ref ∨ ∃ d ∈ c.deps, s ∈ behL (L.map PCh.ch) d)) (ho : Only (fun i => i = h ∨ i = bh) w w') :
    DagX w' F bk h wt bh (Dh.put (rlit c.ref) (.held c.value)) Dw (Db.put (rlit c.ref) (.held (.map (some m)))) (L ++ [c]) Wl := by
  have hc := hst.inC
  have hSF : ∀ i, i < w.heap.size → (i = h ∨ i = bh) → ¬ F i := fun i _ e => by
    rcases e with rfl | rfl
    · exact H.fn.2.1
    · exact H.fn.2.2.2
  have hD := H.toDag.put hc hg hn hnw hd hsz hb hm hwm hk ho
  have hr := (chE_good hg).i2
  have hnr : c.ref ∉ L.map PCh.ref := fun e => by rw [(H.hasB_mem hr).2 e] at hn; cases hn
  have hS : ∀ i, (i = h ∨ i = bh) → IsMapB w i := fun i e => by
    rcases e with rfl | rfl
    · exact H.bkm.has.isMapB
    · exact H.bkm.beh.isMapB
  have hmap : (L ++ [c]).map PCh.ch = L.map PCh.ch ++ [c.ch] := by rw [List.map_append]; rfl
  have gh : ∀ s, I2 s → mget (Dh.put (rlit c.ref) (.held c.value)) s = if s = c.ref then some c.value else mget Dh s := fun s hs => H.bkm.has.get_put hr hs _
  have hh : ∀ s, I2 s → hasB Dh s = true → hasB (Dh.put (rlit c.ref) (.held c.value)) s = true := fun s hs e => by
    unfold hasB at *
    rw [gh s hs]
    split
    · rfl
    · exact e
  refine ⟨hD, ?_, ?_, H.wx, fun x hx => ⟨(H.win x hx).1.maps ho hS, (H.win x hx).2⟩, H.wnd, ?_, H.szw, fun x hx => ?_, fun r hr' m' hm' => ?_, H.fn, fun i hi => H.fh i (Nat.le_trans ho.size hi)⟩
  · intro r hr' v hv
    rw [H.bkm.beh.get_put hr hr'] at hv
    rw [hmap]
    split at hv
    · rename_i e
      have e7 := Option.some.inj hv
      have l1 := H.bkm.has.lt
      have l2 := H.bkm.wts.lt
      have l3 := H.bkm.beh.lt
      refine ⟨m, Dm, e7.symm, hm, by omega, by omega, by omega, fun s hs u hu => ?_, fun s hs => ?_⟩
      · obtain ⟨k1, k2⟩ := hk s hs u hu
        refine ⟨k1, ?_⟩
        rcases k2 with rfl | k2
        · unfold hasB
          rw [gh _ hs, if_pos rfl]; rfl
        · exact hh s hs k2
      · show _ ↔ s ∈ behL (L.map PCh.ch ++ [c.ch]) r
        rw [hkx s hs, behL_snoc, if_pos (e.trans c.ch_ref.symm), List.mem_cons, List.mem_flatMap]
        exact Iff.rfl
    · rename_i e
      obtain ⟨m2, Dm2, f1, f2, f3, f4, f5, f6, f7⟩ := H.behx r hr' v hv
      refine ⟨m2, Dm2, f1, f2.only ho (fun e => by rcases e with e | e; exact f3 e; exact f5 e), f3, f4, f5, fun s hs u hu => ⟨(f6 s hs u hu).1, hh s hs (f6 s hs u hu).2⟩, fun s hs => ?_⟩
      show _ ↔ s ∈ behL (L.map PCh.ch ++ [c.ch]) r
      rw [behL_snoc, if_neg (fun h => e (h.trans c.ch_ref))]
      exact f7 s hs
  · rw [hmap]
    refine H.fine.snoc (by rw [map_ch_ref]; exact hnr) (by rw [map_ch_ref]; exact hd) hf (chE_good hg).seq
  · rw [size_put_new H.bkm.has hr hn, H.szh, List.length_append]
    rfl
  · rcases hx with hx | hx
    · rcases List.mem_append.1 hx with hx | hx
      · exact (H.fx x (.inl hx)).only ho hSF
      · rw [List.mem_singleton] at hx
        subst hx
        exact hst.only ho hSF
    · exact (H.fx x (.inr hx)).only ho hSF
  · rw [H.bkm.beh.get_put hr hr'] at hm'
    split at hm'
    · injection hm' with e
      injection e with e
      injection e with e
      subst e
      exact H.fh _ hwm
    · exact H.fb r hr' m' hm'
/-- A change that waits. -/
theorem DagX.wait {w w' : World} {F : Nat → Prop} {bk h wt bh : Nat} {Dh Dw Db : DataW Value} {L Wl : List PCh} {c : PCh} (H : DagX w F bk h wt bh Dh Dw Db L Wl) (hst : Stays F w c) (hg : chE c.ch = 0) (hn : hasB Dh c.ref = false) (hnw : hasB Dw c.ref = false) (hsz : Maps.size Dh + Maps.size Dw < 120)
    (hm : OM w' wt (Dw.put (rlit c.ref) (.held c.value))) (ho : Only (fun i => i = wt) w w') : DagX w' F bk h wt bh Dh (Dw.put (rlit c.ref) (.held c.value)) Db L (Wl ++ [c]) := by
  have hc := hst.inC
  have hSF : ∀ i, i < w.heap.size → i = wt → ¬ F i := fun i _ e => by subst e; exact H.fn.2.2.1
  have hr := (chE_good hg).i2
  have hS : ∀ i, i = wt → IsMapB w i := fun i e => by subst e; exact H.bkm.wts.isMapB
  have hnr : c.ref ∉ Wl.map PCh.ref := fun e => by
    have h1 := H.wx c.ref hr
    have h2 := findC_mem.2 e
    unfold hasB at hnw
    rw [h1, Option.isSome_map, h2] at hnw
    cases hnw
  refine ⟨H.toDag.wait hc hg hn hsz hm ho, ?_, H.fine, ?_, ?_, ?_, H.szh, ?_, fun x hx => ?_, H.fb, H.fn, fun i hi => H.fh i (Nat.le_trans ho.size hi)⟩
  · intro r hr' v hv
    obtain ⟨m', Dm', e1, e2, e3, e4, e5, e6⟩ := H.behx r hr' v hv
    exact ⟨m', Dm', e1, e2.only ho e4, e3, e4, e5, e6⟩
  · intro r hr'
    rw [H.bkm.wts.get_put hr hr', findC_append hnr]
    split
    · rfl
    · exact H.wx r hr'
  · intro x hx
    rcases List.mem_append.1 hx with hx | hx
    · exact ⟨(H.win x hx).1.maps ho hS, (H.win x hx).2⟩
    · rw [List.mem_singleton] at hx
      subst hx
      exact ⟨hc.maps ho hS, hg⟩
  · rw [List.map_append, List.nodup_append]
    refine ⟨H.wnd, by simp, fun a ha b hb' e => ?_⟩
    simp at hb'
    subst hb'
    exact hnr (e ▸ ha)
  · rw [size_put_new H.bkm.wts hr hnw, H.szw, List.length_append]
    rfl
  · rcases hx with hx | hx
    · exact (H.fx x (.inl hx)).only ho hSF
    · rcases List.mem_append.1 hx with hx | hx
      · exact (H.fx x (.inr hx)).only ho hSF
      · rw [List.mem_singleton] at hx
        subst hx
        exact hst.only ho hSF
def outC (W : List PCh) (r : Int × Int) : List PCh := W.filter (fun x => decide (x.ref ≠ r))
theorem outC_map (W : List PCh) (r : Int × Int) : (outC W r).map PCh.ch = outR (W.map PCh.ch) r := by
  unfold outC outR
  rw [List.filter_map]
  rfl
theorem findC_out {W : List PCh} {r s : Int × Int} : findC (outC W r) s = if s = r then none else findC W s := by
  unfold findC outC
  rw [List.find?_filter]
  split
  · rename_i e
    subst e
    rw [List.find?_eq_none]
    intro x _
    simp
  · rename_i e
    congr 1
    funext x
    by_cases h : x.ref = s
    · simp [h, e]
    · simp [h]
theorem outC_len {W : List PCh} {c : PCh} (hn : (W.map PCh.ref).Nodup) (hc : c ∈ W) : (outC W c.ref).length + 1 = W.length := by
  induction W with
  | nil => cases hc
  | cons x W ih =>
    rw [List.map_cons, List.nodup_cons] at hn
    unfold outC
    rw [List.filter_cons]
    rcases List.mem_cons.1 hc with rfl | hc
    · have : W.filter (fun x => decide (x.ref ≠ c.ref)) = W := List.filter_eq_self.2 (fun x hx => by
        have : x.ref ≠ c.ref := fun e => hn.1 (e ▸ List.mem_map_of_mem hx)
        simpa using this)
      rw [if_neg (by simp), this]
      rfl
    · have hne : x.ref ≠ c.ref := fun e => hn.1 (e ▸ List.mem_map_of_mem hc)
      rw [if_pos (by simpa using hne), List.length_cons, List.length_cons]
      have := ih hn.2 hc
      unfold outC at this
      omega
/-- One that waits no more. -/
theorem DagX.free {w w' : World} {F : Nat → Prop} {bk h wt bh : Nat} {Dh Dw Db : DataW Value} {L Wl : List PCh} {c : PCh} (H : DagX w F bk h wt bh Dh Dw Db L Wl) (hr : I2 c.ref)
    (hm : OM w' wt (Dw.del (rlit c.ref))) (ho : Only (fun i => i = wt) w w') (hc : c ∈ Wl) : DagX w' F bk h wt bh Dh (Dw.del (rlit c.ref)) Db L (outC Wl c.ref) ∧ Maps.size Dh + Maps.size (Dw.del (rlit c.ref)) < 120 ∧ Maps.size (Dw.del (rlit c.ref)) < Maps.size Dw := by
  have hh : hasB Dw c.ref = true := by
    unfold hasB
    rw [H.wx _ hr, Option.isSome_map]
    exact findC_mem.2 (List.mem_map_of_mem hc)
  obtain ⟨h1, h2, h3⟩ := H.toDag.free hr hm ho hh
  have hS : ∀ i, i = wt → IsMapB w i := fun i e => by subst e; exact H.bkm.wts.isMapB
  have hSF : ∀ i, i < w.heap.size → i = wt → ¬ F i := fun i _ e => by subst e; exact H.fn.2.2.1
  refine ⟨⟨h1, ?_, H.fine, ?_, fun x hx => ?_, ?_, H.szh, ?_, fun x hx => (H.fx x (hx.imp id (fun k => (List.mem_filter.1 k).1))).only ho hSF, H.fb, H.fn, fun i hi => H.fh i (Nat.le_trans ho.size hi)⟩, h2, h3⟩
  · intro r hr' v hv
    obtain ⟨m', Dm', e1, e2, e3, e4, e5, e6⟩ := H.behx r hr' v hv
    exact ⟨m', Dm', e1, e2.only ho e4, e3, e4, e5, e6⟩
  · intro r hr'
    rw [mget_del pairRef hr hr', findC_out]
    split
    · rfl
    · exact H.wx r hr'
  · have hx := (List.mem_filter.1 hx).1
    exact ⟨(H.win x hx).1.maps ho hS, (H.win x hx).2⟩
  · exact ((List.filter_sublist (p := fun x => decide (x.ref ≠ c.ref))).map PCh.ref).nodup H.wnd
  · have := H.bkm.wts.size_del hr hh
    have := outC_len H.wnd hc
    have := H.szw
    omega
/-- What others do to blocks of their own leaves a book as it was. -/
theorem DagX.other {w w' : World} {F S : Nat → Prop} {bk h wt bh : Nat} {Dh Dw Db : DataW Value} {L Wl : List PCh} (H : DagX w F bk h wt bh Dh Dw Db L Wl) (ho : Only S w w')
    (hS : ∀ i, i < w.heap.size → S i → ¬ F i ∧ i ≠ bk ∧ i ≠ h ∧ i ≠ wt ∧ i ≠ bh) : DagX w' (fun i => (F i ∧ i < w.heap.size) ∨ w'.heap.size ≤ i) bk h wt bh Dh Dw Db L Wl := by
  have hlk := H.bkm.blk.lt
  have hlh := H.bkm.has.lt
  have hlw := H.bkm.wts.lt
  have hlb := H.bkm.beh.lt
  have hSF : ∀ i, i < w.heap.size → S i → ¬ F i := fun i hi e => (hS i hi e).1
  have hc : ∀ c, c ∈ L ∨ c ∈ Wl → InC w' c := fun c hc => ((H.fx c hc).only ho hSF).inC
  have hb' : ∀ r, I2 r → ∀ m, mget Db r = some (.map (some m)) → m < w.heap.size → ¬ S m := fun r hr m hm hl e => (hS m hl e).1 (H.fb r hr m hm)
  refine ⟨⟨⟨H.bkm.blk.only ho (fun e => (hS _ hlk e).2.1 rfl), H.bkm.has.only ho (fun e => (hS _ hlh e).2.2.1 rfl), H.bkm.wts.only ho (fun e => (hS _ hlw e).2.2.2.1 rfl), H.bkm.beh.only ho (fun e => (hS _ hlb e).2.2.2.2 rfl), H.bkm.n1, H.bkm.n2, H.bkm.n3⟩, ?_, H.keys, H.has, fun c k => ⟨hc c (.inl k), (H.good c k).2⟩, H.ndp, H.shut, ?_, H.sz, H.apart⟩, ?_, H.fine, H.wx, fun c k => ⟨hc c (.inr k), (H.win c k).2⟩, H.wnd, H.szh, H.szw, fun c k => ?_, fun r hr m hm => ?_, ?_, fun i hi => .inr hi⟩
  · intro r hr v hv
    obtain ⟨m, Dm, e1, e2, e3⟩ := H.beh r hr v hv
    exact ⟨m, Dm, e1, e2.only ho (hb' r hr m (by rw [hv, e1]) e2.lt), e3⟩
  · intro r hr v hv
    rw [H.wx r hr] at hv
    obtain ⟨x, hx, rfl⟩ := Option.map_eq_some_iff.1 hv
    exact ⟨x, rfl, hc x (.inr (findC_some hx).1), (H.win x (findC_some hx).1).2, (findC_some hx).2⟩
  · intro r hr v hv
    obtain ⟨m, Dm, e1, e2, e3⟩ := H.behx r hr v hv
    exact ⟨m, Dm, e1, e2.only ho (hb' r hr m (by rw [hv, e1]) e2.lt), e3⟩
  · intro W hW
    exact H.fx c k W (fun b hb hl => (hW b (.inl ⟨hb, hl⟩) (Nat.lt_of_lt_of_le hl ho.size)).trans (ho.block b hl (fun e => hSF b hl e hb)))
  · obtain ⟨m2, Dm, e1, e2, e3⟩ := H.behx r hr _ hm
    injection e1 with e1
    injection e1 with e1
    subst e1
    exact .inl ⟨H.fb r hr m hm, e2.lt⟩
  · have hsz := ho.size
    obtain ⟨f1, f2, f3, f4⟩ := H.fn
    exact ⟨fun e => by rcases e with e | e; exact f1 e.1; omega, fun e => by rcases e with e | e; exact f2 e.1; omega, fun e => by rcases e with e | e; exact f3 e.1; omega, fun e => by rcases e with e | e; exact f4 e.1; omega⟩
end Go.Proofs.YthimkpkoimfkiaaGreat
namespace Go.Proofs.YthimkpkoimfkiaaGreat
open Go.RowKit Go.Maps
set_option linter.unusedVariables false
set_option linter.unusedSimpArgs false

theorem StM.mono {w : World} {B sb kb vb ib lb N M : Nat} {s : Sta} (h : StM w B sb kb vb ib lb N s) (hN : N ≤ M) : StM w B sb kb vb ib lb M s := by
  obtain ⟨Dk, k1, k2, k3⟩ := h.ks
  obtain ⟨Dv, v1, v2, v3, v4⟩ := h.vs
  refine ⟨h.blk, ⟨Dk, k1, k2, by omega⟩, ⟨Dv, v1, by omega, fun x hx => ?_, v4⟩, h.low, h.ne⟩
  have := v3 x hx
  cases e : s.vals x with
  | none => rw [e] at this; exact this
  | some f =>
    rw [e] at this
    obtain ⟨m, m1, ⟨Dm, g1, g2, g3⟩, m3⟩ := this
    exact ⟨m, m1, ⟨Dm, g1, g2, by omega⟩, m3⟩
/-- What is no map is as it was. -/
def KeepNM (w w' : World) : Prop := ∀ k, k < w.heap.size → ¬ IsMapB w k → w'.heap[k]? = w.heap[k]?
theorem KeepNM.blk {w w' : World} (h : KeepNM w w') {g : Nat} {t : TypeId} {cs : Array Value} (hb : Blk w g t cs) : Blk w' g t cs := (h g hb.lt (blk_noMap hb)).trans hb
/-- The boxes of Do. -/
structure DoB (w : World) (B : Nat) (o : OpV) (pA : Option Addr) (pc : Nat) (n : Int × Int) (W : World) : Prop where
  op : Blk W w.heap.size 53 #[.int .i64 o.kind, .int .i64 o.obj.1, .int .i64 o.obj.2, .string o.key, .int .i64 o.elem.1, .int .i64 o.elem.2, .bool false, .int .i64 o.val.k, .int .i64 o.val.n, .string o.val.s, .int .i64 o.val.o, .int .i64 o.val.p, .slice pA o.preds.length pc]
  id : Blk W (w.heap.size + 1) 24 #[.int .i64 n.1, .int .i64 n.2]
  wh : Blk W (w.heap.size + 1 + 1) 108 #[.int .i64 o.obj.1, .int .i64 o.obj.2, .string o.key, .int .i64 o.elem.1, .int .i64 o.elem.2]
  preds : SlAt W pA (refs o.preds)
  bel : Below B w W
  size : w.heap.size + 3 ≤ W.heap.size
  nm : KeepNM w W
theorem DoB.new {w W W' : World} {B : Nat} {o : OpV} {pA : Option Addr} {pc : Nat} {n : Int × Int} (h : DoB w B o pA pc n W) (hB : B ≤ w.heap.size) (hb : Below W.heap.size W W') : DoB w B o pA pc n W' :=
  ⟨h.op.below hb h.op.lt, h.id.below hb h.id.lt, h.wh.below hb h.wh.lt, h.preds.below hb, h.bel.trans (hb.mono (by have := h.bel.size; omega)), by have := h.size; have := hb.size; omega, fun k hk hn => (hb.block k (by have := h.size; omega)).trans (h.nm k hk hn)⟩
theorem DoB.maps {w W W' : World} {B : Nat} {o : OpV} {pA : Option Addr} {pc : Nat} {n : Int × Int} {S : Nat → Prop} (h : DoB w B o pA pc n W) (hB : B ≤ w.heap.size) (ho : Only S W W') (hS : ∀ i, S i → IsMapB W i ∧ B ≤ i) : DoB w B o pA pc n W' :=
  ⟨h.op.only ho (fun e => blk_noMap h.op (hS _ e).1), h.id.only ho (fun e => blk_noMap h.id (hS _ e).1), h.wh.only ho (fun e => blk_noMap h.wh (hS _ e).1), h.preds.maps ho (fun i e => (hS i e).1), h.bel.trans (ho.below (by have := h.bel.size; omega) (fun k hk e => by have := (hS k e).2; omega)), by have := h.size; have := ho.size; omega, fun k hk hn => by
    have h1 := h.nm k hk hn
    refine (ho.block k (by have := h.size; omega) (fun e => hn ?_)).trans h1
    obtain ⟨es, ck, h2⟩ := (hS k e).1
    exact ⟨es, ck, h1 ▸ h2⟩⟩
theorem VmAt.isMapB {w : World} {m : Nat} {f : Vm} {N : Nat} (h : VmAt w m f N) : IsMapB w m := by
  obtain ⟨Dm, ⟨es, ck, hb, _⟩, _⟩ := h
  exact ⟨es, ck, hb⟩
theorem own_isMapB {P : Program} {k : TypeId} {w : World} {b n : Nat} {D : DataW Value} (h : w.ownsMap P k anyElem b n D) : IsMapB w b := by
  obtain ⟨es, ck, hb, _⟩ := h
  exact ⟨es, ck, hb⟩
/-- What stands while Do goes on: the place's values are f. -/
structure DoX (w : World) (B sb kb vb ib lb N : Nat) (s : Sta) (o : OpV) (pA : Option Addr) (pc : Nat) (n : Int × Int) (f : Vm) (W : World) : Prop where
  b : DoB w B o pA pc n W
  st : StM W B sb kb vb ib lb N { s with vals := upd s.vals (o.obj, o.key, o.elem) (some f) }
theorem VmAt.below {w w' : World} {m : Nat} {f : Vm} {N : Nat} (h : VmAt w m f N) (hb : Below w.heap.size w w') : VmAt w' m f N := h.only (Only.of_below (S := fun _ => False) hb) (fun h => h)
theorem vm_del {w w' : World} {m N k : Nat} {f : Vm} {Dm : DataW Value} {d : Int × Int} (h1 : w.ownsMap Tryz.prog 24 anyElem m (Maps.size Dm) Dm) (h2 : ∀ n, I2 n → mget Dm n = (f n).map jvV) (h3 : Maps.size Dm ≤ N) (hd : I2 d) (hm : w'.ownsMap Tryz.prog 24 anyElem m k (Dm.del (rlit d))) (hk : k ≤ N) : VmAt w' m (upd f d none) (N + 1) := by
  refine ⟨_, own_tight hm, fun r hr => ?_, by have := own_size (own_tight hm); have := own_size hm; omega⟩
  rw [mget_del pairId hd hr]
  unfold upd
  by_cases e : r = d
  · rw [if_pos e, if_pos e]; rfl
  · rw [if_neg e, if_neg e]; exact h2 r hr
theorem vm_put {w w' : World} {m N k : Nat} {f : Vm} {Dm : DataW Value} {d : Int × Int} (v : JV) (h1 : w.ownsMap Tryz.prog 24 anyElem m (Maps.size Dm) Dm) (h2 : ∀ n, I2 n → mget Dm n = (f n).map jvV) (h3 : Maps.size Dm ≤ N) (hd : I2 d) (hm : w'.ownsMap Tryz.prog 24 anyElem m k (Dm.put (rlit d) (.held (jvV v)))) (hk : k ≤ N + 1) : VmAt w' m (upd f d (some v)) (N + 1) := by
  refine ⟨_, own_tight hm, fun r hr => ?_, by have := own_size (own_tight hm); have := own_size hm; omega⟩
  rw [mget_put pairId (World.ownsMap.isMap h1) hd hr]
  unfold upd
  by_cases e : r = d
  · rw [if_pos e, if_pos e]; rfl
  · rw [if_neg e, if_neg e]; exact h2 r hr
theorem vm_none (w : World) (N : Nat) : VmAt (w.alloc (.map #[] 0)) w.heap.size (fun _ => none) N := ⟨.map [], own_tight (World.ownsMap_made w _ _ _), fun r _ => mget_empty r, by simp [Maps.size]⟩
theorem foldl_take {α β : Type} (g : β → α → β) (b : β) {l : List α} {k : Nat} {x : α} (h : l[k]? = some x) : (l.take (k + 1)).foldl g b = g ((l.take k).foldl g b) x := by
  rw [List.take_add_one, h, List.foldl_append]
  rfl
theorem kstore {P : Program} {k : TypeId} {α : Type} {V : α → Value} {lit : α → Lit} {ok : α → Prop} (K : MKey P k V lit ok) {w : World} {b n : Nat} {D : DataW Value} {t e : TypeId} (h : w.ownsMap P k anyElem b n D) (ht : P.underlying t = some (.map k e)) (hn : n < maxLen) {r : α} (hr : ok r) (u : Value) :
    ∃ w', (Instr.mapUpdate t (.map (some b)) (V r) u).run P w = .ok () w' ∧ w'.ownsMap P k anyElem b (n + 1) (D.put (lit r) (.held u)) ∧ Only (fun i => i = b) w w' ∧ w'.heap.size = w.heap.size := by
  obtain ⟨w', hrun, r1, r2⟩ := h.store K.keyed ht hn (K.of_ r hr) (val := u) rfl
  refine ⟨w', hrun, r1, only_turned r2, ?_⟩
  obtain ⟨es, clock, es', clock', _, rfl⟩ := r2
  simp [Go.ChangeMaps.setBlock]
/-- Keys that are pairs, as keys. -/
theorem pairMK {P : Program} {k : TypeId} (K : PairK P k) : MKey P k refV rlit I2 := ⟨K.keyed, K.of_, K.inv, fun _ _ h => refV_inj h, rlit_key⟩
theorem stDo_two {s : Sta} {o : OpV} {n : Int × Int} (hi : o.ins = false) (hk : o.kind = 2) : s.do_ o n = { s with kinds := upd s.kinds n (some o.val.k), vals := upd s.vals (o.obj, o.key, o.elem) (some (upd (o.preds.foldl (predDo o) (s.mv (o.obj, o.key, o.elem))) n (some { o.val with o := n.1, p := n.2 }))) } := by
  unfold Sta.do_ placeOf doV
  rw [hi, if_pos hk, if_pos hk]
  rfl
theorem stDo_one {s : Sta} {o : OpV} {n : Int × Int} (hi : o.ins = false) (hk : o.kind = 1) : s.do_ o n = { s with vals := upd s.vals (o.obj, o.key, o.elem) (some (upd (o.preds.foldl (predDo o) (s.mv (o.obj, o.key, o.elem))) n (some o.val))) } := by
  have h2 : ¬ o.kind = 2 := by omega
  unfold Sta.do_ placeOf doV
  rw [hi, if_neg h2, if_neg h2, if_pos hk]
  rfl
theorem stDo_else {s : Sta} {o : OpV} {n : Int × Int} (hi : o.ins = false) (h1 : o.kind ≠ 1) (h2 : o.kind ≠ 2) : s.do_ o n = { s with vals := upd s.vals (o.obj, o.key, o.elem) (some (o.preds.foldl (predDo o) (s.mv (o.obj, o.key, o.elem)))) } := by
  unfold Sta.do_ placeOf doV
  rw [hi, if_neg h2, if_neg h2, if_neg h1]
  rfl

set_option maxRecDepth 100000 in
set_option maxHeartbeats 4000000 in
theorem stDo_any (B sb kb vb ib lb N : Nat) (s : Sta) (o : OpV) (pA : Option Addr) (pc : Nat) (n : Int × Int) (w : World) (H : StM w B sb kb vb ib lb N s) (hB : B ≤ w.heap.size) (hp : SlAt w pA (refs o.preds)) (hf : o.Fit) (hi : o.ins = false) (hn : I2 n) (hN : N ≤ 100000) (hl : o.preds.length ≤ 1000) :
    Calls Tryz.prog 49 #[.pointer (some ⟨sb, 0, none⟩), .agg #[.int .i64 o.kind, .int .i64 o.obj.1, .int .i64 o.obj.2, .string o.key, .int .i64 o.elem.1, .int .i64 o.elem.2, .bool false, .int .i64 o.val.k, .int .i64 o.val.n, .string o.val.s, .int .i64 o.val.o, .int .i64 o.val.p, .slice pA o.preds.length pc], .agg #[.int .i64 n.1, .int .i64 n.2]] w fun e w' => e = .returned (.tuple #[]) ∧ StM w' B sb kb vb ib lb (N + o.preds.length + 3) (s.do_ o n) ∧ Below B w w' ∧ KeepNM w w' := by
  obtain ⟨x, hx⟩ : ∃ x : Wh, x = (o.obj, o.key, o.elem) := ⟨_, rfl⟩
  have hxo : whOk x := by rw [hx]; exact ⟨hf.obj, hf.key, hf.elem⟩
  obtain ⟨W0, hW0⟩ : ∃ W0, W0 = ((w.alloc (.cells #[.int .i64 o.kind, .int .i64 o.obj.1, .int .i64 o.obj.2, .string o.key, .int .i64 o.elem.1, .int .i64 o.elem.2, .bool false, .int .i64 o.val.k, .int .i64 o.val.n, .string o.val.s, .int .i64 o.val.o, .int .i64 o.val.p, .slice pA o.preds.length pc] 53)).alloc (.cells #[.int .i64 n.1, .int .i64 n.2] 24)).alloc (.cells #[.int .i64 o.obj.1, .int .i64 o.obj.2, .string o.key, .int .i64 o.elem.1, .int .i64 o.elem.2] 108) := ⟨_, rfl⟩
  have hb0 : Below w.heap.size w W0 := by rw [hW0]; exact (((Below.refl _ _).alloc (Nat.le_refl _) _).alloc (by simp) _).alloc (by simp; omega) _
  have hD0 : DoB w B o pA pc n W0 := by
    refine ⟨?_, ?_, ?_, hp.below hb0, hb0.mono hB, ?_, fun k hk _ => hb0.block k hk⟩
    · rw [hW0]; exact ((Blk.new w _ _).alloc _).alloc _
    · rw [hW0]; exact (Blk.newer _ _ _ (by simp)).alloc _
    · rw [hW0]; exact Blk.newer _ _ _ (by simp)
    · rw [hW0]; simp
  have HH := Lib.hid (And.intro (H.below hb0) (And.intro hD0 (And.intro hxo (And.intro hf (And.intro hn (And.intro hB hN))))))
  have HX := Lib.hid hx
  have HW := Lib.hid hW0
  have hlen : o.preds.length ≤ 9223372036854775807 := by omega
  clear hx hxo hb0 hD0 H hp hf hn hW0 hB
  have qT : ∀ (w : World) (r : Option Nat), (binOp .eql 128 (.map r) (.map none)).run Tryz.prog w = .ok (.bool r.isNone) w := fun w r => run_eql_map_nil w _ _ _ r Tryz.underlying128
  have hmm := @run_makeMap Tryz.prog
  go_enter Tryz.func49, Tryz.ntmps49
  go_upto_region 6 with (fail)
  rw [← HW.out]
  obtain ⟨r, hlk, hcase⟩ : ∃ r : Option Nat, (∀ w1, Only (fun i => i ≠ vb) W0 w1 → (Instr.lookup 101 (.map (some vb)) (whV x) false).run Tryz.prog w1 = .ok (.map r) w1) ∧
      ((∃ m f, r = some m ∧ s.vals x = some f) ∨ (r = none ∧ s.vals x = none)) := by
    cases hv : s.vals x with
    | some f =>
      obtain ⟨m, m1, m2, m3, m4, m5, m6, m7⟩ := HH.out.1.val hv HH.out.2.2.1
      exact ⟨some m, m6, .inl ⟨m, f, rfl, rfl⟩⟩
    | none => exact ⟨none, (HH.out.1.fresh hv HH.out.2.2.1).1, .inr ⟨rfl, rfl⟩⟩
  have hS : ∀ w', Below W0.heap.size W0 w' → w'.cell? ⟨sb, 1, none⟩ = some (.map (some vb)) ∧ w'.cell? ⟨w.heap.size + 1 + 1, 0, none⟩ = some (.int .i64 o.obj.1) ∧ w'.cell? ⟨w.heap.size + 1 + 1, 1, none⟩ = some (.int .i64 o.obj.2) ∧ w'.cell? ⟨w.heap.size + 1 + 1, 2, none⟩ = some (.string o.key) ∧ w'.cell? ⟨w.heap.size + 1 + 1, 3, none⟩ = some (.int .i64 o.elem.1) ∧ w'.cell? ⟨w.heap.size + 1 + 1, 4, none⟩ = some (.int .i64 o.elem.2) ∧ (Instr.lookup 101 (.map (some vb)) (.agg #[.int .i64 o.obj.1, .int .i64 o.obj.2, .string o.key, .int .i64 o.elem.1, .int .i64 o.elem.2]) false).run Tryz.prog w' = .ok (.map r) w' := fun w' hW => by
    have h1 := (HH.out.1).below hW
    have h2 := (HH.out.2.1).wh.below hW (HH.out.2.1).wh.lt
    refine ⟨h1.blk.cell 1, h2.cell 0, h2.cell 1, h2.cell 2, h2.cell 3, h2.cell 4, ?_⟩
    have := hlk w' (Only.of_below hW)
    rw [HX.out] at this
    exact this
  have HKS := Lib.hid hS
  have HC := Lib.hid hcase
  clear hlk hcase hS
  obtain ⟨b1, w0, w1, w2, w3, w4, hq⟩ := HKS.out W0 (Below.refl _ _)
  go_region_held3 (fun w' => w'.cell? ⟨sb, 1, none⟩ = some (.map (some vb)) ∧ w'.cell? ⟨w.heap.size + 1 + 1, 0, none⟩ = some (.int .i64 o.obj.1) ∧ w'.cell? ⟨w.heap.size + 1 + 1, 1, none⟩ = some (.int .i64 o.obj.2) ∧ w'.cell? ⟨w.heap.size + 1 + 1, 2, none⟩ = some (.string o.key) ∧ w'.cell? ⟨w.heap.size + 1 + 1, 3, none⟩ = some (.int .i64 o.elem.1) ∧ w'.cell? ⟨w.heap.size + 1 + 1, 4, none⟩ = some (.int .i64 o.elem.2) ∧ (Instr.lookup 101 (.map (some vb)) (.agg #[.int .i64 o.obj.1, .int .i64 o.obj.2, .string o.key, .int .i64 o.elem.1, .int .i64 o.elem.2]) false).run Tryz.prog w' = .ok (.map r) w') (first | (with_reducible exact HKS.out _ (Below.refl _ W0).drew) | go_keep) (first | fail)
  obtain ⟨W1, hW1⟩ : ∃ W1, W1 = W0.drew := ⟨_, rfl⟩
  have hb1 : Below W0.heap.size W0 W1 := by rw [hW1]; exact (Below.refl _ _).drew
  have hs1 : W1.heap.size = W0.heap.size := by rw [hW1]; rfl
  have HB1 := Lib.hid (And.intro hb1 hs1)
  rw [← hW1]
  clear b1 w0 w1 w2 w3 w4 hq hW1 hb1 hs1
  go_upto_if 47 with (fail)
  go_cut [6] from 48 to 53 (fun s6 wx => s6 = .pointer (some ⟨w.heap.size + 1 + 1, 0, none⟩) ∧ DoX w B sb kb vb ib lb (N + 1) s o pA pc n (s.mv x) wx)
  case first =>
    cases r with
    | some m =>
      obtain ⟨f, HV⟩ : ∃ f, Hid (s.vals x = some f) := by
        rcases HC.out with ⟨m', f, h1, h2⟩ | ⟨h1, h2⟩
        · exact ⟨f, Lib.hid h2⟩
        · cases h1
      go_wp2_with fail
      go_meet
      refine ⟨rfl, HH.out.2.1.new HH.out.2.2.2.2.2.1 HB1.out.1, ?_⟩
      have e1 : s.mv x = f := by unfold Sta.mv; rw [HV.out]; rfl
      rw [e1, ← HX.out, ← HV.out, upd_self]
      exact (HH.out.1.below HB1.out.1).mono (by omega)
    | none =>
      have HV0 : Hid (s.vals x = none) := by
        rcases HC.out with ⟨m', f, h1, h2⟩ | ⟨h1, h2⟩
        · cases h1
        · exact Lib.hid h2
      obtain ⟨_, Dv, m1, m2, m7⟩ := (HH.out.1.below HB1.out.1).fresh HV0.out HH.out.2.2.1
      have HV := Lib.hid (And.intro m1 (And.intro m2 m7))
      clear m1 m2 m7
      have hkb : ∀ w', Below W1.heap.size W1 w' → w'.cell? ⟨sb, 1, none⟩ = some (.map (some vb)) ∧ w'.cell? ⟨w.heap.size + 1 + 1, 0, none⟩ = some (.int .i64 o.obj.1) ∧ w'.cell? ⟨w.heap.size + 1 + 1, 1, none⟩ = some (.int .i64 o.obj.2) ∧ w'.cell? ⟨w.heap.size + 1 + 1, 2, none⟩ = some (.string o.key) ∧ w'.cell? ⟨w.heap.size + 1 + 1, 3, none⟩ = some (.int .i64 o.elem.1) ∧ w'.cell? ⟨w.heap.size + 1 + 1, 4, none⟩ = some (.int .i64 o.elem.2) := fun w' hW => by
        obtain ⟨b1, w0, w1, w2, w3, w4, hq⟩ := HKS.out w' (HB1.out.1.trans (hW.mono HB1.out.1.size))
        exact ⟨b1, w0, w1, w2, w3, w4⟩
      have HKB := Lib.hid hkb
      obtain ⟨b1, w0, w1, w2, w3, w4⟩ := hkb W1 (Below.refl _ _)
      clear hkb
      have hxo : whOk (o.obj, o.key, o.elem) := by rw [← HX.out]; exact HH.out.2.2.1
      have hov : ((W1.alloc (.map #[] 0)).drew).ownsMap Tryz.prog 108 anyElem vb (Maps.size Dv) Dv := own_only HV.out.1 ((Only.refl (fun _ => False) W1).alloc _).drew (fun h => h)
      have hsz : Maps.size Dv < maxLen := by have := HV.out.2.1; have := HH.out.2.2.2.2.2.2; unfold maxLen; omega
      go_upto_region 7 with (fail)
      obtain ⟨w4, hrun, hm4, ho4, hs4⟩ := kstore whMK hov Tryz.underlying101 hsz hxo (.map (some W1.heap.size))
      have hrun : (Instr.mapUpdate 101 (.map (some vb)) (.agg #[.int .i64 o.obj.1, .int .i64 o.obj.2, .string o.key, .int .i64 o.elem.1, .int .i64 o.elem.2]) (.map (some W1.heap.size))).run Tryz.prog (W1.alloc (.map #[] 0)).drew = .ok () w4 := hrun
      have hal : Below W1.heap.size W1 (W1.alloc (.map #[] 0)).drew := ((Below.refl _ _).alloc (Nat.le_refl _) _).drew
      have hD4 : DoB w B o pA pc n w4 := ((HH.out.2.1.new HH.out.2.2.2.2.2.1 HB1.out.1).new HH.out.2.2.2.2.2.1 hal).maps HH.out.2.2.2.2.2.1 ho4 (fun i e => by
        have e : i = vb := e
        subst e
        exact ⟨own_isMapB (own_only HV.out.1 (S := fun _ => False) (Only.of_below hal) (fun h => h)), HH.out.1.low.2.2⟩)
      have hb4 := (((HH.out.1.below HB1.out.1).below hal).blk).only ho4 HH.out.1.ne.2.1
      have HK4 := Lib.hid (show w4.cell? ⟨sb, 1, none⟩ = some (.map (some vb)) ∧ w4.cell? ⟨w.heap.size + 1 + 1, 0, none⟩ = some (.int .i64 o.obj.1) ∧ w4.cell? ⟨w.heap.size + 1 + 1, 1, none⟩ = some (.int .i64 o.obj.2) ∧ w4.cell? ⟨w.heap.size + 1 + 1, 2, none⟩ = some (.string o.key) ∧ w4.cell? ⟨w.heap.size + 1 + 1, 3, none⟩ = some (.int .i64 o.elem.1) ∧ w4.cell? ⟨w.heap.size + 1 + 1, 4, none⟩ = some (.int .i64 o.elem.2) from ⟨hb4.cell 1, hD4.wh.cell 0, hD4.wh.cell 1, hD4.wh.cell 2, hD4.wh.cell 3, hD4.wh.cell 4⟩)
      have H4 := Lib.hid (And.intro hm4 (And.intro ho4 (And.intro hD4 hal)))
      clear hm4 ho4 hs4 hov hsz hxo hal hD4 hb4
      go_region_held3 (fun w' => w'.cell? ⟨sb, 1, none⟩ = some (.map (some vb)) ∧ w'.cell? ⟨w.heap.size + 1 + 1, 0, none⟩ = some (.int .i64 o.obj.1) ∧ w'.cell? ⟨w.heap.size + 1 + 1, 1, none⟩ = some (.int .i64 o.obj.2) ∧ w'.cell? ⟨w.heap.size + 1 + 1, 2, none⟩ = some (.string o.key) ∧ w'.cell? ⟨w.heap.size + 1 + 1, 3, none⟩ = some (.int .i64 o.elem.1) ∧ w'.cell? ⟨w.heap.size + 1 + 1, 4, none⟩ = some (.int .i64 o.elem.2)) (first | (with_reducible exact (HKB.out _ (Below.refl _ W1).drew)) | (with_reducible exact (HKB.out _ ((Below.refl _ W1).alloc (Nat.le_refl _) _).drew)) | (with_reducible exact HK4.out) | go_keep) (first | fail)
      all_goals
        go_wp2_with fail
        go_meet
        refine ⟨rfl, H4.out.2.2.1, ?_⟩
        have e1 : s.mv x = fun _ => none := by unfold Sta.mv; rw [HV0.out]; rfl
        rw [e1, ← HX.out]
        refine HV.out.2.2 (W1.alloc (.map #[] 0)).drew w4 W1.heap.size H4.out.2.2.2 (Nat.le_refl _) (VmAt.below (vm_none W1 (N + 1)) (Below.refl _ _).drew) ?_ H4.out.2.1 (Nat.le_trans HH.out.2.2.2.2.2.1 (Nat.le_trans (by omega) (HH.out.2.1.new HH.out.2.2.2.2.2.1 HB1.out.1).size))
        rw [HX.out]
        exact H4.out.1
  case rest =>
    obtain ⟨rfl, hX⟩ := hcut
    have HX1 := Lib.hid hX
    have hxo : whOk x := HH.out.2.2.1
    have HXO := Lib.hid hxo
    clear hX hxo
    have q12 : wc.cell? ⟨w.heap.size, 12, none⟩ = some (.slice pA o.preds.length pc) := HX1.out.b.op.cell 12
    go_wp2_with fail
    clear q12
    go_loopw [57, 8, 9, 10] (fun iv _ _ _ wr => ∃ j : Nat, iv = .int .i64 j ∧ j ≤ o.preds.length ∧ DoX w B sb kb vb ib lb (N + 1 + j) s o pA pc n ((o.preds.take j).foldl (predDo o) (s.mv x)) wr) (fun iv _ _ _ _ => o.preds.length - (intOf iv).toNat)
    case atStart => exact ⟨0, rfl, Nat.zero_le _, HX1.out⟩
    case round =>
      obtain ⟨j, rfl, hj, hI⟩ := hrel
      by_cases hlt : j < o.preds.length
      · obtain ⟨b, off, d, ha, hd, hx, hy⟩ := hI.b.preds.ref hlt
        have hdi : I2 d := HH.out.2.2.2.1.preds d (List.mem_of_getElem? hd)
        have hfold := foldl_take (predDo o) (s.mv x) hd
        obtain ⟨f, hff⟩ : ∃ f, (o.preds.take j).foldl (predDo o) (s.mv x) = f := ⟨_, rfl⟩
        rw [hff] at hI hfold
        obtain ⟨W5, hW5⟩ : ∃ W5, W5 = wr.alloc (.cells #[.int .i64 d.1, .int .i64 d.2] 24) := ⟨_, rfl⟩
        have hb5 : Below wr.heap.size wr W5 := by rw [hW5]; exact (Below.refl _ _).alloc (Nat.le_refl _) _
        have hR5 : Blk W5 wr.heap.size 24 #[.int .i64 d.1, .int .i64 d.2] := by rw [hW5]; exact Blk.new _ _ _
        have hD5 := hI.b.new HH.out.2.2.2.2.2.1 hb5
        have hS5 := hI.st.below hb5
        obtain ⟨m, ⟨Dm, g1, g2, g3⟩, m3, m4, m5, m6, m7, m8⟩ := hS5.val (x := x) (f := f) (by rw [HX.out]; exact upd_same _ _ _) HXO.out
        have hS : ∀ w', Below W5.heap.size W5 w' → w'.cell? ⟨sb, 1, none⟩ = some (.map (some vb)) ∧ w'.cell? ⟨w.heap.size + 1 + 1, 0, none⟩ = some (.int .i64 o.obj.1) ∧ w'.cell? ⟨w.heap.size + 1 + 1, 1, none⟩ = some (.int .i64 o.obj.2) ∧ w'.cell? ⟨w.heap.size + 1 + 1, 2, none⟩ = some (.string o.key) ∧ w'.cell? ⟨w.heap.size + 1 + 1, 3, none⟩ = some (.int .i64 o.elem.1) ∧ w'.cell? ⟨w.heap.size + 1 + 1, 4, none⟩ = some (.int .i64 o.elem.2) ∧ (Instr.lookup 101 (.map (some vb)) (.agg #[.int .i64 o.obj.1, .int .i64 o.obj.2, .string o.key, .int .i64 o.elem.1, .int .i64 o.elem.2]) false).run Tryz.prog w' = .ok (.map (some m)) w' := fun w' hW => by
          have h1 := (hS5).below hW
          have h2 := (hD5).wh.below hW (hD5).wh.lt
          refine ⟨h1.blk.cell 1, h2.cell 0, h2.cell 1, h2.cell 2, h2.cell 3, h2.cell 4, ?_⟩
          have := m7 w' (Only.of_below hW)
          rw [HX.out] at this
          exact this
        have HKS := Lib.hid hS
        have HAA := Lib.hid ha
        have H5 := Lib.hid (And.intro hD5 (And.intro hS5 (And.intro hR5 (And.intro hdi (And.intro (And.intro g1 (And.intro g2 g3)) (And.intro (And.intro m3 (And.intro m4 (And.intro m5 m6))) (And.intro m8 hfold)))))))
        have q0 : W5.cell? ⟨w.heap.size, 0, none⟩ = some (.int .i64 o.kind) := hD5.op.cell 0
        clear hI hd hdi hff hfold hb5 hR5 hD5 hS5 g1 g2 g3 m3 m4 m5 m6 m7 m8 hS
        rw [ha]
        clear ha
        go_upto_region 11 with (fail)
        rw [← hW5]
        clear hW5 hx hy
        cases hk : (o.kind == 4) with
        | false =>
          have hk4 : ¬ o.kind = 4 := by simpa using hk
          have hkn : (o.kind != 4) = true := by rw [bne, hk]; rfl
          go_upto_region 12 with (fail)
          clear q0
          obtain ⟨b1, w0, w1, w2, w3, w4, hq0⟩ := HKS.out W5 (Below.refl _ _)
          have hq : (Instr.lookup 101 (.map (some vb)) (.agg #[.int .i64 o.obj.1, .int .i64 o.obj.2, .string o.key, .int .i64 o.elem.1, .int .i64 o.elem.2]) false).run Tryz.prog W5.drew = .ok (.map (some m)) W5.drew := (HKS.out W5.drew (Below.refl _ _).drew).2.2.2.2.2.2
          have r0 : W5.cell? ⟨wr.heap.size, 0, none⟩ = some (.int .i64 d.1) := H5.out.2.2.1.cell 0
          have r1 : W5.cell? ⟨wr.heap.size, 1, none⟩ = some (.int .i64 d.2) := H5.out.2.2.1.cell 1
          clear hq0
          go_still_tail 7, (by kernel_rfl)
          change wpList _ _ _ _ _ W5.drew
          refine wpList_del _ rfl _ _ 128 24 rfl 31 pairId Tryz.underlying128 m _ Dm rfl (show W5.drew.ownsMap Tryz.prog 24 anyElem m (Maps.size Dm) Dm from H5.out.2.2.2.2.1.1) d rfl H5.out.2.2.2.1 ?_
          intro W9 hm9 ho9 hs9
          have hD9 : DoB w B o pA pc n W9 := (H5.out.1.new HH.out.2.2.2.2.2.1 (Below.refl _ _).drew).maps HH.out.2.2.2.2.2.1 ho9 (fun i e => by
            have e : i = m := e
            subst e
            exact ⟨own_isMapB (show W5.drew.ownsMap Tryz.prog 24 anyElem _ _ _ from H5.out.2.2.2.2.1.1), H5.out.2.2.2.2.2.1.1⟩)
          have hS9 := H5.out.2.2.2.2.2.2.1 W9 (upd f d none) (((Only.refl (fun i => i = m) W5).drew).trans ho9) (vm_del H5.out.2.2.2.2.1.1 H5.out.2.2.2.2.1.2.1 H5.out.2.2.2.2.1.2.2 H5.out.2.2.2.1 hm9 H5.out.2.2.2.2.1.2.2)
          have hp : predDo o f d = upd f d none := by unfold predDo; rw [if_neg hk4]
          have hX9 : DoX w B sb kb vb ib lb (N + 1 + (j + 1)) s o pA pc n ((o.preds.take (j + 1)).foldl (predDo o) (s.mv x)) W9 := by
            refine ⟨hD9, ?_⟩
            rw [H5.out.2.2.2.2.2.2.2, hp]
            rw [HX.out] at hS9
            have e2 := upd_upd s.vals (o.obj, o.key, o.elem) (some f) (some (upd f d none))
            simp only [e2] at hS9
            exact hS9
          have HX9 := Lib.hid hX9
          clear hm9 ho9 hs9 hD9 hS9 hp hX9 b1 w0 w1 w2 w3 w4 hq r0 r1
          go_wp2_with fail
          exact ⟨⟨j + 1, by push_cast; rfl, by omega, by rw [← HAA.out]; exact HX9.out⟩, by simp [intOf]; omega⟩
        | true =>
          have hk4 : o.kind = 4 := by simpa using hk
          have hkn : (o.kind != 4) = false := by rw [bne, hk]; rfl
          obtain ⟨v, z, hv, hz, hvz⟩ : ∃ (v : JV) (z : Bool), (mget Dm d).getD (jvV zJV) = jvV v ∧ (mget Dm d).isSome = z ∧ ((z = false ∧ f d = none) ∨ (z = true ∧ f d = some v)) := by
            rw [H5.out.2.2.2.2.1.2.1 d H5.out.2.2.2.1]
            cases e : f d with
            | none => exact ⟨zJV, false, rfl, rfl, .inl ⟨rfl, rfl⟩⟩
            | some v => exact ⟨v, true, rfl, rfl, .inr ⟨rfl, rfl⟩⟩
          have hS2 : ∀ w', Below W5.heap.size W5 w' → w'.cell? ⟨sb, 1, none⟩ = some (.map (some vb)) ∧ w'.cell? ⟨w.heap.size + 1 + 1, 0, none⟩ = some (.int .i64 o.obj.1) ∧ w'.cell? ⟨w.heap.size + 1 + 1, 1, none⟩ = some (.int .i64 o.obj.2) ∧ w'.cell? ⟨w.heap.size + 1 + 1, 2, none⟩ = some (.string o.key) ∧ w'.cell? ⟨w.heap.size + 1 + 1, 3, none⟩ = some (.int .i64 o.elem.1) ∧ w'.cell? ⟨w.heap.size + 1 + 1, 4, none⟩ = some (.int .i64 o.elem.2) ∧ (Instr.lookup 101 (.map (some vb)) (.agg #[.int .i64 o.obj.1, .int .i64 o.obj.2, .string o.key, .int .i64 o.elem.1, .int .i64 o.elem.2]) false).run Tryz.prog w' = .ok (.map (some m)) w' ∧ w'.cell? ⟨wr.heap.size, 0, none⟩ = some (.int .i64 d.1) ∧ w'.cell? ⟨wr.heap.size, 1, none⟩ = some (.int .i64 d.2) ∧ (Instr.lookup 128 (.map (some m)) (.agg #[.int .i64 d.1, .int .i64 d.2]) true).run Tryz.prog w' = .ok (.tuple #[.agg #[.int .i64 v.k, .int .i64 v.n, .string v.s, .int .i64 v.o, .int .i64 v.p], .bool z]) w' := fun w' hW => by
            obtain ⟨b1, w0, w1, w2, w3, w4, hq⟩ := HKS.out w' hW
            have hR := H5.out.2.2.1.below hW H5.out.2.2.1.lt
            refine ⟨b1, w0, w1, w2, w3, w4, hq, hR.cell 0, hR.cell 1, ?_⟩
            have := run_look_ok pairId (w := w') (own_only H5.out.2.2.2.2.1.1 (S := fun _ => False) (Only.of_below hW) (fun h => h)) Tryz.underlying128 (zeroVal _) H5.out.2.2.2.1
            rw [hv, hz] at this
            exact this
          have HK2 := Lib.hid hS2
          have HVZ := Lib.hid (And.intro hvz hk4)
          clear hv hz hvz hS2
          go_upto_region 13 with (fail)
          clear q0 hkn hk hk4
          obtain ⟨b1, w0, w1, w2, w3, w4, hq, r0, r1, hq2⟩ := HK2.out W5 (Below.refl _ _)
          go_region_held3 (fun w' => w'.cell? ⟨sb, 1, none⟩ = some (.map (some vb)) ∧ w'.cell? ⟨w.heap.size + 1 + 1, 0, none⟩ = some (.int .i64 o.obj.1) ∧ w'.cell? ⟨w.heap.size + 1 + 1, 1, none⟩ = some (.int .i64 o.obj.2) ∧ w'.cell? ⟨w.heap.size + 1 + 1, 2, none⟩ = some (.string o.key) ∧ w'.cell? ⟨w.heap.size + 1 + 1, 3, none⟩ = some (.int .i64 o.elem.1) ∧ w'.cell? ⟨w.heap.size + 1 + 1, 4, none⟩ = some (.int .i64 o.elem.2) ∧ (Instr.lookup 101 (.map (some vb)) (.agg #[.int .i64 o.obj.1, .int .i64 o.obj.2, .string o.key, .int .i64 o.elem.1, .int .i64 o.elem.2]) false).run Tryz.prog w' = .ok (.map (some m)) w' ∧ w'.cell? ⟨wr.heap.size, 0, none⟩ = some (.int .i64 d.1) ∧ w'.cell? ⟨wr.heap.size, 1, none⟩ = some (.int .i64 d.2) ∧ (Instr.lookup 128 (.map (some m)) (.agg #[.int .i64 d.1, .int .i64 d.2]) true).run Tryz.prog w' = .ok (.tuple #[.agg #[.int .i64 v.k, .int .i64 v.n, .string v.s, .int .i64 v.o, .int .i64 v.p], .bool z]) w') (first | (with_reducible exact HK2.out _ (Below.refl _ W5).drew) | (with_reducible exact HK2.out _ ((Below.refl _ W5).alloc (Nat.le_refl _) _).drew) | go_keep) (first | fail)
          all_goals
            obtain ⟨W6, hW6⟩ : ∃ W6, W6 = (W5.alloc (.cells #[.int .i64 v.k, .int .i64 v.n, .string v.s, .int .i64 v.o, .int .i64 v.p] 31)).drew := ⟨_, rfl⟩
            have hb6 : Below W5.heap.size W5 W6 := by rw [hW6]; exact ((Below.refl _ _).alloc (Nat.le_refl _) _).drew
            have hv6 : Blk W6 W5.heap.size 31 #[.int .i64 v.k, .int .i64 v.n, .string v.s, .int .i64 v.o, .int .i64 v.p] := by rw [hW6]; exact (Blk.new W5 _ _).drewN 1
            rw [← hW6]
            have hD6 := H5.out.1.new HH.out.2.2.2.2.2.1 hb6
            have hS6 := H5.out.2.1.below hb6
            have H6 := Lib.hid (And.intro hb6 (And.intro hv6 (And.intro hD6 hS6)))
            clear hW6 hb6 hv6 hD6 hS6 b1 w0 w1 w2 w3 w4 hq r0 r1 hq2
            cases z with
            | false =>
              have hX9 : DoX w B sb kb vb ib lb (N + 1 + (j + 1)) s o pA pc n ((o.preds.take (j + 1)).foldl (predDo o) (s.mv x)) W6 := by
                refine ⟨H6.out.2.2.1, ?_⟩
                have hfd : f d = none := by
                  rcases HVZ.out.1 with ⟨h1, h2⟩ | ⟨h1, h2⟩
                  · exact h2
                  · cases h1
                have hp : predDo o f d = f := by unfold predDo; rw [if_pos HVZ.out.2, hfd]
                rw [H5.out.2.2.2.2.2.2.2, hp]
                exact H6.out.2.2.2.mono (by omega)
              have HX9 := Lib.hid hX9
              clear hX9
              go_wp2_with fail
              exact ⟨⟨j + 1, by push_cast; rfl, by omega, by rw [← HAA.out]; exact HX9.out⟩, by simp [intOf]; omega⟩
            | true =>
              have v1 : W6.cell? ⟨W5.heap.size, 1, none⟩ = some (.int .i64 v.n) := H6.out.2.1.cell 1
              have z1 := H6.out.2.1.frozen 1
              have q8 : W6.cell? ⟨w.heap.size, 8, none⟩ = some (.int .i64 o.val.n) := H6.out.2.2.1.op.cell 8
              obtain ⟨nn, hnn⟩ : ∃ nn, IntKind.i64.wrap (v.n + o.val.n) = nn := ⟨_, rfl⟩
              have HNN := Lib.hid hnn
              go_upto_region 16 with (fail)
              clear v1 z1 q8 hnn
              obtain ⟨v', hv'⟩ : ∃ v' : JV, v' = { v with n := nn } := ⟨_, rfl⟩
              obtain ⟨W7, hW7⟩ : ∃ W7, W7 = W6.setCell ⟨W5.heap.size, 1, none⟩ (.int .i64 nn) := ⟨_, rfl⟩
              rw [← hW7]
              have ho7 : Only (fun i => i = W5.heap.size) W6 W7 := by rw [hW7]; exact Only.setCell (S := fun k => k = W5.heap.size) (Only.refl _ W6) (p := ⟨W5.heap.size, 1, none⟩) rfl _
              have hv7 : Blk W7 W5.heap.size 31 #[.int .i64 v'.k, .int .i64 v'.n, .string v'.s, .int .i64 v'.o, .int .i64 v'.p] := by
                rw [hW7, hv']
                have := H6.out.2.1.set_ 1 (.int .i64 nn)
                simpa using this
              have hb7 : Below W5.heap.size W5 W7 := H6.out.1.trans (ho7.below H6.out.1.size (fun k hk e => by have : k = W5.heap.size := e; omega))
              have H7 := Lib.hid (And.intro hb7 (And.intro hv7 hv'))
              clear hW7 ho7 hv7 hb7 hv'
              obtain ⟨b1, w0, w1, w2, w3, w4, hq0, r0, r1, hq2⟩ := HK2.out W7 H7.out.1
              have hq : (Instr.lookup 101 (.map (some vb)) (.agg #[.int .i64 o.obj.1, .int .i64 o.obj.2, .string o.key, .int .i64 o.elem.1, .int .i64 o.elem.2]) false).run Tryz.prog W7.drew = .ok (.map (some m)) W7.drew := (HKS.out W7.drew H7.out.1.drew).2.2.2.2.2.2
              have x0 : W7.cell? ⟨W5.heap.size, 0, none⟩ = some (.int .i64 v'.k) := H7.out.2.1.cell 0
              have x1 : W7.cell? ⟨W5.heap.size, 1, none⟩ = some (.int .i64 v'.n) := H7.out.2.1.cell 1
              have x2 : W7.cell? ⟨W5.heap.size, 2, none⟩ = some (.string v'.s) := H7.out.2.1.cell 2
              have x3 : W7.cell? ⟨W5.heap.size, 3, none⟩ = some (.int .i64 v'.o) := H7.out.2.1.cell 3
              have x4 : W7.cell? ⟨W5.heap.size, 4, none⟩ = some (.int .i64 v'.p) := H7.out.2.1.cell 4
              have hom : W7.drew.ownsMap Tryz.prog 24 anyElem m (Maps.size Dm) Dm := own_only H5.out.2.2.2.2.1.1 (S := fun _ => False) (Only.of_below H7.out.1.drew) (fun h => h)
              have hsz : Maps.size Dm < maxLen := by have h1 := H5.out.2.2.2.2.1.2.2; have h2 := HH.out.2.2.2.2.2.2; unfold maxLen; omega
              clear hq0 hq2
              go_still_tail 8, (by kernel_rfl)
              change wpList _ _ _ _ _ W7.drew
              refine wpList_upd _ rfl _ _ _ 128 rfl 24 31 pairId Tryz.underlying128 m _ Dm rfl hom hsz d rfl H5.out.2.2.2.1 (jvV v') rfl ?_
              intro W9 hm9 ho9 hs9
              have hD9 : DoB w B o pA pc n W9 := (H5.out.1.new HH.out.2.2.2.2.2.1 H7.out.1.drew).maps HH.out.2.2.2.2.2.1 ho9 (fun i e => by
                have e : i = m := e
                subst e
                exact ⟨own_isMapB hom, H5.out.2.2.2.2.2.1.1⟩)
              have hS9 := H5.out.2.2.2.2.2.2.1 W9 (upd f d (some v')) ((Only.of_below H7.out.1.drew).trans ho9) (vm_put v' H5.out.2.2.2.2.1.1 H5.out.2.2.2.2.1.2.1 H5.out.2.2.2.2.1.2.2 H5.out.2.2.2.1 hm9 (by have := H5.out.2.2.2.2.1.2.2; omega))
              have hX9 : DoX w B sb kb vb ib lb (N + 1 + (j + 1)) s o pA pc n ((o.preds.take (j + 1)).foldl (predDo o) (s.mv x)) W9 := by
                refine ⟨hD9, ?_⟩
                have hfd : f d = some v := by
                  rcases HVZ.out.1 with ⟨h1, h2⟩ | ⟨h1, h2⟩
                  · cases h1
                  · exact h2
                have hp : predDo o f d = upd f d (some v') := by unfold predDo; rw [if_pos HVZ.out.2, hfd, H7.out.2.2, ← HNN.out]
                rw [H5.out.2.2.2.2.2.2.2, hp]
                rw [HX.out] at hS9
                have e2 := upd_upd s.vals (o.obj, o.key, o.elem) (some f) (some (upd f d (some v')))
                simp only [e2] at hS9
                exact hS9
              have HX9 := Lib.hid hX9
              clear hm9 ho9 hs9 hD9 hS9 hX9 hom hsz b1 w0 w1 w2 w3 w4 hq r0 r1 x0 x1 x2 x3 x4
              go_wp2_with fail
              exact ⟨⟨j + 1, by push_cast; rfl, by omega, by rw [← HAA.out]; exact HX9.out⟩, by simp [intOf]; omega⟩
      · obtain rfl : j = o.preds.length := by omega
        rw [List.take_length] at hI
        obtain ⟨f, hff⟩ : ∃ f, o.preds.foldl (predDo o) (s.mv x) = f := ⟨_, rfl⟩
        rw [hff] at hI
        have hb6 : Below wr.heap.size wr (wr.alloc (.cells #[.int .i64 o.val.k, .int .i64 o.val.n, .string o.val.s, .int .i64 o.val.o, .int .i64 o.val.p] 31)) := (Below.refl _ _).alloc (Nat.le_refl _) _
        obtain ⟨W6, hW6⟩ : ∃ W6, W6 = wr.alloc (.cells #[.int .i64 o.val.k, .int .i64 o.val.n, .string o.val.s, .int .i64 o.val.o, .int .i64 o.val.p] 31) := ⟨_, rfl⟩
        rw [← hW6] at hb6
        have hv6 : Blk W6 wr.heap.size 31 #[.int .i64 o.val.k, .int .i64 o.val.n, .string o.val.s, .int .i64 o.val.o, .int .i64 o.val.p] := by rw [hW6]; exact Blk.new _ _ _
        have HI := Lib.hid (And.intro hI (And.intro hff (And.intro hb6 hv6)))
        have q0 : wr.cell? ⟨w.heap.size, 0, none⟩ = some (.int .i64 o.kind) := hI.b.op.cell 0
        have q7 : wr.cell? ⟨w.heap.size, 7, none⟩ = some (.int .i64 o.val.k) := hI.b.op.cell 7
        have q8 : wr.cell? ⟨w.heap.size, 8, none⟩ = some (.int .i64 o.val.n) := hI.b.op.cell 8
        have q9 : wr.cell? ⟨w.heap.size, 9, none⟩ = some (.string o.val.s) := hI.b.op.cell 9
        have q10 : wr.cell? ⟨w.heap.size, 10, none⟩ = some (.int .i64 o.val.o) := hI.b.op.cell 10
        have q11 : wr.cell? ⟨w.heap.size, 11, none⟩ = some (.int .i64 o.val.p) := hI.b.op.cell 11
        have hlt0 := hI.b.op.lt
        clear hI hff hb6 hv6
        by_cases hk2 : o.kind = 2
        · have k2 : (o.kind == 2) = true := by simpa using hk2
          go_upto_region 21 with (fail)
          rw [← hW6]
          have HK2 := Lib.hid hk2
          clear q0 q7 q8 q9 q10 q11 hlt0 hW6 hk2 k2
          have hD6 := HI.out.1.b.new HH.out.2.2.2.2.2.1 HI.out.2.2.1
          have r0 : W6.cell? ⟨w.heap.size + 1, 0, none⟩ = some (.int .i64 n.1) := hD6.id.cell 0
          have r1 : W6.cell? ⟨w.heap.size + 1, 1, none⟩ = some (.int .i64 n.2) := hD6.id.cell 1
          have z3 := HI.out.2.2.2.frozen 3
          have z4 := HI.out.2.2.2.frozen 4
          have x3 : W6.cell? ⟨wr.heap.size, 3, none⟩ = some (.int .i64 o.val.o) := HI.out.2.2.2.cell 3
          have x4 : W6.cell? ⟨wr.heap.size, 4, none⟩ = some (.int .i64 o.val.p) := HI.out.2.2.2.cell 4
          have hl6 := HI.out.2.2.2.lt
          go_upto_region 22 with (fail)
          clear r0 r1 z3 z4 x3 x4 hl6
          obtain ⟨v', hv'⟩ : ∃ v' : JV, v' = { o.val with o := n.1, p := n.2 } := ⟨_, rfl⟩
          obtain ⟨W7, hW7⟩ : ∃ W7, W7 = (W6.setCell ⟨wr.heap.size, 3, none⟩ (.int .i64 n.1)).setCell ⟨wr.heap.size, 4, none⟩ (.int .i64 n.2) := ⟨_, rfl⟩
          rw [← hW7]
          have ho7 : Only (fun i => i = wr.heap.size) W6 W7 := by rw [hW7]; exact Only.setCell (S := fun k => k = wr.heap.size) (Only.setCell (S := fun k => k = wr.heap.size) (Only.refl _ W6) (p := ⟨wr.heap.size, 3, none⟩) rfl _) (p := ⟨wr.heap.size, 4, none⟩) rfl _
          have hv7 : Blk W7 wr.heap.size 31 #[.int .i64 v'.k, .int .i64 v'.n, .string v'.s, .int .i64 v'.o, .int .i64 v'.p] := by
            rw [hW7, hv']
            have := (HI.out.2.2.2.set_ 3 (.int .i64 n.1)).set_ 4 (.int .i64 n.2)
            simpa using this
          have hb7 : Below wr.heap.size wr W7 := HI.out.2.2.1.trans (ho7.below HI.out.2.2.1.size (fun k hk e => by have : k = wr.heap.size := e; omega))
          have hD7 := HI.out.1.b.new HH.out.2.2.2.2.2.1 hb7
          obtain ⟨Dk, k1, k2, k3⟩ := (HI.out.1.st.below hb7).kind HH.out.2.2.2.2.1 o.val.k
          have H7 := Lib.hid (And.intro hD7 (And.intro (HI.out.1.st.below hb7) (And.intro hv7 (And.intro hv' (And.intro k1 (And.intro k2 k3))))))
          have b0 : W7.cell? ⟨sb, 0, none⟩ = some (.map (some kb)) := (HI.out.1.st.below hb7).blk.cell 0
          have r0 : W7.cell? ⟨w.heap.size + 1, 0, none⟩ = some (.int .i64 n.1) := hD7.id.cell 0
          have r1 : W7.cell? ⟨w.heap.size + 1, 1, none⟩ = some (.int .i64 n.2) := hD7.id.cell 1
          have x0 : W7.cell? ⟨wr.heap.size, 0, none⟩ = some (.int .i64 o.val.k) := by have := hv7.cell 0; rw [hv'] at this; exact this
          have hom : W7.drew.ownsMap Tryz.prog 24 anyElem kb (Maps.size Dk) Dk := k1
          have hsz : Maps.size Dk < maxLen := by have h2 := HH.out.2.2.2.2.2.2; unfold maxLen; omega
          clear hW7 ho7 hv7 hb7 hD6 hD7 k1 k2 k3 hv'
          go_still_tail 7, (by kernel_rfl)
          change wpList _ _ _ _ _ W7.drew
          refine wpList_upd _ rfl _ _ _ 100 rfl 24 3 pairId Tryz.underlying100 kb _ Dk rfl hom hsz n rfl HH.out.2.2.2.2.1 (.int .i64 o.val.k) rfl ?_
          intro W8 hm8 ho8 hs8
          have ho78 : Only (fun i => i = kb) W7 W8 := ((Only.refl (fun i => i = kb) W7).drew).trans ho8
          have hS8 := H7.out.2.2.2.2.2.2 W8 hm8 ho78
          have hD8 : DoB w B o pA pc n W8 := H7.out.1.maps HH.out.2.2.2.2.2.1 ho78 (fun i e => by
            have e : i = kb := e
            subst e
            exact ⟨own_isMapB H7.out.2.2.2.2.1, HH.out.1.low.2.1⟩)
          have hv8 : Blk W8 wr.heap.size 31 #[.int .i64 v'.k, .int .i64 v'.n, .string v'.s, .int .i64 v'.o, .int .i64 v'.p] := H7.out.2.2.1.only ho78 (fun e => blk_noMap H7.out.2.2.1 (by have e : wr.heap.size = kb := e; rw [e]; exact own_isMapB H7.out.2.2.2.2.1))
          have H8 := Lib.hid (And.intro hD8 (And.intro hS8 hv8))
          clear hm8 ho8 hs8 ho78 hS8 hD8 hv8 hom hsz b0 r0 r1 x0
          obtain ⟨m, hmA, m3, m4, m5, m6, m7, m8⟩ := H8.out.2.1.val (x := x) (f := f) (by rw [HX.out]; exact upd_same _ _ _) HXO.out
          obtain ⟨Dm, g1, g2, g3⟩ := hmA
          have hS : ∀ w', Below W8.heap.size W8 w' → w'.cell? ⟨sb, 1, none⟩ = some (.map (some vb)) ∧ w'.cell? ⟨w.heap.size + 1 + 1, 0, none⟩ = some (.int .i64 o.obj.1) ∧ w'.cell? ⟨w.heap.size + 1 + 1, 1, none⟩ = some (.int .i64 o.obj.2) ∧ w'.cell? ⟨w.heap.size + 1 + 1, 2, none⟩ = some (.string o.key) ∧ w'.cell? ⟨w.heap.size + 1 + 1, 3, none⟩ = some (.int .i64 o.elem.1) ∧ w'.cell? ⟨w.heap.size + 1 + 1, 4, none⟩ = some (.int .i64 o.elem.2) ∧ (Instr.lookup 101 (.map (some vb)) (.agg #[.int .i64 o.obj.1, .int .i64 o.obj.2, .string o.key, .int .i64 o.elem.1, .int .i64 o.elem.2]) false).run Tryz.prog w' = .ok (.map (some m)) w' := fun w' hW => by
            have h1 := (H8.out.2.1).below hW
            have h2 := (H8.out.1).wh.below hW (H8.out.1).wh.lt
            refine ⟨h1.blk.cell 1, h2.cell 0, h2.cell 1, h2.cell 2, h2.cell 3, h2.cell 4, ?_⟩
            have := m7 w' (Only.of_below hW)
            rw [HX.out] at this
            exact this
          have HKS := Lib.hid hS
          have HM := Lib.hid (And.intro (And.intro g1 (And.intro g2 g3)) (And.intro (And.intro m3 (And.intro m4 (And.intro m5 m6))) m8))
          clear g1 g2 g3 m3 m4 m5 m6 m7 m8 hS
          go_upto_region 23 with (fail)
          obtain ⟨b1, w0, w1, w2, w3, w4, hq0⟩ := HKS.out W8 (Below.refl _ _)
          have hq : (Instr.lookup 101 (.map (some vb)) (.agg #[.int .i64 o.obj.1, .int .i64 o.obj.2, .string o.key, .int .i64 o.elem.1, .int .i64 o.elem.2]) false).run Tryz.prog W8.drew = .ok (.map (some m)) W8.drew := (HKS.out W8.drew (Below.refl _ _).drew).2.2.2.2.2.2
          have r0 : W8.cell? ⟨w.heap.size + 1, 0, none⟩ = some (.int .i64 n.1) := H8.out.1.id.cell 0
          have r1 : W8.cell? ⟨w.heap.size + 1, 1, none⟩ = some (.int .i64 n.2) := H8.out.1.id.cell 1
          have x0 : W8.cell? ⟨wr.heap.size, 0, none⟩ = some (.int .i64 v'.k) := H8.out.2.2.cell 0
          have x1 : W8.cell? ⟨wr.heap.size, 1, none⟩ = some (.int .i64 v'.n) := H8.out.2.2.cell 1
          have x2 : W8.cell? ⟨wr.heap.size, 2, none⟩ = some (.string v'.s) := H8.out.2.2.cell 2
          have x3 : W8.cell? ⟨wr.heap.size, 3, none⟩ = some (.int .i64 v'.o) := H8.out.2.2.cell 3
          have x4 : W8.cell? ⟨wr.heap.size, 4, none⟩ = some (.int .i64 v'.p) := H8.out.2.2.cell 4
          have hom : W8.drew.ownsMap Tryz.prog 24 anyElem m (Maps.size Dm) Dm := HM.out.1.1
          have hsz : Maps.size Dm < maxLen := by have h1 := HM.out.1.2.2; have h2 := HH.out.2.2.2.2.2.2; unfold maxLen; omega
          clear hq0
          go_still_tail 8, (by kernel_rfl)
          change wpList _ _ _ _ _ W8.drew
          refine wpList_upd _ rfl _ _ _ 128 rfl 24 31 pairId Tryz.underlying128 m _ Dm rfl hom hsz n rfl HH.out.2.2.2.2.1 (jvV v') rfl ?_
          intro W9 hm9 ho9 hs9
          have hS9 := HM.out.2.2 W9 (upd f n (some v')) (((Only.refl (fun i => i = m) W8).drew).trans ho9) (vm_put v' HM.out.1.1 HM.out.1.2.1 HM.out.1.2.2 HH.out.2.2.2.2.1 hm9 (by have := HM.out.1.2.2; omega))
          have hb9 : DoB w B o pA pc n W9 := H8.out.1.maps HH.out.2.2.2.2.2.1 ((Only.refl (fun i => i = m) W8).drew.trans ho9) (fun i e => by have e : i = m := e; subst e; exact ⟨own_isMapB HM.out.1.1, HM.out.2.1.1⟩)
          have H9 := Lib.hid (And.intro hS9 hb9)
          clear hm9 ho9 hs9 hS9 hb9 hom hsz b1 w0 w1 w2 w3 w4 hq r0 r1 x0 x1 x2 x3 x4
          go_wp2_with fail
          go_end0
          refine ⟨rfl, ?_, H9.out.2.bel, H9.out.2.nm⟩
          have hS9 := H9.out.1
          rw [HX.out] at hS9
          have e2 := upd_upd s.vals (o.obj, o.key, o.elem) (some f) (some (upd f n (some v')))
          simp only [e2] at hS9
          rw [stDo_two hi HK2.out, ← HX.out, HI.out.2.1, HX.out, ← H7.out.2.2.2.1]
          exact hS9.mono (by omega)
        · have k2 : (o.kind == 2) = false := by simpa using hk2
          by_cases hk1 : o.kind = 1
          · have k1 : (o.kind == 1) = true := by simpa using hk1
            have HK1 := Lib.hid hk1
            obtain ⟨v', hv'⟩ : ∃ v', v' = o.val := ⟨_, rfl⟩
            have HV' := Lib.hid hv'
            have H8 := Lib.hid (And.intro (HI.out.1.b.new HH.out.2.2.2.2.2.1 HI.out.2.2.1) (And.intro (HI.out.1.st.below HI.out.2.2.1) (show Blk W6 wr.heap.size 31 #[.int .i64 v'.k, .int .i64 v'.n, .string v'.s, .int .i64 v'.o, .int .i64 v'.p] from by rw [hv']; exact HI.out.2.2.2)))
            clear hv'
            have k2' : ¬ o.kind = 2 := by omega
            go_upto_region 25 with (fail)
            rw [← hW6]
            clear q0 q7 q8 q9 q10 q11 hlt0 hW6 hk1 k1 k2 hk2 k2'
            obtain ⟨m, hmA, m3, m4, m5, m6, m7, m8⟩ := H8.out.2.1.val (x := x) (f := f) (by rw [HX.out]; exact upd_same _ _ _) HXO.out
            obtain ⟨Dm, g1, g2, g3⟩ := hmA
            have hS : ∀ w', Below W6.heap.size W6 w' → w'.cell? ⟨sb, 1, none⟩ = some (.map (some vb)) ∧ w'.cell? ⟨w.heap.size + 1 + 1, 0, none⟩ = some (.int .i64 o.obj.1) ∧ w'.cell? ⟨w.heap.size + 1 + 1, 1, none⟩ = some (.int .i64 o.obj.2) ∧ w'.cell? ⟨w.heap.size + 1 + 1, 2, none⟩ = some (.string o.key) ∧ w'.cell? ⟨w.heap.size + 1 + 1, 3, none⟩ = some (.int .i64 o.elem.1) ∧ w'.cell? ⟨w.heap.size + 1 + 1, 4, none⟩ = some (.int .i64 o.elem.2) ∧ (Instr.lookup 101 (.map (some vb)) (.agg #[.int .i64 o.obj.1, .int .i64 o.obj.2, .string o.key, .int .i64 o.elem.1, .int .i64 o.elem.2]) false).run Tryz.prog w' = .ok (.map (some m)) w' := fun w' hW => by
              have h1 := (H8.out.2.1).below hW
              have h2 := (H8.out.1).wh.below hW (H8.out.1).wh.lt
              refine ⟨h1.blk.cell 1, h2.cell 0, h2.cell 1, h2.cell 2, h2.cell 3, h2.cell 4, ?_⟩
              have := m7 w' (Only.of_below hW)
              rw [HX.out] at this
              exact this
            have HKS := Lib.hid hS
            have HM := Lib.hid (And.intro (And.intro g1 (And.intro g2 g3)) (And.intro (And.intro m3 (And.intro m4 (And.intro m5 m6))) m8))
            clear g1 g2 g3 m3 m4 m5 m6 m7 m8 hS
            obtain ⟨b1, w0, w1, w2, w3, w4, hq0⟩ := HKS.out W6 (Below.refl _ _)
            have hq : (Instr.lookup 101 (.map (some vb)) (.agg #[.int .i64 o.obj.1, .int .i64 o.obj.2, .string o.key, .int .i64 o.elem.1, .int .i64 o.elem.2]) false).run Tryz.prog W6.drew = .ok (.map (some m)) W6.drew := (HKS.out W6.drew (Below.refl _ _).drew).2.2.2.2.2.2
            have r0 : W6.cell? ⟨w.heap.size + 1, 0, none⟩ = some (.int .i64 n.1) := H8.out.1.id.cell 0
            have r1 : W6.cell? ⟨w.heap.size + 1, 1, none⟩ = some (.int .i64 n.2) := H8.out.1.id.cell 1
            have x0 : W6.cell? ⟨wr.heap.size, 0, none⟩ = some (.int .i64 v'.k) := H8.out.2.2.cell 0
            have x1 : W6.cell? ⟨wr.heap.size, 1, none⟩ = some (.int .i64 v'.n) := H8.out.2.2.cell 1
            have x2 : W6.cell? ⟨wr.heap.size, 2, none⟩ = some (.string v'.s) := H8.out.2.2.cell 2
            have x3 : W6.cell? ⟨wr.heap.size, 3, none⟩ = some (.int .i64 v'.o) := H8.out.2.2.cell 3
            have x4 : W6.cell? ⟨wr.heap.size, 4, none⟩ = some (.int .i64 v'.p) := H8.out.2.2.cell 4
            have hom : W6.drew.ownsMap Tryz.prog 24 anyElem m (Maps.size Dm) Dm := HM.out.1.1
            have hsz : Maps.size Dm < maxLen := by have h1 := HM.out.1.2.2; have h2 := HH.out.2.2.2.2.2.2; unfold maxLen; omega
            clear hq0
            go_still_tail 8, (by kernel_rfl)
            change wpList _ _ _ _ _ W6.drew
            refine wpList_upd _ rfl _ _ _ 128 rfl 24 31 pairId Tryz.underlying128 m _ Dm rfl hom hsz n rfl HH.out.2.2.2.2.1 (jvV v') rfl ?_
            intro W9 hm9 ho9 hs9
            have hS9 := HM.out.2.2 W9 (upd f n (some v')) (((Only.refl (fun i => i = m) W6).drew).trans ho9) (vm_put v' HM.out.1.1 HM.out.1.2.1 HM.out.1.2.2 HH.out.2.2.2.2.1 hm9 (by have := HM.out.1.2.2; omega))
            have hb9 : DoB w B o pA pc n W9 := H8.out.1.maps HH.out.2.2.2.2.2.1 ((Only.refl (fun i => i = m) W6).drew.trans ho9) (fun i e => by have e : i = m := e; subst e; exact ⟨own_isMapB HM.out.1.1, HM.out.2.1.1⟩)
            have H9 := Lib.hid (And.intro hS9 hb9)
            clear hm9 ho9 hs9 hS9 hb9 hom hsz b1 w0 w1 w2 w3 w4 hq r0 r1 x0 x1 x2 x3 x4
            go_wp2_with fail
            go_end0
            refine ⟨rfl, ?_, H9.out.2.bel, H9.out.2.nm⟩
            have hS9 := H9.out.1
            rw [HX.out] at hS9
            have e2 := upd_upd s.vals (o.obj, o.key, o.elem) (some f) (some (upd f n (some v')))
            simp only [e2] at hS9
            rw [stDo_one hi HK1.out, ← HX.out, HI.out.2.1, HX.out, ← HV'.out]
            exact hS9.mono (by omega)
          · have k1 : (o.kind == 1) = false := by simpa using hk1
            have HKK := Lib.hid (And.intro hk1 hk2)
            go_wp2_with fail
            rw [← hW6]
            go_end0
            refine ⟨rfl, ?_, (HI.out.1.b.new HH.out.2.2.2.2.2.1 HI.out.2.2.1).bel, (HI.out.1.b.new HH.out.2.2.2.2.2.1 HI.out.2.2.1).nm⟩
            rw [stDo_else hi HKK.out.1 HKK.out.2, ← HX.out, HI.out.2.1, HX.out]
            exact (HI.out.1.st.below HI.out.2.2.1).mono (by omega)
end Go.Proofs.YthimkpkoimfkiaaGreat
