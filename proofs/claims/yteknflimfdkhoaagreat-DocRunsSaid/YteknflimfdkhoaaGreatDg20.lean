/- A state in memory: its kinds, its values, its Inserts. slices.SortFunc at ids, rising and falling: contracts, out of the library's. -/
import Derived.Test.YteknflimfdkhoaaGreatDg19
import Derived.Test.YteknflimfdkhoaaGreatDg7
import Derived.Test.YteknflimfdkhoaaGreatShelfI
import Derived.Laws.OwnMore
namespace Go.Proofs.YteknflimfdkhoaaGreat
open Go.RowKit Go.Maps
set_option linter.unusedVariables false
set_option linter.unusedSimpArgs false

def jvV (v : JV) : Value := .agg #[.int .i64 v.k, .int .i64 v.n, .string v.s, .int .i64 v.o, .int .i64 v.p]
def zJV : JV := ⟨0, 0, ⟨#[]⟩, 0, 0⟩
theorem zeroVal (w : World) : (zeroValue 31).run Tryz.prog w = .ok (jvV zJV) w := by kernel_rfl
theorem zeroMapV (w : World) : (zeroValue 110).run Tryz.prog w = .ok (.map none) w := by kernel_rfl
/-- The values of a place. -/
def VmAt (w : World) (m : Nat) (f : Vm) (N : Nat) : Prop := ∃ Dm, w.ownsMap Tryz.prog 24 anyElem m (Maps.size Dm) Dm ∧ (∀ n, I2 n → mget Dm n = (f n).map jvV) ∧ Maps.size Dm ≤ N
theorem VmAt.only {w w' : World} {S : Nat → Prop} {m : Nat} {f : Vm} {N : Nat} (h : VmAt w m f N) (ho : Only S w w') (hn : ¬ S m) : VmAt w' m f N := by
  obtain ⟨Dm, h1, h2⟩ := h
  exact ⟨Dm, own_only h1 ho hn, h2⟩
theorem VmAt.lt {w : World} {m : Nat} {f : Vm} {N : Nat} (h : VmAt w m f N) : m < w.heap.size := by
  obtain ⟨Dm, h1, h2⟩ := h
  exact World.ownsMap.lt h1
/-- A state: what of it lies from B on. -/
structure StM (w : World) (B sb kb vb ib lb : Nat) (N : Nat) (s : Sta) : Prop where
  blk : Blk w sb 76 #[.map (some kb), .map (some vb), .map (some ib), .map (some lb)]
  ks : ∃ Dk, w.ownsMap Tryz.prog 24 anyElem kb (Maps.size Dk) Dk ∧ (∀ n, I2 n → mget Dk n = (s.kinds n).map (Value.int .i64)) ∧ Maps.size Dk ≤ N
  vs : ∃ Dv, w.ownsMap Tryz.prog 109 anyElem vb (Maps.size Dv) Dv ∧ Maps.size Dv ≤ N ∧
    (∀ x, whOk x → match s.vals x with
      | none => kget Dv (whLit x) = none
      | some f => ∃ m, kget Dv (whLit x) = some (.map (some m)) ∧ VmAt w m f N ∧ B ≤ m ∧ m ≠ sb ∧ m ≠ kb ∧ m ≠ vb ∧ m ≠ ib ∧ m ≠ lb) ∧
    (∀ x y m, whOk x → whOk y → kget Dv (whLit x) = some (.map (some m)) → kget Dv (whLit y) = some (.map (some m)) → x = y)
  low : B ≤ sb ∧ B ≤ kb ∧ B ≤ vb
  ne : sb ≠ kb ∧ sb ≠ vb ∧ kb ≠ vb
  is : KidsM w B ib N s.kids
  ls : ListsM w lb N s.lists
  ne2 : kb ≠ ib ∧ kb ≠ lb ∧ vb ≠ ib ∧ vb ≠ lb ∧ sb ≠ ib ∧ sb ≠ lb ∧ ib ≠ lb ∧ B ≤ ib ∧ B ≤ lb
theorem VmAt.isMapB {w : World} {m : Nat} {f : Vm} {N : Nat} (h : VmAt w m f N) : IsMapB w m := by
  obtain ⟨Dm, ⟨es, ck, hb, _⟩, _⟩ := h
  exact ⟨es, ck, hb⟩
theorem own_isMapB {P : Program} {k : TypeId} {w : World} {b n : Nat} {D : DataW Value} (h : w.ownsMap P k anyElem b n D) : IsMapB w b := by
  obtain ⟨es, ck, hb, _⟩ := h
  exact ⟨es, ck, hb⟩
theorem StM.below {w w' : World} {B sb kb vb ib lb N : Nat} {s : Sta} (h : StM w B sb kb vb ib lb N s) (hb : Below w.heap.size w w') : StM w' B sb kb vb ib lb N s := by
  obtain ⟨Dk, k1, k2⟩ := h.ks
  obtain ⟨Dv, v1, v2, v3, v4⟩ := h.vs
  have ho : Only (fun _ => False) w w' := Only.of_below hb
  refine ⟨h.blk.below hb h.blk.lt, ⟨Dk, own_only k1 ho (fun h => h), k2⟩, ⟨Dv, own_only v1 ho (fun h => h), v2, fun x hx => ?_, v4⟩, h.low, h.ne, h.is.below hb, h.ls.below hb, h.ne2⟩
  have := v3 x hx
  cases e : s.vals x with
  | none => rw [e] at this; exact this
  | some f =>
    rw [e] at this
    obtain ⟨m, m1, m2, m3⟩ := this
    exact ⟨m, m1, m2.only ho (fun h => h), m3⟩
/-- Where the values of a place are. -/
theorem StM.val {w : World} {B sb kb vb ib lb N : Nat} {s : Sta} (h : StM w B sb kb vb ib lb N s) {x : Wh} {f : Vm} (hf : s.vals x = some f) (hx : whOk x) :
    ∃ m, VmAt w m f N ∧ B ≤ m ∧ m ≠ sb ∧ m ≠ kb ∧ (m ≠ vb ∧ m ≠ ib ∧ m ≠ lb) ∧
      (∀ w1, Only (fun i => i ≠ vb) w w1 → (Instr.lookup 72 (.map (some vb)) (whV x) false).run Tryz.prog w1 = .ok (.map (some m)) w1) ∧
      (∀ (w1 : World) (f1 : Vm), Only (fun i => i = m) w w1 → VmAt w1 m f1 (N + 1) → StM w1 B sb kb vb ib lb (N + 1) { s with vals := upd s.vals x (some f1) }) := by
  obtain ⟨Dk, k1, k2, k3⟩ := h.ks
  obtain ⟨Dv, v1, v2, v3, v4⟩ := h.vs
  have hv := v3 x hx
  rw [hf] at hv
  obtain ⟨m, m1, m2, m3, m4, m5, m6⟩ := hv
  refine ⟨m, m2, m3, m4, m5, m6, fun w1 ho => ?_, fun w1 f1 ho hv1 => ?_⟩
  · have := krun_look whMK (own_only v1 ho (fun h => h rfl)) Tryz.underlying72 (zeroMapV w1) hx
    rw [m1] at this
    exact this
  · refine ⟨h.blk.only ho (fun e => m4 e.symm), ⟨Dk, own_only k1 ho (fun e => m5 e.symm), k2, by omega⟩, ⟨Dv, own_only v1 ho (fun e => m6.1 e.symm), by omega, fun y hy => ?_, v4⟩, h.low, h.ne, (h.is.only ho (fun e => m6.2.1 e.symm) (fun i e => by have e : i = m := e; subst e; exact m2.isMapB)).mono (by omega), (h.ls.only ho (fun e => m6.2.2 e.symm)).mono (by omega), h.ne2⟩
    show match upd s.vals x (some f1) y with
      | none => _
      | some f => _
    by_cases e : y = x
    · subst e
      rw [upd_same]
      exact ⟨m, m1, hv1, m3, m4, m5, m6⟩
    · rw [upd_other _ _ e]
      have := v3 y hy
      cases e2 : s.vals y with
      | none => rw [e2] at this; exact this
      | some g =>
        rw [e2] at this
        obtain ⟨m', n1, ⟨Dg, g1, g2, g3⟩, n3, n4, n5, n6⟩ := this
        have hne : m' ≠ m := fun h => e (v4 y x m hy hx (h ▸ n1) m1)
        exact ⟨m', n1, ⟨Dg, own_only g1 ho hne, g2, by omega⟩, n3, n4, n5, n6⟩
/-- A place that has no values yet gets none. -/
theorem StM.fresh {w : World} {B sb kb vb ib lb N : Nat} {s : Sta} (h : StM w B sb kb vb ib lb N s) {x : Wh} (hf : s.vals x = none) (hx : whOk x) :
    (∀ w1, Only (fun i => i ≠ vb) w w1 → (Instr.lookup 72 (.map (some vb)) (whV x) false).run Tryz.prog w1 = .ok (.map none) w1) ∧
    ∃ Dv, w.ownsMap Tryz.prog 109 anyElem vb (Maps.size Dv) Dv ∧ Maps.size Dv ≤ N ∧
      ∀ (w0 w1 : World) (m : Nat), Below w.heap.size w w0 → w.heap.size ≤ m → VmAt w0 m (fun _ => none) (N + 1) → w1.ownsMap Tryz.prog 109 anyElem vb (Maps.size Dv + 1) (Dv.put (whLit x) (.held (.map (some m)))) → Only (fun i => i = vb) w0 w1 → B ≤ w.heap.size →
        StM w1 B sb kb vb ib lb (N + 1) { s with vals := upd s.vals x (some (fun _ => none)) } := by
  obtain ⟨Dk, k1, k2, k3⟩ := h.ks
  obtain ⟨Dv, v1, v2, v3, v4⟩ := h.vs
  have hv := v3 x hx
  rw [hf] at hv
  refine ⟨fun w1 ho => ?_, Dv, v1, v2, fun w0 w1 m hb hm hvm hown ho hB => ?_⟩
  · have := krun_look whMK (own_only v1 ho (fun h => h rfl)) Tryz.underlying72 (zeroMapV w1) hx
    rw [hv] at this
    exact this
  · have ho0 : Only (fun _ => False) w w0 := Only.of_below hb
    have lk := World.ownsMap.lt k1
    have lv := World.ownsMap.lt v1
    have ls := h.blk.lt
    have hD : IsMap Dv := World.ownsMap.isMap v1
    have hget : ∀ y, whOk y → kget (Dv.put (whLit x) (.held (.map (some m)))) (whLit y) = if y = x then some (.map (some m)) else kget Dv (whLit y) := fun y hy => whMK.get_put hD hx hy _
    have hlt : ∀ y, whOk y → ∀ m', kget Dv (whLit y) = some (.map (some m')) → m' < w.heap.size := fun y hy m' e => by
      have := v3 y hy
      cases e2 : s.vals y with
      | none => rw [e2] at this; rw [this] at e; cases e
      | some g =>
        rw [e2] at this
        obtain ⟨m2, n1, n2, _⟩ := this
        rw [n1] at e
        injection e with e
        injection e with e
        injection e with e
        subst e
        exact n2.lt
    obtain ⟨Di, hDi, _⟩ := h.is
    obtain ⟨Dl, hDl, _⟩ := h.ls
    have li := World.ownsMap.lt hDi
    have ll := World.ownsMap.lt hDl
    refine ⟨(h.blk.only ho0 (fun h => h)).only ho h.ne.2.1, ⟨Dk, own_only (own_only k1 ho0 (fun h => h)) ho h.ne.2.2, k2, by omega⟩, ⟨_, own_tight hown, by have := own_size (own_tight hown); have := own_size hown; omega, fun y hy => ?_, fun y z m' hy hz e1 e2 => ?_⟩, h.low, h.ne, ((h.is.below hb).only ho (fun e => h.ne2.2.2.1 e.symm) (fun i e => by have e : i = vb := e; subst e; exact own_isMapB (own_only v1 ho0 (fun h => h)))).mono (by omega), ((h.ls.below hb).only ho (fun e => h.ne2.2.2.2.1 e.symm)).mono (by omega), h.ne2⟩
    · show match upd s.vals x (some (fun _ => none)) y with
        | none => _
        | some f => _
      rw [hget y hy]
      by_cases e : y = x
      · subst e
        rw [upd_same, if_pos rfl]
        exact ⟨m, rfl, hvm.only ho (by show m ≠ vb; omega), by omega, by omega, by omega, by omega, by omega, by omega⟩
      · rw [upd_other _ _ e, if_neg e]
        have := v3 y hy
        cases e2 : s.vals y with
        | none => rw [e2] at this; exact this
        | some g =>
          rw [e2] at this
          obtain ⟨m', n1, ⟨Dg, g1, g2, g3⟩, n3, n4, n5, n6⟩ := this
          exact ⟨m', n1, ⟨Dg, own_only (own_only g1 ho0 (fun h => h)) ho n6.1, g2, by omega⟩, n3, n4, n5, n6⟩
    · rw [hget y hy] at e1
      rw [hget z hz] at e2
      by_cases ey : y = x <;> by_cases ez : z = x
      · rw [ey, ez]
      · rw [if_pos ey] at e1
        rw [if_neg ez] at e2
        have := hlt z hz m' e2
        injection e1 with e1
        injection e1 with e1
        injection e1 with e1
        omega
      · rw [if_neg ey] at e1
        rw [if_pos ez] at e2
        have := hlt y hy m' e1
        injection e2 with e2
        injection e2 with e2
        injection e2 with e2
        omega
      · rw [if_neg ey] at e1
        rw [if_neg ez] at e2
        exact v4 y z m' hy hz e1 e2
/-- Another kind. -/
theorem StM.kind {w : World} {B sb kb vb ib lb N : Nat} {s : Sta} (h : StM w B sb kb vb ib lb N s) {n : Int × Int} (hn : I2 n) (k : Int) :
    ∃ Dk, w.ownsMap Tryz.prog 24 anyElem kb (Maps.size Dk) Dk ∧ Maps.size Dk ≤ N ∧ (∀ w1 : World, w1.ownsMap Tryz.prog 24 anyElem kb (Maps.size Dk + 1) (Dk.put (rlit n) (.held (.int .i64 k))) → Only (fun i => i = kb) w w1 → StM w1 B sb kb vb ib lb (N + 1) { s with kinds := upd s.kinds n (some k) }) := by
  obtain ⟨Dk, k1, k2, k3⟩ := h.ks
  obtain ⟨Dv, v1, v2, v3, v4⟩ := h.vs
  refine ⟨Dk, k1, k3, fun w1 hown ho => ⟨h.blk.only ho h.ne.1, ⟨_, own_tight hown, fun r hr => ?_, by have := own_size (own_tight hown); have := own_size hown; omega⟩, ⟨Dv, own_only v1 ho (fun e => h.ne.2.2 e.symm), by omega, fun y hy => ?_, v4⟩, h.low, h.ne, (h.is.only ho (fun e => h.ne2.1 e.symm) (fun i e => by have e : i = kb := e; subst e; exact own_isMapB k1)).mono (by omega), (h.ls.only ho (fun e => h.ne2.2.1 e.symm)).mono (by omega), h.ne2⟩⟩
  · rw [mget_put pairId (World.ownsMap.isMap k1) hn hr]
    show _ = (upd s.kinds n (some k) r).map _
    unfold upd
    by_cases e : r = n
    · rw [if_pos e, if_pos e]; rfl
    · rw [if_neg e, if_neg e]; exact k2 r hr
  · have := v3 y hy
    cases e2 : s.vals y with
    | none => rw [e2] at this; exact this
    | some g =>
      rw [e2] at this
      obtain ⟨m', n1, ⟨Dg, g1, g2, g3⟩, n3, n4, n5, n6⟩ := this
      exact ⟨m', n1, ⟨Dg, own_only g1 ho n5, g2, by omega⟩, n3, n4, n5, n6⟩
/-- One more Insert. -/
theorem StM.ins {w w' : World} {B sb kb vb ib lb N : Nat} {s : Sta} {f : Wh → Option (List (Int × Int))} {g : Int × Int → Option (Int × Int)} (h : StM w B sb kb vb ib lb N s) {S : Nat → Prop} (ho : Only S w w') (hS : ∀ i, S i → i = ib ∨ i = lb ∨ IsIdB w i) (hk : KidsM w' B ib (N + 1) f) (hl : ListsM w' lb (N + 1) g) : StM w' B sb kb vb ib lb (N + 1) { s with kids := f, lists := g } := by
  obtain ⟨Dk, k1, k2, k3⟩ := h.ks
  obtain ⟨Dv, v1, v2, v3, v4⟩ := h.vs
  have hmap : ∀ i, IsMapB w i → i ≠ ib → i ≠ lb → ¬ S i := fun i hi h1 h2 hs => by
    rcases hS i hs with e | e | e
    · exact h1 e
    · exact h2 e
    · exact idB_noMap e hi
  refine ⟨h.blk.only ho (fun hs => ?_), ⟨Dk, own_only k1 ho (hmap kb (own_isMapB k1) h.ne2.1 h.ne2.2.1), k2, by omega⟩, ⟨Dv, own_only v1 ho (hmap vb (own_isMapB v1) h.ne2.2.2.1 h.ne2.2.2.2.1), by omega, fun x hx => ?_, v4⟩, h.low, h.ne, hk, hl, h.ne2⟩
  · rcases hS sb hs with e | e | e
    · exact h.ne2.2.2.2.2.1 e
    · exact h.ne2.2.2.2.2.2.1 e
    · exact idB_blk h.blk (by decide) e
  · have := v3 x hx
    show match s.vals x with
      | none => _
      | some f => _
    cases e : s.vals x with
    | none => rw [e] at this; exact this
    | some f =>
      rw [e] at this
      obtain ⟨m, m1, m2, m3, m4, m5, m6, m7, m8⟩ := this
      obtain ⟨Dm, g1, g2, g3⟩ := m2.only ho (hmap m m2.isMapB m7 m8)
      exact ⟨m, m1, ⟨Dm, g1, g2, by omega⟩, m3, m4, m5, m6, m7, m8⟩
end Go.Proofs.YteknflimfdkhoaaGreat
namespace Go.Proofs.YteknflimfdkhoaaGreat
open Go.RowKit Go.Sort Go.Proofs
set_option linter.unusedVariables false
set_option linter.unusedSimpArgs false

def sortC (cmp : Int × Int → Int × Int → Int) (l : List (Int × Int)) : List (Int × Int) := l.mergeSort fun x y => !(ltOf cmp) y x
theorem sortC_len (cmp : Int × Int → Int × Int → Int) (l : List (Int × Int)) : (sortC cmp l).length = l.length := by unfold sortC; exact List.length_mergeSort l
theorem sortC_perm (cmp : Int × Int → Int × Int → Int) (l : List (Int × Int)) : (sortC cmp l).Perm l := by unfold sortC; exact List.mergeSort_perm l _
def cmpDown (a b : Int × Int) : Int := cmpId b a
theorem swo_down : SWO (ltOf cmpDown) where
  irrefl x := swo_refs.irrefl x
  trans x y z h1 h2 := swo_refs.trans z y x h2 h1
  ntrans x y z h1 h2 := swo_refs.ntrans z y x h2 h1
theorem tot_down (x y : Int × Int) (h1 : ltOf cmpDown x y = false) (h2 : ltOf cmpDown y x = false) : x = y := tot_refs x y h2 h1
set_option maxHeartbeats 1000000 in
theorem sortIds_any (cmp : Int × Int → Int × Int → Int) (swo : SWO (ltOf cmp)) (tot : ∀ x y, ltOf cmp x y = false → ltOf cmp y x = false → x = y) (F : FuncId) (eg : ∀ args w, (callFunc F args).run Tryz.prog w = .ok (.enter F args) w)
    (hF : ∀ (a b : Int × Int) (w : World), Calls Tryz.prog F #[.agg #[.int .i64 a.1, .int .i64 a.2], .agg #[.int .i64 b.1, .int .i64 b.2]] w fun e w' => e = .returned (.int .i64 (cmp a b)) ∧ ∃ q os', w' = grow (w.drewN q) os') (B g cap : Nat) (l : List (Int × Int)) (w : World) (hO : w.ownsRow B 24 2 (.slice (some ⟨g, 0, none⟩) l.length cap) l.length (refs l)) (hl : l.length < 4611686018427387904) :
    Calls Tryz.prog 60 #[.slice (some ⟨g, 0, none⟩) l.length cap, .func (.func F) #[] #[]] w fun e w' =>
      e = .returned (.tuple #[]) ∧ w'.ownsRow B 24 2 (.slice (some ⟨g, 0, none⟩) l.length cap) l.length (refs (sortC cmp l)) ∧ Only (fun i => i = g) w w' := by
  obtain ⟨cur, hbase, hb, h1, h2, h3, h4⟩ : ∃ cur, B ≤ g ∧ w.heap[g]? = some (.cells cur 24 (0, 0)) ∧ l.length ≤ cap ∧ cap ≤ maxLen ∧ cur.size = cap * 2 ∧ cur.toList.take (l.length * 2) = refs l := by
    rcases hO.2 with ⟨hv, _⟩ | ⟨g', cap', cur, hv, a1, a2, a3, a4, a5, a6⟩
    · cases hv
    · cases hv
      exact ⟨cur, a1, a2, a3, a4, a5, a6⟩
  have hg : g < w.heap.size := (Array.getElem?_eq_some_iff.1 hb).1
  have hH : HoldsK encR 2 w g 0 l.toArray := by
    intro j hj
    have hj' : j < l.length * 2 := by simpa using hj
    refine ⟨?_, by simp [World.frozen?, hb]⟩
    have e1 : (cur.toList.take (l.length * 2))[j]? = (refs l)[j]? := by rw [h4]
    rw [List.getElem?_take_of_lt hj', refs_get l j hj'] at e1
    simp only [World.cell?, hb, Nat.zero_add]
    simp only [Option.isSome_none, Bool.false_eq_true, if_false]
    rw [← Array.getElem?_toList, e1, get_flatK encR 2 l.toArray j (by simpa using hj')]
    simp
  have hcon := AnyQ.slices_SortFunc_total Tryz.laysSortI 2 (fun _ => by kernel_rfl) (fun _ => by kernel_rfl) encR (fun _ => rfl) (fun x v hv => by simp [encR] at hv; rcases hv with rfl | rfl <;> rfl) cmp swo F #[] g 0 cap l.toArray w eg (fun _ _ _ _ x y => hF x y _) hH hg (by simpa using hl) tot
  change Calls Tryz.prog 60 _ _ _ at hcon
  rw [show (l.toArray.toList.mergeSort fun x y => !(ltOf cmp) y x) = sortC cmp l from rfl] at hcon
  have e0 : l.toArray.size = l.length := by simp
  rw [e0] at hcon
  refine hcon.mono ?_
  rintro e w' ⟨rfl, n, os, rfl⟩
  have hfs : (flatK encR 2 (sortC cmp l).toArray).size = l.length * 2 := by simp [sortC_len]
  refine ⟨rfl, ⟨by rw [refs_length, sortC_len], .inr ⟨g, cap, putCells id 0 (flatK encR 2 (sortC cmp l).toArray) cur, rfl, hbase, ?_, h1, h2, by simp [putCells, h3], ?_⟩⟩, ?_⟩
  · show (grow (putRow id (Sort.ahead w n) g 0 (flatK encR 2 (sortC cmp l).toArray)) os).heap[g]? = _
    rw [heap_grow_old _ _ (by simpa using hg)]
    simp [putRow, mapBlock, Sort.ahead, Array.getElem?_modify, hb, onCells]
  · rw [← hfs, take_putCells2 _ _ (by rw [hfs, h3]; exact Nat.mul_le_mul_right _ h1), flat_refs]
  · refine ⟨rfl, rfl, rfl, ?_, fun k hk hne => ?_⟩
    · show w.heap.size ≤ (grow (putRow id (Sort.ahead w n) g 0 (flatK encR 2 (sortC cmp l).toArray)) os).heap.size
      simp
    · show (grow (putRow id (Sort.ahead w n) g 0 (flatK encR 2 (sortC cmp l).toArray)) os).heap[k]? = _
      rw [heap_grow_old _ _ (by simpa using hk)]
      have : g ≠ k := fun e => hne e.symm
      simp [putRow, mapBlock, Sort.ahead, Array.getElem?_modify, this]

theorem sortNoneI_any (p : Option Addr) (cap : Nat) (fv : Value) (w : World) : Calls Tryz.prog 60 #[.slice p 0 cap, fv] w fun e w' => e = .returned (.tuple #[]) ∧ w' = w :=
  AnyF.slices_SortFunc_none Tryz.laysSortI p cap fv w
end Go.Proofs.YteknflimfdkhoaaGreat
