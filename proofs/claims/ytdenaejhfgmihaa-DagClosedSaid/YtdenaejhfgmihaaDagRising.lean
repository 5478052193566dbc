/- dag.rising: a contract. -/
import Derived.Test.YtdenaejhfgmihaaDagSort
import Derived.Test.YtdenaejhfgmihaaDagClone
import Derived.Sort.OwnSorted
namespace Go.Proofs.Ytdenaejhfgmihaa
open Go.RowKit Go.Maps
set_option linter.unusedVariables false
set_option linter.unusedSimpArgs false

theorem laidOutD : laidOutB Try.prog = true := by kernel_rfl
theorem keyedRef : Keyed Try.prog 34 := Keyed.of_law (deep_law_laid laidOutD (m := 2) (by omega) (of_decide_eq_true (by kernel_rfl)) (by kernel_rfl) (by kernel_rfl))
theorem pairRef : PairK Try.prog 34 := pairK_mk Try.underlying34 rfl rfl rfl rfl rfl (by kernel_rfl) Try.underlying3 (by kernel_rfl) (by kernel_rfl) (by kernel_rfl) ⟨139 - 1, by kernel_rfl⟩ keyedRef
theorem keyedId : Keyed Try.prog 59 := Keyed.of_law (deep_law_laid laidOutD (m := 2) (by omega) (of_decide_eq_true (by kernel_rfl)) (by kernel_rfl) (by kernel_rfl))
theorem pairId : PairK Try.prog 59 := pairK_mk Try.underlying59 rfl rfl rfl rfl rfl (by kernel_rfl) Try.underlying3 (by kernel_rfl) (by kernel_rfl) (by kernel_rfl) ⟨139 - 1, by kernel_rfl⟩ keyedId
def zCh : Value := .agg #[.int .i64 0, .int .i64 0, .int .i64 0, .slice none 0 0, .slice none 0 0]
theorem zeroCh (w : World) : (zeroValue 31).run Try.prog w = .ok zCh w := by kernel_rfl
theorem zeroBool (w : World) : (zeroValue 4).run Try.prog w = .ok (.bool false) w := by kernel_rfl
theorem zeroMapB (w : World) : (zeroValue 52).run Try.prog w = .ok (.map none) w := by kernel_rfl

theorem wpList_push2 {P : Program} (w0 : World) (g : Nat) (hg : g = w0.heap.size) {ops : Array Oper} {rest : List Oper} {o : Oper} {a : Act} {Q : Exit → Act → World → Prop} (hgd : o.guard = none) (s x : Operand) (t : TypeId)
    (ho : o.op = .call { callee := .builtin .append, args := #[s, x], argTypes := #[t, t] })
    (base : Nat) (e : TypeId) {z : Value} {size bytes : Nat} (ht : P.underlying t = some (.slice e)) (hinfo : (P.info? e).map (fun i => (i.zero, i.size, i.bytes)) = some (some z, size, bytes))
    (hzs : z.cells.size = size) (hsz : 0 < size) (hby : bytes ≤ 128)
    (v : Value) (n : Nat) (xs : List Value) (hs : a.eval s = v) (hown : w0.ownsRow base e size v n xs)
    (cs : Array Value) (hx : a.eval x = .slice (some ⟨g, 0, none⟩) 1 1) (hl : cs.size = size) (h1 : ∀ u ∈ cs.toList, u.oneCell' = true)
    (hn : n ≤ 1000000000000) (hbase : base ≤ w0.heap.size)
    (h : ∀ A c w', w'.ownsRow base e size (.slice A (n + 1) c) (n + 1) (xs ++ cs.toList) → w0.grownBy w' v.ownBlock → wpList P ops Q rest (a.put o.dst (.slice A (n + 1) c)) w') :
    wpList P ops Q (o :: rest) a (w0.alloc (.cells cs e)) := by
  subst hg
  exact wpList_push w0 hgd s x t ho base e ht hinfo hzs hsz hby v n xs hs hown cs hx hl h1 hn hbase h

/-- These are a map's keys. -/
structure KeysAre (D : DataW Value) (l : List (Int × Int)) : Prop where
  nodup : l.Nodup
  i2 : ∀ r ∈ l, I2 r
  mem : ∀ r, I2 r → (r ∈ l ↔ (mget D r).isSome = true)
theorem sortR_perm (l : List (Int × Int)) : (sortR l).Perm l := by unfold sortR; exact List.mergeSort_perm l _
theorem sortR_mem (l : List (Int × Int)) (r : Int × Int) : r ∈ sortR l ↔ r ∈ l := (sortR_perm l).mem_iff

/-- What rising gives. -/
def RisingQ (w : World) (D : DataW Value) (e : Ending) (w' : World) : Prop :=
  ∃ l A c, KeysAre D l ∧ l.length ≤ Maps.size D ∧ e = .returned (.slice A l.length c) ∧ w'.ownsRow w.heap.size 34 2 (.slice A l.length c) l.length (refs (sortR l)) ∧ Below w.heap.size w w'
def RisL (w : World) (m n : Nat) (D : DataW Value) (lv : Value) (W : World) : Prop :=
  ∃ (left : Lit → Bool) (cnt : Nat) (l : List (Int × Int)) (A : Option Addr) (c : Nat), lv = .slice A l.length c ∧ W.ranges Try.prog 34 anyElem m w.heap.size n D left cnt ∧ W.ownsRow w.heap.size 34 2 (.slice A l.length c) l.length (refs l) ∧
    l.Nodup ∧ (∀ r ∈ l, I2 r) ∧ (∀ r, I2 r → (r ∈ l ↔ ((mget D r).isSome = true ∧ left (rlit r) = false))) ∧ l.length + cnt ≤ Maps.size D ∧ Below w.heap.size w W

theorem RisX.step {w wr w2 w3 : World} {m n cnt cnt2 : Nat} {D : DataW Value} {left : Lit → Bool} {l : List (Int × Int)} {A A' : Option Addr} {c c' : Nat} {x1 x2 : Int} {v : Value}
    (h : I2 (x1, x2) ∧ left (rlit (x1, x2)) = true ∧ mget D (x1, x2) = some v ∧ w2.ranges Try.prog 34 anyElem m w.heap.size n D (fun z => left z && !z.sameKey (rlit (x1, x2))) cnt2 ∧ cnt2 < cnt ∧ Below w.heap.size w w2 ∧
      (∀ (k : Nat), (Value.slice A l.length c).ownBlock = some k → k ≠ w.heap.size ∧ k ≠ m ∧ w.heap.size ≤ k) ∧ wr.rangeLeft m w.heap.size = cnt)
    (hnd : l.Nodup) (hi2 : ∀ r ∈ l, I2 r) (hmem : ∀ r, I2 r → (r ∈ l ↔ ((mget D r).isSome = true ∧ left (rlit r) = false))) (hlen : l.length + cnt ≤ Maps.size D)
    (hown' : w3.ownsRow w.heap.size 34 2 (.slice A' (l.length + 1) c') (l.length + 1) (refs l ++ [.int .i64 x1, .int .i64 x2]))
    (hg3 : (w2.alloc (.cells #[.int .i64 x1, .int .i64 x2] 34)).grownBy w3 (Value.slice A l.length c).ownBlock) : RisL w m n D (.slice A' (l ++ [(x1, x2)]).length c') w3 := by
  obtain ⟨hx, hl2, hat, hrg2, hlt2, hb2, hneg, _⟩ := h
  have hxn : (x1, x2) ∉ l := fun e => by have := ((hmem _ hx).1 e).2; rw [hl2] at this; cases this
  refine ⟨_, cnt2, l ++ [(x1, x2)], A', c', by simp, (hrg2.alloc _).kept hg3 (fun e => (hneg m e.symm).2.1 rfl) (fun e => (hneg _ e.symm).1 rfl), ?_, ?_, ?_, ?_, ?_, ?_⟩
  · rw [List.length_append, List.length_singleton, refs_append]
    exact hown'
  · rw [List.nodup_append]
    refine ⟨hnd, by simp, ?_⟩
    intro a ha b hb e
    simp at hb
    exact hxn (by rw [← hb, ← e]; exact ha)
  · intro r hr
    rcases List.mem_append.1 hr with hr | hr
    · exact hi2 r hr
    · simp at hr
      rw [hr]; exact hx
  · intro r hr
    have hs := left_struck pairRef (left := left) hx hr
    show _ ↔ _ ∧ (left (rlit r) && !(rlit r).sameKey (rlit (x1, x2))) = false
    rw [hs, List.mem_append, hmem r hr]
    by_cases e : r = (x1, x2)
    · subst e
      simp [hat]
    · simp [e]
  · simp; omega
  · refine (hb2.alloc hb2.size _).trans ⟨hg3.os, hg3.tape, hg3.output, ?_, fun k hk => hg3.block k ?_ ?_⟩
    · have h1 := hg3.size; have h2 := hb2.size; simp at h1 ⊢; omega
    · have h2 := hb2.size; simp; omega
    · intro e
      have := (hneg k e.symm).2.2
      omega

set_option maxRecDepth 100000 in
set_option maxHeartbeats 1000000 in
theorem rising_any (m n : Nat) (D : DataW Value) (w : World) (ho : w.ownsMap Try.prog 34 anyElem m n D) (hsz : Maps.size D ≤ 1000) :
    Calls Try.prog 19 #[.map (some m)] w (RisingQ w D) := by
  have hhas := fun (r : Int × Int) (hr : I2 r) => own_has pairRef ho ⟨_, _, _, Try.underlying41, zeroCh w⟩ hr
  have HH := Lib.hid (And.intro hhas (And.intro hsz ho.lt))
  clear hhas hsz
  go_enter Try.func19, Try.ntmps19
  go_wp2_with (first | (at_range; refine wpList_range_own _ rfl _ 41 rfl 34 31 keyedRef Try.underlying41 _ m _ _ rfl ho ?_; intro w1 hrg1 hg1 hs1) | fail)
  go_frame
  have hst : RisL w m n D (.slice none 0 0) w1 := by
    refine ⟨_, _, [], none, 0, rfl, hrg1, World.ownsRow_nil _ _ _ _, List.nodup_nil, by simp, ?_, by simp, ⟨hg1.os, hg1.tape, hg1.output, by omega, fun k hk => hg1.block k hk (by simp)⟩⟩
    intro r hr
    rw [HH.out.1 r hr]
    cases mget D r <;> simp
  have HS := Lib.hid hst
  clear hst hrg1 hg1 hs1 ho
  go_loopw [3, 4] (fun lv _ wr => RisL w m n D lv wr) (fun _ _ wr => wr.rangeLeft m w.heap.size)
  case atStart => exact HS.out
  case round =>
    obtain ⟨left, cnt, l, A, c, rfl, hrg, hown, hnd, hi2, hmem, hlen, hb⟩ := hrel
    have HR := Lib.hid (And.intro hrg (And.intro hown (And.intro hnd (And.intro hi2 (And.intro hmem (And.intro hlen hb))))))
    clear hown hnd hi2 hmem hlen hb
    go_wp2_with (first | (at_next; refine wpList_next_pair _ rfl _ rfl 34 pairRef m w.heap.size _ D _ _ rfl hrg ?_ ?_) | fail)
    · intro hc0 hl0
      have hK : KeysAre D l := ⟨HR.out.2.2.1, HR.out.2.2.2.1, fun r hr => by rw [HR.out.2.2.2.2.1 r hr, hl0]; simp⟩
      have hll : l.length ≤ Maps.size D := by have := HR.out.2.2.2.2.2.1; omega
      have HK := Lib.hid (And.intro hK hll)
      clear hK hc0 hl0 hrg
      by_cases h0 : l = []
      · subst h0
        go_wp2_with (go_at_call 40; refine (sortNone_any _ _ _ _).mono ?_; rintro e w2 ⟨rfl, hw2⟩; rw [hw2])
        go_ret
        exact ⟨[], A, c, HK.out.1, HK.out.2, rfl, by simpa [sortR] using HR.out.2.1, HR.out.2.2.2.2.2.2⟩
      · obtain ⟨g, rfl⟩ : ∃ g, A = some ⟨g, 0, none⟩ := by
          rcases HR.out.2.1.2 with ⟨_, hn0⟩ | ⟨g, cap, cur, hv, _⟩
          · exact absurd (List.eq_nil_of_length_eq_zero hn0) h0
          · injection hv with hv; exact ⟨g, hv⟩
        have hgl := (HR.out.2.1.lt g rfl).1
        have HSR := Lib.hid (sortRefs_any w.heap.size g c l wr HR.out.2.1 (by have := HK.out.2; have := HH.out.2.1; omega))
        go_wp2_with (go_at_call 40; refine HSR.out.mono ?_; rintro e w2 ⟨rfl, ho2, hon2⟩)
        go_ret
        exact ⟨l, _, c, HK.out.1, HK.out.2, rfl, ho2, HR.out.2.2.2.2.2.2.trans (hon2.below HR.out.2.2.2.2.2.2.size (fun k hk e => by have : k = g := e; omega))⟩
    · intro x1 x2 v w2 cnt2 hx hl2 hat hrg2 hlt2 ho2 hs2 hen2
      have hlt := hrg.lt
      have hneg : ∀ k, Value.ownBlock (.slice A l.length c) = some k → k ≠ w.heap.size ∧ k ≠ m ∧ w.heap.size ≤ k := by
        intro k hk
        have h1 := row_ne_iter HR.out.2.1 hrg
        have h2 := (HR.out.2.1.lt k hk).1
        have h3 := HH.out.2.2
        exact ⟨fun e => h1 (by rw [hk, e]), by omega, h2⟩
      have hown2 : w2.ownsRow w.heap.size 34 2 (.slice A l.length c) l.length (refs l) := by
        refine ⟨HR.out.2.1.1, ?_⟩
        rcases HR.out.2.1.2 with h | ⟨g, cap, cur, hv, a1, a2, a3⟩
        · exact .inl h
        · refine .inr ⟨g, cap, cur, hv, a1, ?_, a3⟩
          rw [ho2.block g (Array.getElem?_eq_some_iff.1 a2).1 (by have := hneg g (by rw [hv]; rfl); exact this.1)]
          exact a2
      have hb2 : Below w.heap.size w w2 := HR.out.2.2.2.2.2.2.trans (ho2.below HR.out.2.2.2.2.2.2.size (fun k hk e => by have : k = w.heap.size := e; omega))
      have hll : l.length ≤ 1000 := by have := HR.out.2.2.2.2.2.1; have := HH.out.2.1; omega
      have HX := Lib.hid (And.intro hx (And.intro hl2 (And.intro hat (And.intro hrg2 (And.intro hlt2 (And.intro hb2 (And.intro hneg hrg.left_eq)))))))
      have hbase := hb2.size
      have hown3 : (w2.alloc (.cells #[.int .i64 x1, .int .i64 x2] 34)).ownsRow w.heap.size 34 2 (.slice A l.length c) l.length (refs l) := hown2.alloc _
      have hbase3 : w.heap.size ≤ (w2.alloc (.cells #[.int .i64 x1, .int .i64 x2] 34)).heap.size := by simp; omega
      clear hl2 hat hrg2 hlt2 ho2 hb2 hneg hown2 hrg hs2
      go_wp2_with (first
        | (at_builtin; refine wpList_push2 _ (w2.heap.size + 1) (by simp) rfl (.tmp 11) (.tmp 13) _ rfl w.heap.size 34 Try.underlying28 infoRef rfl (by decide) (by decide) _ _ _ rfl hown3 _ rfl rfl ?_ (by omega) hbase3 ?_)
        | fail)
      · exact ⟨rfl, rfl⟩
      · intro A' c' w3 hown' hg3
        have hst : RisL w m n D (.slice A' (l ++ [(x1, x2)]).length c') w3 := RisX.step HX.out HR.out.2.2.1 HR.out.2.2.2.1 HR.out.2.2.2.2.1 HR.out.2.2.2.2.2.1 hown' hg3
        rw [List.length_append, List.length_singleton] at hst
        have hle : w3.rangeLeft m w.heap.size < wr.rangeLeft m w.heap.size := by
          rw [HX.out.2.2.2.2.2.2.2, ((HX.out.2.2.2.1.alloc _).kept hg3 (fun e => (HX.out.2.2.2.2.2.2.1 m e.symm).2.1 rfl) (fun e => (HX.out.2.2.2.2.2.2.1 _ e.symm).1 rfl)).left_eq]
          exact HX.out.2.2.2.2.1
        have HS2 := Lib.hid (And.intro hst hle)
        clear hst hle hown' hg3
        go_wp2_with fail
        go_roundw
        case rel => exact HS2.out.1
        case measure => exact HS2.out.2
end Go.Proofs.Ytdenaejhfgmihaa
