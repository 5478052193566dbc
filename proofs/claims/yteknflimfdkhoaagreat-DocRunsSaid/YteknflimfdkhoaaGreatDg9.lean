/- slices.Clone at refs, at ids, at ops: a new row with what the slice read as. dag.rising: a contract. -/
import Derived.Test.YteknflimfdkhoaaGreatDg8
import Derived.Test.YteknflimfdkhoaaGreatProg
import Derived.Outline
import Derived.Lib.SliceRun
import Derived.Lib.Hide
import Derived.Test.YteknflimfdkhoaaGreatDg7
import Derived.Sort.OwnSorted
namespace Go.Proofs.YteknflimfdkhoaaGreat
open Go.RowKit
set_option linter.unusedVariables false
set_option linter.unusedSimpArgs false

def blkOf (A : Option Addr) : List Nat := match A with | none => [] | some a => [a.block]
def zTwo : Value := .agg #[.int .i64 0, .int .i64 0]
def zOp : Value := .agg #[.int .i64 0, .int .i64 0, .int .i64 0, .string ⟨#[]⟩, .int .i64 0, .int .i64 0, .bool false, .int .i64 0, .int .i64 0, .string ⟨#[]⟩, .int .i64 0, .int .i64 0, .slice none 0 0]
theorem infoRef : (Tryz.prog.info? 33).map (fun i => (i.zero, i.size, i.bytes)) = some (some zTwo, 2, 16) := by kernel_rfl
theorem infoId : (Tryz.prog.info? 24).map (fun i => (i.zero, i.size, i.bytes)) = some (some zTwo, 2, 16) := by kernel_rfl
theorem infoOp : (Tryz.prog.info? 51).map (fun i => (i.zero, i.size, i.bytes)) = some (some zOp, 13, 136) := by kernel_rfl

/-- A row of one's own, new since w. -/
def NewRow (E : TypeId) (sz : Nat) (w : World) (n : Nat) (xs : List Value) (e : Ending) (w' : World) : Prop :=
  ∃ A c, e = .returned (.slice A n c) ∧ w'.ownsRow 0 E sz (.slice A n c) n xs ∧ Below w.heap.size w w' ∧ ∀ b ∈ blkOf A, w.heap.size ≤ b

set_option maxRecDepth 100000 in
set_option maxHeartbeats 2000000 in
theorem cloneRef_any (A : Option Addr) (n c : Nat) (xs : List Value) (w : World) (hl : xs.length = n * 2) (hA : SlAt w A xs) (hn : n ≤ 1000) (h1 : ∀ u ∈ xs, u.oneCell' = true) :
    Calls Tryz.prog 65 #[.slice A n c] w (NewRow 33 2 w n xs) := by
  have q22 : ∀ (w : World) (a : Option Addr) (n c n' c' : Nat), (binOp .eql 53 (.slice a n c) (.slice none n' c')).run Tryz.prog w = .ok (.bool a.isNone) w := fun w a n c n' c' => Lib.run_eql_slice_nil w _ _ a n c n' c' Tryz.underlying53
  cases A with
  | none =>
    have hx : xs = [] := by
      rcases hA with h | ⟨b, off, h, _⟩
      · exact h
      · cases h
    subst hx
    obtain rfl : n = 0 := by simp at hl; omega
    clear hA hl hn h1
    go_enter Tryz.func65, Tryz.ntmps65
    go_wp2_with fail
    go_ret
    exact ⟨none, 0, rfl, World.ownsRow_nil _ _ _ _, Below.refl _ _, by simp [blkOf]⟩
  | some a =>
    have hown : (w.alloc (.cells #[] 33)).ownsRow 0 33 2 (.slice (some ⟨w.heap.size, 0, none⟩) 0 0) 0 [] := World.ownsRow_made w #[] 0 (Nat.zero_le _) (Nat.zero_le _) (by simp)
    by_cases h0 : n = 0
    · subst h0
      have hx : xs = [] := List.eq_nil_of_length_eq_zero (by simpa using hl)
      subst hx
      have hr : ∀ ty, (Builtin.append_ #[53, 53] ty #[.slice (some ⟨w.heap.size, 0, none⟩) 0 0, .slice (some a) 0 c]).run Tryz.prog (w.alloc (.cells #[] 33)) = .ok (.slice (some ⟨w.heap.size, 0, none⟩) 0 0) (w.alloc (.cells #[] 33)) :=
        fun ty => run_append_none _ _ ty _ Tryz.underlying53 infoRef w.heap.size 0 0 #[] (heap_alloc_new w _) (Nat.le_refl _) (by simp) _ _
      have HR := Lib.hid hr
      have HO := Lib.hid hown
      clear hA hl hn h1 hr hown
      go_enter Tryz.func65, Tryz.ntmps65
      go_wp2_with (at_builtin; refine Lib.wpList_append_run _ rfl _ _ _ _ rfl _ _ rfl rfl _ _ (HR.out _) ?_)
      go_ret
      exact ⟨some ⟨w.heap.size, 0, none⟩, 0, rfl, HO.out, (Below.refl _ _).alloc (Nat.le_refl _) _, by simp [blkOf]⟩
    · obtain ⟨b, off, ha, hc⟩ : ∃ b off, a = ⟨b, off, none⟩ ∧ ∀ j u, xs[j]? = some u → w.cell? ⟨b, off + j, none⟩ = some u := by
        rcases hA with h | ⟨b, off, h, hc⟩
        · subst h; simp at hl; omega
        · exact ⟨b, off, Option.some.inj h, hc⟩
      subst ha
      obtain ⟨A', c', w', hr, ho, hg, hA'⟩ := run_append_own2 (P := Tryz.prog) (w.alloc (.cells #[] 33)) 53 53 33 Tryz.underlying53 infoRef rfl (by decide) _ 0 0 [] hown ⟨b, off, none⟩ n c (by omega) xs hl
        (fun j u hu => by rw [Addr.add_lit]; exact cell_below ((Below.refl _ w).alloc (Nat.le_refl _) _) (hc j u hu)) h1 (by simp only [maxLen]; omega) (by omega)
      rw [Nat.zero_add, List.nil_append] at ho
      rw [Nat.zero_add] at hr
      have hb : Below w.heap.size w w' := ((Below.refl _ _).alloc (Nat.le_refl _) _).trans ⟨hg.os, hg.tape, hg.output, Nat.le_trans (by simp) hg.size, fun k hk => hg.block k (by simp; omega) (by simp [Value.ownBlock]; omega)⟩
      have hnew : ∀ b ∈ blkOf A', w.heap.size ≤ b := by
        rcases hA' with ⟨rfl, _⟩ | rfl
        · simp [blkOf]
        · simp [blkOf]
      have hr' : ∀ ty, (Builtin.append_ #[53, 53] ty #[.slice (some ⟨w.heap.size, 0, none⟩) 0 0, .slice (some ⟨b, off, none⟩) n c]).run Tryz.prog (w.alloc (.cells #[] 33)) = .ok (.slice A' n c') w' := fun _ => hr
      have HR := Lib.hid hr'
      have HO := Lib.hid (And.intro ho (And.intro hb hnew))
      clear hl hn h1 hr hown hr' ho hb hnew hA' hg hA hc
      go_enter Tryz.func65, Tryz.ntmps65
      go_wp2_with (at_builtin; refine Lib.wpList_append_run _ rfl _ _ _ _ rfl _ _ rfl rfl _ _ (HR.out _) ?_)
      go_ret
      exact ⟨A', c', rfl, HO.out.1, HO.out.2.1, HO.out.2.2⟩

set_option maxRecDepth 100000 in
set_option maxHeartbeats 2000000 in
theorem cloneId_any (A : Option Addr) (n c : Nat) (xs : List Value) (w : World) (hl : xs.length = n * 2) (hA : SlAt w A xs) (hn : n ≤ 1000) (h1 : ∀ u ∈ xs, u.oneCell' = true) :
    Calls Tryz.prog 67 #[.slice A n c] w (NewRow 24 2 w n xs) := by
  have q22 : ∀ (w : World) (a : Option Addr) (n c n' c' : Nat), (binOp .eql 49 (.slice a n c) (.slice none n' c')).run Tryz.prog w = .ok (.bool a.isNone) w := fun w a n c n' c' => Lib.run_eql_slice_nil w _ _ a n c n' c' Tryz.underlying49
  cases A with
  | none =>
    have hx : xs = [] := by
      rcases hA with h | ⟨b, off, h, _⟩
      · exact h
      · cases h
    subst hx
    obtain rfl : n = 0 := by simp at hl; omega
    clear hA hl hn h1
    go_enter Tryz.func67, Tryz.ntmps67
    go_wp2_with fail
    go_ret
    exact ⟨none, 0, rfl, World.ownsRow_nil _ _ _ _, Below.refl _ _, by simp [blkOf]⟩
  | some a =>
    have hown : (w.alloc (.cells #[] 24)).ownsRow 0 24 2 (.slice (some ⟨w.heap.size, 0, none⟩) 0 0) 0 [] := World.ownsRow_made w #[] 0 (Nat.zero_le _) (Nat.zero_le _) (by simp)
    by_cases h0 : n = 0
    · subst h0
      have hx : xs = [] := List.eq_nil_of_length_eq_zero (by simpa using hl)
      subst hx
      have hr : ∀ ty, (Builtin.append_ #[49, 49] ty #[.slice (some ⟨w.heap.size, 0, none⟩) 0 0, .slice (some a) 0 c]).run Tryz.prog (w.alloc (.cells #[] 24)) = .ok (.slice (some ⟨w.heap.size, 0, none⟩) 0 0) (w.alloc (.cells #[] 24)) :=
        fun ty => run_append_none _ _ ty _ Tryz.underlying49 infoId w.heap.size 0 0 #[] (heap_alloc_new w _) (Nat.le_refl _) (by simp) _ _
      have HR := Lib.hid hr
      have HO := Lib.hid hown
      clear hA hl hn h1 hr hown
      go_enter Tryz.func67, Tryz.ntmps67
      go_wp2_with (at_builtin; refine Lib.wpList_append_run _ rfl _ _ _ _ rfl _ _ rfl rfl _ _ (HR.out _) ?_)
      go_ret
      exact ⟨some ⟨w.heap.size, 0, none⟩, 0, rfl, HO.out, (Below.refl _ _).alloc (Nat.le_refl _) _, by simp [blkOf]⟩
    · obtain ⟨b, off, ha, hc⟩ : ∃ b off, a = ⟨b, off, none⟩ ∧ ∀ j u, xs[j]? = some u → w.cell? ⟨b, off + j, none⟩ = some u := by
        rcases hA with h | ⟨b, off, h, hc⟩
        · subst h; simp at hl; omega
        · exact ⟨b, off, Option.some.inj h, hc⟩
      subst ha
      obtain ⟨A', c', w', hr, ho, hg, hA'⟩ := run_append_own2 (P := Tryz.prog) (w.alloc (.cells #[] 24)) 49 49 24 Tryz.underlying49 infoId rfl (by decide) _ 0 0 [] hown ⟨b, off, none⟩ n c (by omega) xs hl
        (fun j u hu => by rw [Addr.add_lit]; exact cell_below ((Below.refl _ w).alloc (Nat.le_refl _) _) (hc j u hu)) h1 (by simp only [maxLen]; omega) (by omega)
      rw [Nat.zero_add, List.nil_append] at ho
      rw [Nat.zero_add] at hr
      have hb : Below w.heap.size w w' := ((Below.refl _ _).alloc (Nat.le_refl _) _).trans ⟨hg.os, hg.tape, hg.output, Nat.le_trans (by simp) hg.size, fun k hk => hg.block k (by simp; omega) (by simp [Value.ownBlock]; omega)⟩
      have hnew : ∀ b ∈ blkOf A', w.heap.size ≤ b := by
        rcases hA' with ⟨rfl, _⟩ | rfl
        · simp [blkOf]
        · simp [blkOf]
      have hr' : ∀ ty, (Builtin.append_ #[49, 49] ty #[.slice (some ⟨w.heap.size, 0, none⟩) 0 0, .slice (some ⟨b, off, none⟩) n c]).run Tryz.prog (w.alloc (.cells #[] 24)) = .ok (.slice A' n c') w' := fun _ => hr
      have HR := Lib.hid hr'
      have HO := Lib.hid (And.intro ho (And.intro hb hnew))
      clear hl hn h1 hr hown hr' ho hb hnew hA' hg hA hc
      go_enter Tryz.func67, Tryz.ntmps67
      go_wp2_with (at_builtin; refine Lib.wpList_append_run _ rfl _ _ _ _ rfl _ _ rfl rfl _ _ (HR.out _) ?_)
      go_ret
      exact ⟨A', c', rfl, HO.out.1, HO.out.2.1, HO.out.2.2⟩

set_option maxRecDepth 100000 in
set_option maxHeartbeats 2000000 in
theorem cloneOp_any (A : Option Addr) (n c : Nat) (xs : List Value) (w : World) (hl : xs.length = n * 13) (hA : SlAt w A xs) (hn : n ≤ 1000) (h1 : ∀ u ∈ xs, u.oneCell' = true) :
    Calls Tryz.prog 66 #[.slice A n c] w (NewRow 51 13 w n xs) := by
  have q22 : ∀ (w : World) (a : Option Addr) (n c n' c' : Nat), (binOp .eql 55 (.slice a n c) (.slice none n' c')).run Tryz.prog w = .ok (.bool a.isNone) w := fun w a n c n' c' => Lib.run_eql_slice_nil w _ _ a n c n' c' Tryz.underlying55
  cases A with
  | none =>
    have hx : xs = [] := by
      rcases hA with h | ⟨b, off, h, _⟩
      · exact h
      · cases h
    subst hx
    obtain rfl : n = 0 := by simp at hl; omega
    clear hA hl hn h1
    go_enter Tryz.func66, Tryz.ntmps66
    go_wp2_with fail
    go_ret
    exact ⟨none, 0, rfl, World.ownsRow_nil _ _ _ _, Below.refl _ _, by simp [blkOf]⟩
  | some a =>
    have hown : (w.alloc (.cells #[] 51)).ownsRow 0 51 13 (.slice (some ⟨w.heap.size, 0, none⟩) 0 0) 0 [] := World.ownsRow_made w #[] 0 (Nat.zero_le _) (Nat.zero_le _) (by simp)
    by_cases h0 : n = 0
    · subst h0
      have hx : xs = [] := List.eq_nil_of_length_eq_zero (by simpa using hl)
      subst hx
      have hr : ∀ ty, (Builtin.append_ #[55, 55] ty #[.slice (some ⟨w.heap.size, 0, none⟩) 0 0, .slice (some a) 0 c]).run Tryz.prog (w.alloc (.cells #[] 51)) = .ok (.slice (some ⟨w.heap.size, 0, none⟩) 0 0) (w.alloc (.cells #[] 51)) :=
        fun ty => run_append_none _ _ ty _ Tryz.underlying55 infoOp w.heap.size 0 0 #[] (heap_alloc_new w _) (Nat.le_refl _) (by simp) _ _
      have HR := Lib.hid hr
      have HO := Lib.hid hown
      clear hA hl hn h1 hr hown
      go_enter Tryz.func66, Tryz.ntmps66
      go_wp2_with (at_builtin; refine Lib.wpList_append_run _ rfl _ _ _ _ rfl _ _ rfl rfl _ _ (HR.out _) ?_)
      go_ret
      exact ⟨some ⟨w.heap.size, 0, none⟩, 0, rfl, HO.out, (Below.refl _ _).alloc (Nat.le_refl _) _, by simp [blkOf]⟩
    · obtain ⟨b, off, ha, hc⟩ : ∃ b off, a = ⟨b, off, none⟩ ∧ ∀ j u, xs[j]? = some u → w.cell? ⟨b, off + j, none⟩ = some u := by
        rcases hA with h | ⟨b, off, h, hc⟩
        · subst h; simp at hl; omega
        · exact ⟨b, off, Option.some.inj h, hc⟩
      subst ha
      obtain ⟨A', c', w', hr, ho, hg, hA'⟩ := run_append_own2 (P := Tryz.prog) (w.alloc (.cells #[] 51)) 55 55 51 Tryz.underlying55 infoOp rfl (by decide) _ 0 0 [] hown ⟨b, off, none⟩ n c (by omega) xs hl
        (fun j u hu => by rw [Addr.add_lit]; exact cell_below ((Below.refl _ w).alloc (Nat.le_refl _) _) (hc j u hu)) h1 (by simp only [maxLen]; omega) (by omega)
      rw [Nat.zero_add, List.nil_append] at ho
      rw [Nat.zero_add] at hr
      have hb : Below w.heap.size w w' := ((Below.refl _ _).alloc (Nat.le_refl _) _).trans ⟨hg.os, hg.tape, hg.output, Nat.le_trans (by simp) hg.size, fun k hk => hg.block k (by simp; omega) (by simp [Value.ownBlock]; omega)⟩
      have hnew : ∀ b ∈ blkOf A', w.heap.size ≤ b := by
        rcases hA' with ⟨rfl, _⟩ | rfl
        · simp [blkOf]
        · simp [blkOf]
      have hr' : ∀ ty, (Builtin.append_ #[55, 55] ty #[.slice (some ⟨w.heap.size, 0, none⟩) 0 0, .slice (some ⟨b, off, none⟩) n c]).run Tryz.prog (w.alloc (.cells #[] 51)) = .ok (.slice A' n c') w' := fun _ => hr
      have HR := Lib.hid hr'
      have HO := Lib.hid (And.intro ho (And.intro hb hnew))
      clear hl hn h1 hr hown hr' ho hb hnew hA' hg hA hc
      go_enter Tryz.func66, Tryz.ntmps66
      go_wp2_with (at_builtin; refine Lib.wpList_append_run _ rfl _ _ _ _ rfl _ _ rfl rfl _ _ (HR.out _) ?_)
      go_ret
      exact ⟨A', c', rfl, HO.out.1, HO.out.2.1, HO.out.2.2⟩
end Go.Proofs.YteknflimfdkhoaaGreat
namespace Go.Proofs.YteknflimfdkhoaaGreat
open Go.RowKit Go.Maps
set_option linter.unusedVariables false
set_option linter.unusedSimpArgs false

theorem laidOutD : laidOutB Tryz.prog = true := by kernel_rfl
theorem keyedRef : Keyed Tryz.prog 33 := Keyed.of_law (deep_law_laid laidOutD (m := 2) (by omega) (of_decide_eq_true (by kernel_rfl)) (by kernel_rfl) (by kernel_rfl))
theorem pairRef : PairK Tryz.prog 33 := pairK_mk Tryz.underlying33 rfl rfl rfl rfl rfl (by kernel_rfl) Tryz.underlying3 (by kernel_rfl) (by kernel_rfl) (by kernel_rfl) ⟨207 - 1, by kernel_rfl⟩ keyedRef
theorem keyedId : Keyed Tryz.prog 24 := Keyed.of_law (deep_law_laid laidOutD (m := 2) (by omega) (of_decide_eq_true (by kernel_rfl)) (by kernel_rfl) (by kernel_rfl))
theorem pairId : PairK Tryz.prog 24 := pairK_mk Tryz.underlying24 rfl rfl rfl rfl rfl (by kernel_rfl) Tryz.underlying3 (by kernel_rfl) (by kernel_rfl) (by kernel_rfl) ⟨207 - 1, by kernel_rfl⟩ keyedId
def zCh : Value := .agg #[.int .i64 0, .int .i64 0, .int .i64 0, .slice none 0 0, .slice none 0 0]
theorem zeroCh (w : World) : (zeroValue 65).run Tryz.prog w = .ok zCh w := by kernel_rfl
theorem zeroBool (w : World) : (zeroValue 4).run Tryz.prog w = .ok (.bool false) w := by kernel_rfl
theorem zeroMapB (w : World) : (zeroValue 92).run Tryz.prog w = .ok (.map none) w := by kernel_rfl

theorem wpList_push2 {P : Program} (w0 : World) (g : Nat) (hg : g = w0.heap.size) {ops : Array Oper} {rest : List Oper} {o : Oper} {a : Act} {Q : Exit → Act → World → Prop} (hgd : o.guard = none) (s x : Operand) (t : TypeId)
    (ho : o.op = .call { callee := .builtin .append, args := #[s, x], argTypes := #[t, t] })
    (base : Nat) (e : TypeId) {z : Value} {size bytes : Nat} (ht : P.underlying t = some (.slice e)) (hinfo : (P.info? e).map (fun i => (i.zero, i.size, i.bytes)) = some (some z, size, bytes))
    (hzs : z.cells.size = size) (hsz : 0 < size) (hby : bytes ≤ 128)
    (v : Value) (n : Nat) (xs : List Value) (hs : a.eval s = v) (hown : w0.ownsRow base e size v n xs)
    (cs : Array Value) (hx : a.eval x = .slice (some ⟨g, 0, none⟩) 1 1) (hl : cs.size = size) (h1 : ∀ u ∈ cs.toList, u.oneCell' = true)
    (hn : n ≤ 1000000000000) (hbase : base ≤ w0.heap.size)
    (h : ∀ A c w', w'.ownsRow base e size (.slice A (n + 1) c) (n + 1) (xs ++ cs.toList) → w0.grownBy w' v.ownBlock → wpList P ops Q rest (a.put o.dst (.slice A (n + 1) c)) w') :
    wpList P ops Q (o :: rest) a (w0.alloc (.cells cs e)) := by
  subst hg
  exact wpList_push w0 hgd s x t ho base e ht hinfo hzs hsz hby v n xs hs hown cs hx hl h1 hn hbase h

/-- These are a map's keys. -/
structure KeysAre (D : DataW Value) (l : List (Int × Int)) : Prop where
  nodup : l.Nodup
  i2 : ∀ r ∈ l, I2 r
  mem : ∀ r, I2 r → (r ∈ l ↔ (mget D r).isSome = true)
theorem sortR_perm (l : List (Int × Int)) : (sortR l).Perm l := by unfold sortR; exact List.mergeSort_perm l _
theorem sortR_mem (l : List (Int × Int)) (r : Int × Int) : r ∈ sortR l ↔ r ∈ l := (sortR_perm l).mem_iff

/-- What rising gives. -/
def RisingQ (w : World) (D : DataW Value) (e : Ending) (w' : World) : Prop :=
  ∃ l A c, KeysAre D l ∧ l.length ≤ Maps.size D ∧ e = .returned (.slice A l.length c) ∧ w'.ownsRow w.heap.size 33 2 (.slice A l.length c) l.length (refs (sortR l)) ∧ Below w.heap.size w w'
def RisL (w : World) (m n : Nat) (D : DataW Value) (lv : Value) (W : World) : Prop :=
  ∃ (left : Lit → Bool) (cnt : Nat) (l : List (Int × Int)) (A : Option Addr) (c : Nat), lv = .slice A l.length c ∧ W.ranges Tryz.prog 33 anyElem m w.heap.size n D left cnt ∧ W.ownsRow w.heap.size 33 2 (.slice A l.length c) l.length (refs l) ∧
    l.Nodup ∧ (∀ r ∈ l, I2 r) ∧ (∀ r, I2 r → (r ∈ l ↔ ((mget D r).isSome = true ∧ left (rlit r) = false))) ∧ l.length + cnt ≤ Maps.size D ∧ Below w.heap.size w W

theorem RisX.step {w wr w2 w3 : World} {m n cnt cnt2 : Nat} {D : DataW Value} {left : Lit → Bool} {l : List (Int × Int)} {A A' : Option Addr} {c c' : Nat} {x1 x2 : Int} {v : Value}
    (h : I2 (x1, x2) ∧ left (rlit (x1, x2)) = true ∧ mget D (x1, x2) = some v ∧ w2.ranges Tryz.prog 33 anyElem m w.heap.size n D (fun z => left z && !z.sameKey (rlit (x1, x2))) cnt2 ∧ cnt2 < cnt ∧ Below w.heap.size w w2 ∧
      (∀ (k : Nat), (Value.slice A l.length c).ownBlock = some k → k ≠ w.heap.size ∧ k ≠ m ∧ w.heap.size ≤ k) ∧ wr.rangeLeft m w.heap.size = cnt)
    (hnd : l.Nodup) (hi2 : ∀ r ∈ l, I2 r) (hmem : ∀ r, I2 r → (r ∈ l ↔ ((mget D r).isSome = true ∧ left (rlit r) = false))) (hlen : l.length + cnt ≤ Maps.size D)
    (hown' : w3.ownsRow w.heap.size 33 2 (.slice A' (l.length + 1) c') (l.length + 1) (refs l ++ [.int .i64 x1, .int .i64 x2]))
    (hg3 : (w2.alloc (.cells #[.int .i64 x1, .int .i64 x2] 33)).grownBy w3 (Value.slice A l.length c).ownBlock) : RisL w m n D (.slice A' (l ++ [(x1, x2)]).length c') w3 := by
  obtain ⟨hx, hl2, hat, hrg2, hlt2, hb2, hneg, _⟩ := h
  have hxn : (x1, x2) ∉ l := fun e => by have := ((hmem _ hx).1 e).2; rw [hl2] at this; cases this
  refine ⟨_, cnt2, l ++ [(x1, x2)], A', c', by simp, (hrg2.alloc _).kept hg3 (fun e => (hneg m e.symm).2.1 rfl) (fun e => (hneg _ e.symm).1 rfl), ?_, ?_, ?_, ?_, ?_, ?_⟩
  · rw [List.length_append, List.length_singleton, refs_append]
    exact hown'
  · rw [List.nodup_append]
    refine ⟨hnd, by simp, ?_⟩
    intro a ha b hb e
    simp at hb
    exact hxn (by rw [← hb, ← e]; exact ha)
  · intro r hr
    rcases List.mem_append.1 hr with hr | hr
    · exact hi2 r hr
    · simp at hr
      rw [hr]; exact hx
  · intro r hr
    have hs := left_struck pairRef (left := left) hx hr
    show _ ↔ _ ∧ (left (rlit r) && !(rlit r).sameKey (rlit (x1, x2))) = false
    rw [hs, List.mem_append, hmem r hr]
    by_cases e : r = (x1, x2)
    · subst e
      simp [hat]
    · simp [e]
  · simp; omega
  · refine (hb2.alloc hb2.size _).trans ⟨hg3.os, hg3.tape, hg3.output, ?_, fun k hk => hg3.block k ?_ ?_⟩
    · have h1 := hg3.size; have h2 := hb2.size; simp at h1 ⊢; omega
    · have h2 := hb2.size; simp; omega
    · intro e
      have := (hneg k e.symm).2.2
      omega

set_option maxRecDepth 100000 in
set_option maxHeartbeats 1000000 in
theorem rising_any (m n : Nat) (D : DataW Value) (w : World) (ho : w.ownsMap Tryz.prog 33 anyElem m n D) (hsz : Maps.size D ≤ 1000) :
    Calls Tryz.prog 37 #[.map (some m)] w (RisingQ w D) := by
  have hhas := fun (r : Int × Int) (hr : I2 r) => own_has pairRef ho ⟨_, _, _, Tryz.underlying93, zeroCh w⟩ hr
  have HH := Lib.hid (And.intro hhas (And.intro hsz ho.lt))
  clear hhas hsz
  go_enter Tryz.func37, Tryz.ntmps37
  go_wp2_with (first | (at_range; refine wpList_range_own _ rfl _ 93 rfl 33 65 keyedRef Tryz.underlying93 _ m _ _ rfl ho ?_; intro w1 hrg1 hg1 hs1) | fail)
  go_frame
  have hst : RisL w m n D (.slice none 0 0) w1 := by
    refine ⟨_, _, [], none, 0, rfl, hrg1, World.ownsRow_nil _ _ _ _, List.nodup_nil, by simp, ?_, by simp, ⟨hg1.os, hg1.tape, hg1.output, by omega, fun k hk => hg1.block k hk (by simp)⟩⟩
    intro r hr
    rw [HH.out.1 r hr]
    cases mget D r <;> simp
  have HS := Lib.hid hst
  clear hst hrg1 hg1 hs1 ho
  go_loopw [3, 4] (fun lv _ wr => RisL w m n D lv wr) (fun _ _ wr => wr.rangeLeft m w.heap.size)
  case atStart => exact HS.out
  case round =>
    obtain ⟨left, cnt, l, A, c, rfl, hrg, hown, hnd, hi2, hmem, hlen, hb⟩ := hrel
    have HR := Lib.hid (And.intro hrg (And.intro hown (And.intro hnd (And.intro hi2 (And.intro hmem (And.intro hlen hb))))))
    clear hown hnd hi2 hmem hlen hb
    go_wp2_with (first | (at_next; refine wpList_next_pair _ rfl _ rfl 33 pairRef m w.heap.size _ D _ _ rfl hrg ?_ ?_) | fail)
    · intro hc0 hl0
      have hK : KeysAre D l := ⟨HR.out.2.2.1, HR.out.2.2.2.1, fun r hr => by rw [HR.out.2.2.2.2.1 r hr, hl0]; simp⟩
      have hll : l.length ≤ Maps.size D := by have := HR.out.2.2.2.2.2.1; omega
      have HK := Lib.hid (And.intro hK hll)
      clear hK hc0 hl0 hrg
      by_cases h0 : l = []
      · subst h0
        go_wp2_with (go_at_call 63; refine (sortNone_any _ _ _ _).mono ?_; rintro e w2 ⟨rfl, hw2⟩; rw [hw2])
        go_ret
        exact ⟨[], A, c, HK.out.1, HK.out.2, rfl, by simpa [sortR] using HR.out.2.1, HR.out.2.2.2.2.2.2⟩
      · obtain ⟨g, rfl⟩ : ∃ g, A = some ⟨g, 0, none⟩ := by
          rcases HR.out.2.1.2 with ⟨_, hn0⟩ | ⟨g, cap, cur, hv, _⟩
          · exact absurd (List.eq_nil_of_length_eq_zero hn0) h0
          · injection hv with hv; exact ⟨g, hv⟩
        have hgl := (HR.out.2.1.lt g rfl).1
        have HSR := Lib.hid (sortRefs_any w.heap.size g c l wr HR.out.2.1 (by have := HK.out.2; have := HH.out.2.1; omega))
        go_wp2_with (go_at_call 63; refine HSR.out.mono ?_; rintro e w2 ⟨rfl, ho2, hon2⟩)
        go_ret
        exact ⟨l, _, c, HK.out.1, HK.out.2, rfl, ho2, HR.out.2.2.2.2.2.2.trans (hon2.below HR.out.2.2.2.2.2.2.size (fun k hk e => by have : k = g := e; omega))⟩
    · intro x1 x2 v w2 cnt2 hx hl2 hat hrg2 hlt2 ho2 hs2 hen2
      have hlt := hrg.lt
      have hneg : ∀ k, Value.ownBlock (.slice A l.length c) = some k → k ≠ w.heap.size ∧ k ≠ m ∧ w.heap.size ≤ k := by
        intro k hk
        have h1 := row_ne_iter HR.out.2.1 hrg
        have h2 := (HR.out.2.1.lt k hk).1
        have h3 := HH.out.2.2
        exact ⟨fun e => h1 (by rw [hk, e]), by omega, h2⟩
      have hown2 : w2.ownsRow w.heap.size 33 2 (.slice A l.length c) l.length (refs l) := by
        refine ⟨HR.out.2.1.1, ?_⟩
        rcases HR.out.2.1.2 with h | ⟨g, cap, cur, hv, a1, a2, a3⟩
        · exact .inl h
        · refine .inr ⟨g, cap, cur, hv, a1, ?_, a3⟩
          rw [ho2.block g (Array.getElem?_eq_some_iff.1 a2).1 (by have := hneg g (by rw [hv]; rfl); exact this.1)]
          exact a2
      have hb2 : Below w.heap.size w w2 := HR.out.2.2.2.2.2.2.trans (ho2.below HR.out.2.2.2.2.2.2.size (fun k hk e => by have : k = w.heap.size := e; omega))
      have hll : l.length ≤ 1000 := by have := HR.out.2.2.2.2.2.1; have := HH.out.2.1; omega
      have HX := Lib.hid (And.intro hx (And.intro hl2 (And.intro hat (And.intro hrg2 (And.intro hlt2 (And.intro hb2 (And.intro hneg hrg.left_eq)))))))
      have hbase := hb2.size
      have hown3 : (w2.alloc (.cells #[.int .i64 x1, .int .i64 x2] 33)).ownsRow w.heap.size 33 2 (.slice A l.length c) l.length (refs l) := hown2.alloc _
      have hbase3 : w.heap.size ≤ (w2.alloc (.cells #[.int .i64 x1, .int .i64 x2] 33)).heap.size := by simp; omega
      clear hl2 hat hrg2 hlt2 ho2 hb2 hneg hown2 hrg hs2
      go_wp2_with (first
        | (at_builtin; refine wpList_push2 _ (w2.heap.size + 1) (by simp) rfl (.tmp 11) (.tmp 13) _ rfl w.heap.size 33 Tryz.underlying53 infoRef rfl (by decide) (by decide) _ _ _ rfl hown3 _ rfl rfl ?_ (by omega) hbase3 ?_)
        | fail)
      · exact ⟨rfl, rfl⟩
      · intro A' c' w3 hown' hg3
        have hst : RisL w m n D (.slice A' (l ++ [(x1, x2)]).length c') w3 := RisX.step HX.out HR.out.2.2.1 HR.out.2.2.2.1 HR.out.2.2.2.2.1 HR.out.2.2.2.2.2.1 hown' hg3
        rw [List.length_append, List.length_singleton] at hst
        have hle : w3.rangeLeft m w.heap.size < wr.rangeLeft m w.heap.size := by
          rw [HX.out.2.2.2.2.2.2.2, ((HX.out.2.2.2.1.alloc _).kept hg3 (fun e => (HX.out.2.2.2.2.2.2.1 m e.symm).2.1 rfl) (fun e => (HX.out.2.2.2.2.2.2.1 _ e.symm).1 rfl)).left_eq]
          exact HX.out.2.2.2.2.1
        have HS2 := Lib.hid (And.intro hst hle)
        clear hst hle hown' hg3
        go_wp2_with fail
        go_roundw
        case rel => exact HS2.out.1
        case measure => exact HS2.out.2
end Go.Proofs.YteknflimfdkhoaaGreat
