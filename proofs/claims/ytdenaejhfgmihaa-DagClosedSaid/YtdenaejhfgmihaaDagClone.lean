/- slices.Clone at refs, at ids, at ops: a new row with what the slice read as. -/
import Derived.Test.YtdenaejhfgmihaaAppend
import Derived.Test.YtdenaejhfgmihaaProg
import Derived.Outline
import Derived.Lib.SliceRun
import Derived.Lib.Hide
namespace Go.Proofs.Ytdenaejhfgmihaa
open Go.RowKit
set_option linter.unusedVariables false
set_option linter.unusedSimpArgs false

def blkOf (A : Option Addr) : List Nat := match A with | none => [] | some a => [a.block]
def zTwo : Value := .agg #[.int .i64 0, .int .i64 0]
def zOp : Value := .agg #[.int .i64 0, .int .i64 0, .int .i64 0, .string ⟨#[]⟩, .int .i64 0, .int .i64 0, .bool false, .int .i64 0, .int .i64 0, .string ⟨#[]⟩, .int .i64 0, .int .i64 0, .slice none 0 0]
theorem infoRef : (Try.prog.info? 34).map (fun i => (i.zero, i.size, i.bytes)) = some (some zTwo, 2, 16) := by kernel_rfl
theorem infoId : (Try.prog.info? 59).map (fun i => (i.zero, i.size, i.bytes)) = some (some zTwo, 2, 16) := by kernel_rfl
theorem infoOp : (Try.prog.info? 64).map (fun i => (i.zero, i.size, i.bytes)) = some (some zOp, 13, 136) := by kernel_rfl

/-- A row of one's own, new since w. -/
def NewRow (E : TypeId) (sz : Nat) (w : World) (n : Nat) (xs : List Value) (e : Ending) (w' : World) : Prop :=
  ∃ A c, e = .returned (.slice A n c) ∧ w'.ownsRow 0 E sz (.slice A n c) n xs ∧ Below w.heap.size w w' ∧ ∀ b ∈ blkOf A, w.heap.size ≤ b

set_option maxRecDepth 100000 in
set_option maxHeartbeats 2000000 in
theorem cloneRef_any (A : Option Addr) (n c : Nat) (xs : List Value) (w : World) (hl : xs.length = n * 2) (hA : SlAt w A xs) (hn : n ≤ 1000) (h1 : ∀ u ∈ xs, u.oneCell' = true) :
    Calls Try.prog 35 #[.slice A n c] w (NewRow 34 2 w n xs) := by
  have q22 : ∀ (w : World) (a : Option Addr) (n c n' c' : Nat), (binOp .eql 28 (.slice a n c) (.slice none n' c')).run Try.prog w = .ok (.bool a.isNone) w := fun w a n c n' c' => Lib.run_eql_slice_nil w _ _ a n c n' c' Try.underlying28
  cases A with
  | none =>
    have hx : xs = [] := by
      rcases hA with h | ⟨b, off, h, _⟩
      · exact h
      · cases h
    subst hx
    obtain rfl : n = 0 := by simp at hl; omega
    clear hA hl hn h1
    go_enter Try.func35, Try.ntmps35
    go_wp2_with fail
    go_ret
    exact ⟨none, 0, rfl, World.ownsRow_nil _ _ _ _, Below.refl _ _, by simp [blkOf]⟩
  | some a =>
    have hown : (w.alloc (.cells #[] 34)).ownsRow 0 34 2 (.slice (some ⟨w.heap.size, 0, none⟩) 0 0) 0 [] := World.ownsRow_made w #[] 0 (Nat.zero_le _) (Nat.zero_le _) (by simp)
    by_cases h0 : n = 0
    · subst h0
      have hx : xs = [] := List.eq_nil_of_length_eq_zero (by simpa using hl)
      subst hx
      have hr : ∀ ty, (Builtin.append_ #[28, 28] ty #[.slice (some ⟨w.heap.size, 0, none⟩) 0 0, .slice (some a) 0 c]).run Try.prog (w.alloc (.cells #[] 34)) = .ok (.slice (some ⟨w.heap.size, 0, none⟩) 0 0) (w.alloc (.cells #[] 34)) :=
        fun ty => run_append_none _ _ ty _ Try.underlying28 infoRef w.heap.size 0 0 #[] (heap_alloc_new w _) (Nat.le_refl _) (by simp) _ _
      have HR := Lib.hid hr
      have HO := Lib.hid hown
      clear hA hl hn h1 hr hown
      go_enter Try.func35, Try.ntmps35
      go_wp2_with (at_builtin; refine Lib.wpList_append_run _ rfl _ _ _ _ rfl _ _ rfl rfl _ _ (HR.out _) ?_)
      go_ret
      exact ⟨some ⟨w.heap.size, 0, none⟩, 0, rfl, HO.out, (Below.refl _ _).alloc (Nat.le_refl _) _, by simp [blkOf]⟩
    · obtain ⟨b, off, ha, hc⟩ : ∃ b off, a = ⟨b, off, none⟩ ∧ ∀ j u, xs[j]? = some u → w.cell? ⟨b, off + j, none⟩ = some u := by
        rcases hA with h | ⟨b, off, h, hc⟩
        · subst h; simp at hl; omega
        · exact ⟨b, off, Option.some.inj h, hc⟩
      subst ha
      obtain ⟨A', c', w', hr, ho, hg, hA'⟩ := run_append_own2 (P := Try.prog) (w.alloc (.cells #[] 34)) 28 28 34 Try.underlying28 infoRef rfl (by decide) _ 0 0 [] hown ⟨b, off, none⟩ n c (by omega) xs hl
        (fun j u hu => by rw [Addr.add_lit]; exact cell_below ((Below.refl _ w).alloc (Nat.le_refl _) _) (hc j u hu)) h1 (by simp only [maxLen]; omega) (by omega)
      rw [Nat.zero_add, List.nil_append] at ho
      rw [Nat.zero_add] at hr
      have hb : Below w.heap.size w w' := ((Below.refl _ _).alloc (Nat.le_refl _) _).trans ⟨hg.os, hg.tape, hg.output, Nat.le_trans (by simp) hg.size, fun k hk => hg.block k (by simp; omega) (by simp [Value.ownBlock]; omega)⟩
      have hnew : ∀ b ∈ blkOf A', w.heap.size ≤ b := by
        rcases hA' with ⟨rfl, _⟩ | rfl
        · simp [blkOf]
        · simp [blkOf]
      have hr' : ∀ ty, (Builtin.append_ #[28, 28] ty #[.slice (some ⟨w.heap.size, 0, none⟩) 0 0, .slice (some ⟨b, off, none⟩) n c]).run Try.prog (w.alloc (.cells #[] 34)) = .ok (.slice A' n c') w' := fun _ => hr
      have HR := Lib.hid hr'
      have HO := Lib.hid (And.intro ho (And.intro hb hnew))
      clear hl hn h1 hr hown hr' ho hb hnew hA' hg hA hc
      go_enter Try.func35, Try.ntmps35
      go_wp2_with (at_builtin; refine Lib.wpList_append_run _ rfl _ _ _ _ rfl _ _ rfl rfl _ _ (HR.out _) ?_)
      go_ret
      exact ⟨A', c', rfl, HO.out.1, HO.out.2.1, HO.out.2.2⟩

set_option maxRecDepth 100000 in
set_option maxHeartbeats 2000000 in
theorem cloneId_any (A : Option Addr) (n c : Nat) (xs : List Value) (w : World) (hl : xs.length = n * 2) (hA : SlAt w A xs) (hn : n ≤ 1000) (h1 : ∀ u ∈ xs, u.oneCell' = true) :
    Calls Try.prog 37 #[.slice A n c] w (NewRow 59 2 w n xs) := by
  have q22 : ∀ (w : World) (a : Option Addr) (n c n' c' : Nat), (binOp .eql 62 (.slice a n c) (.slice none n' c')).run Try.prog w = .ok (.bool a.isNone) w := fun w a n c n' c' => Lib.run_eql_slice_nil w _ _ a n c n' c' Try.underlying62
  cases A with
  | none =>
    have hx : xs = [] := by
      rcases hA with h | ⟨b, off, h, _⟩
      · exact h
      · cases h
    subst hx
    obtain rfl : n = 0 := by simp at hl; omega
    clear hA hl hn h1
    go_enter Try.func37, Try.ntmps37
    go_wp2_with fail
    go_ret
    exact ⟨none, 0, rfl, World.ownsRow_nil _ _ _ _, Below.refl _ _, by simp [blkOf]⟩
  | some a =>
    have hown : (w.alloc (.cells #[] 59)).ownsRow 0 59 2 (.slice (some ⟨w.heap.size, 0, none⟩) 0 0) 0 [] := World.ownsRow_made w #[] 0 (Nat.zero_le _) (Nat.zero_le _) (by simp)
    by_cases h0 : n = 0
    · subst h0
      have hx : xs = [] := List.eq_nil_of_length_eq_zero (by simpa using hl)
      subst hx
      have hr : ∀ ty, (Builtin.append_ #[62, 62] ty #[.slice (some ⟨w.heap.size, 0, none⟩) 0 0, .slice (some a) 0 c]).run Try.prog (w.alloc (.cells #[] 59)) = .ok (.slice (some ⟨w.heap.size, 0, none⟩) 0 0) (w.alloc (.cells #[] 59)) :=
        fun ty => run_append_none _ _ ty _ Try.underlying62 infoId w.heap.size 0 0 #[] (heap_alloc_new w _) (Nat.le_refl _) (by simp) _ _
      have HR := Lib.hid hr
      have HO := Lib.hid hown
      clear hA hl hn h1 hr hown
      go_enter Try.func37, Try.ntmps37
      go_wp2_with (at_builtin; refine Lib.wpList_append_run _ rfl _ _ _ _ rfl _ _ rfl rfl _ _ (HR.out _) ?_)
      go_ret
      exact ⟨some ⟨w.heap.size, 0, none⟩, 0, rfl, HO.out, (Below.refl _ _).alloc (Nat.le_refl _) _, by simp [blkOf]⟩
    · obtain ⟨b, off, ha, hc⟩ : ∃ b off, a = ⟨b, off, none⟩ ∧ ∀ j u, xs[j]? = some u → w.cell? ⟨b, off + j, none⟩ = some u := by
        rcases hA with h | ⟨b, off, h, hc⟩
        · subst h; simp at hl; omega
        · exact ⟨b, off, Option.some.inj h, hc⟩
      subst ha
      obtain ⟨A', c', w', hr, ho, hg, hA'⟩ := run_append_own2 (P := Try.prog) (w.alloc (.cells #[] 59)) 62 62 59 Try.underlying62 infoId rfl (by decide) _ 0 0 [] hown ⟨b, off, none⟩ n c (by omega) xs hl
        (fun j u hu => by rw [Addr.add_lit]; exact cell_below ((Below.refl _ w).alloc (Nat.le_refl _) _) (hc j u hu)) h1 (by simp only [maxLen]; omega) (by omega)
      rw [Nat.zero_add, List.nil_append] at ho
      rw [Nat.zero_add] at hr
      have hb : Below w.heap.size w w' := ((Below.refl _ _).alloc (Nat.le_refl _) _).trans ⟨hg.os, hg.tape, hg.output, Nat.le_trans (by simp) hg.size, fun k hk => hg.block k (by simp; omega) (by simp [Value.ownBlock]; omega)⟩
      have hnew : ∀ b ∈ blkOf A', w.heap.size ≤ b := by
        rcases hA' with ⟨rfl, _⟩ | rfl
        · simp [blkOf]
        · simp [blkOf]
      have hr' : ∀ ty, (Builtin.append_ #[62, 62] ty #[.slice (some ⟨w.heap.size, 0, none⟩) 0 0, .slice (some ⟨b, off, none⟩) n c]).run Try.prog (w.alloc (.cells #[] 59)) = .ok (.slice A' n c') w' := fun _ => hr
      have HR := Lib.hid hr'
      have HO := Lib.hid (And.intro ho (And.intro hb hnew))
      clear hl hn h1 hr hown hr' ho hb hnew hA' hg hA hc
      go_enter Try.func37, Try.ntmps37
      go_wp2_with (at_builtin; refine Lib.wpList_append_run _ rfl _ _ _ _ rfl _ _ rfl rfl _ _ (HR.out _) ?_)
      go_ret
      exact ⟨A', c', rfl, HO.out.1, HO.out.2.1, HO.out.2.2⟩

set_option maxRecDepth 100000 in
set_option maxHeartbeats 2000000 in
theorem cloneOp_any (A : Option Addr) (n c : Nat) (xs : List Value) (w : World) (hl : xs.length = n * 13) (hA : SlAt w A xs) (hn : n ≤ 1000) (h1 : ∀ u ∈ xs, u.oneCell' = true) :
    Calls Try.prog 36 #[.slice A n c] w (NewRow 64 13 w n xs) := by
  have q22 : ∀ (w : World) (a : Option Addr) (n c n' c' : Nat), (binOp .eql 29 (.slice a n c) (.slice none n' c')).run Try.prog w = .ok (.bool a.isNone) w := fun w a n c n' c' => Lib.run_eql_slice_nil w _ _ a n c n' c' Try.underlying29
  cases A with
  | none =>
    have hx : xs = [] := by
      rcases hA with h | ⟨b, off, h, _⟩
      · exact h
      · cases h
    subst hx
    obtain rfl : n = 0 := by simp at hl; omega
    clear hA hl hn h1
    go_enter Try.func36, Try.ntmps36
    go_wp2_with fail
    go_ret
    exact ⟨none, 0, rfl, World.ownsRow_nil _ _ _ _, Below.refl _ _, by simp [blkOf]⟩
  | some a =>
    have hown : (w.alloc (.cells #[] 64)).ownsRow 0 64 13 (.slice (some ⟨w.heap.size, 0, none⟩) 0 0) 0 [] := World.ownsRow_made w #[] 0 (Nat.zero_le _) (Nat.zero_le _) (by simp)
    by_cases h0 : n = 0
    · subst h0
      have hx : xs = [] := List.eq_nil_of_length_eq_zero (by simpa using hl)
      subst hx
      have hr : ∀ ty, (Builtin.append_ #[29, 29] ty #[.slice (some ⟨w.heap.size, 0, none⟩) 0 0, .slice (some a) 0 c]).run Try.prog (w.alloc (.cells #[] 64)) = .ok (.slice (some ⟨w.heap.size, 0, none⟩) 0 0) (w.alloc (.cells #[] 64)) :=
        fun ty => run_append_none _ _ ty _ Try.underlying29 infoOp w.heap.size 0 0 #[] (heap_alloc_new w _) (Nat.le_refl _) (by simp) _ _
      have HR := Lib.hid hr
      have HO := Lib.hid hown
      clear hA hl hn h1 hr hown
      go_enter Try.func36, Try.ntmps36
      go_wp2_with (at_builtin; refine Lib.wpList_append_run _ rfl _ _ _ _ rfl _ _ rfl rfl _ _ (HR.out _) ?_)
      go_ret
      exact ⟨some ⟨w.heap.size, 0, none⟩, 0, rfl, HO.out, (Below.refl _ _).alloc (Nat.le_refl _) _, by simp [blkOf]⟩
    · obtain ⟨b, off, ha, hc⟩ : ∃ b off, a = ⟨b, off, none⟩ ∧ ∀ j u, xs[j]? = some u → w.cell? ⟨b, off + j, none⟩ = some u := by
        rcases hA with h | ⟨b, off, h, hc⟩
        · subst h; simp at hl; omega
        · exact ⟨b, off, Option.some.inj h, hc⟩
      subst ha
      obtain ⟨A', c', w', hr, ho, hg, hA'⟩ := run_append_own2 (P := Try.prog) (w.alloc (.cells #[] 64)) 29 29 64 Try.underlying29 infoOp rfl (by decide) _ 0 0 [] hown ⟨b, off, none⟩ n c (by omega) xs hl
        (fun j u hu => by rw [Addr.add_lit]; exact cell_below ((Below.refl _ w).alloc (Nat.le_refl _) _) (hc j u hu)) h1 (by simp only [maxLen]; omega) (by omega)
      rw [Nat.zero_add, List.nil_append] at ho
      rw [Nat.zero_add] at hr
      have hb : Below w.heap.size w w' := ((Below.refl _ _).alloc (Nat.le_refl _) _).trans ⟨hg.os, hg.tape, hg.output, Nat.le_trans (by simp) hg.size, fun k hk => hg.block k (by simp; omega) (by simp [Value.ownBlock]; omega)⟩
      have hnew : ∀ b ∈ blkOf A', w.heap.size ≤ b := by
        rcases hA' with ⟨rfl, _⟩ | rfl
        · simp [blkOf]
        · simp [blkOf]
      have hr' : ∀ ty, (Builtin.append_ #[29, 29] ty #[.slice (some ⟨w.heap.size, 0, none⟩) 0 0, .slice (some ⟨b, off, none⟩) n c]).run Try.prog (w.alloc (.cells #[] 64)) = .ok (.slice A' n c') w' := fun _ => hr
      have HR := Lib.hid hr'
      have HO := Lib.hid (And.intro ho (And.intro hb hnew))
      clear hl hn h1 hr hown hr' ho hb hnew hA' hg hA hc
      go_enter Try.func36, Try.ntmps36
      go_wp2_with (at_builtin; refine Lib.wpList_append_run _ rfl _ _ _ _ rfl _ _ rfl rfl _ _ (HR.out _) ?_)
      go_ret
      exact ⟨A', c', rfl, HO.out.1, HO.out.2.1, HO.out.2.2⟩
end Go.Proofs.Ytdenaejhfgmihaa
