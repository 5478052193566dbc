/- strings.Builder, made by the call itself: WriteByte, Write, WriteString, String: contracts, with a frame of one's own choice. -/
import Derived.Test.YtfnigdbnkdofiaaDoorPushN
import Derived.Test.YtfnigdbnkdofiaaDoorAppend
import Derived.Test.YtfnigdbnkdofiaaDoorBlk
import Derived.Test.YtfnigdbnkdofiaaDoorShelfB
import Derived.WalkKit
import Derived.BigCall
namespace Go.Proofs.YtfnigdbnkdofiaaDoor
open Go.RowKit
set_option linter.unusedVariables false
set_option linter.unusedSimpArgs false

theorem sizeBu : (Tryd.prog.info? 63).map (·.size) = some 2 := by kernel_rfl
theorem liesBu : liesAt Tryd.prog Tryd.prog.depth 63 (2 / Tryd.prog.cellsOf 63) 0 63 1 = true := by kernel_rfl

/-- A builder in a block of the call's own, b, holding these bytes; S: what may turn. -/
def Bu (S : Nat → Prop) (b : Nat) (bs : List UInt8) (w : World) : Prop :=
  S b ∧ ∃ p A c, (p = Value.pointer none ∨ p = .pointer (some ⟨b, 0, none⟩)) ∧ Blk w b 63 #[p, .slice A bs.length c] ∧ w.ownsRow 0 5 1 (.slice A bs.length c) bs.length (Lib.byteCells bs) ∧ ∀ a, A = some a → S a.block ∧ a.block ≠ b
theorem Bu.fresh {S : Nat → Prop} (w : World) (h : S w.heap.size) : Bu S w.heap.size [] (w.alloc (.cells #[.pointer none, .slice none 0 0] 63)) :=
  ⟨h, .pointer none, none, 0, .inl rfl, Blk.new _ _ _, World.ownsRow_nil _ _ _ _, by intro a h; cases h⟩
theorem Bu.lt {S : Nat → Prop} {b : Nat} {bs : List UInt8} {w : World} (h : Bu S b bs w) : b < w.heap.size := by
  obtain ⟨_, _, _, _, _, hb, _⟩ := h
  exact hb.lt
theorem Bu.mono {S T : Nat → Prop} {b : Nat} {bs : List UInt8} {w : World} (h : Bu S b bs w) (hs : ∀ k, k < w.heap.size → S k → T k) : Bu T b bs w := by
  have hlt := h.lt
  obtain ⟨h0, p, A, c, h1, h2, h3, h4⟩ := h
  refine ⟨hs b hlt h0, p, A, c, h1, h2, h3, ?_⟩
  intro a ha
  refine ⟨hs _ ?_ (h4 a ha).1, (h4 a ha).2⟩
  exact (h3.lt a.block (by rw [ha]; rfl)).2
theorem Bu.below {S : Nat → Prop} {b : Nat} {bs : List UInt8} {w w' : World} (h : Bu S b bs w) (hb : Below w.heap.size w w') : Bu S b bs w' := by
  obtain ⟨h0, p, A, c, h1, h2, h3, h4⟩ := h
  exact ⟨h0, p, A, c, h1, h2.below hb h2.lt, owns_below h3 hb, h4⟩
theorem Bu.isB {S : Nat → Prop} {b B : Nat} {bs : List UInt8} {w : World} (h : Bu S b bs w) (hS : ∀ k, S k → B ≤ k) : Lib.IsBuilderF 63 5 B b (Lib.byteCells bs) w := by
  obtain ⟨h0, p, A, c, h1, h2, h3, h4⟩ := h
  refine Lib.IsBuilderF.of ?_
  have : Lib.BuilderAt 63 5 B b p (Lib.byteCells bs) w := by
    refine ⟨hS b h0, _, h2, ?_, ?_⟩
    · rw [Lib.byteCells_length]
      refine ⟨h3.1, h3.2.imp id ?_⟩
      rintro ⟨g, cap, cur, e1, e2, e3⟩
      refine ⟨g, cap, cur, e1, ?_, e3⟩
      injection e1 with hA _ _
      exact hS _ (h4 _ hA).1
    · cases A with
      | none => simp [Value.ownBlock]
      | some a => simpa [Value.ownBlock] using (h4 a rfl).2
  rcases h1 with rfl | rfl
  · exact .inl this
  · exact .inr this

set_option maxRecDepth 100000 in
set_option maxHeartbeats 1000000 in
theorem copy_check (b : Nat) (p x : Value) (w : World) (hp : p = .pointer none ∨ p = .pointer (some ⟨b, 0, none⟩)) (hb : Blk w b 63 #[p, x]) :
    Calls Tryd.prog 69 #[.pointer (some ⟨b, 0, none⟩)] w fun e w' => e = .returned (.tuple #[]) ∧ Blk w' b 63 #[.pointer (some ⟨b, 0, none⟩), x] ∧ Only (fun k => k = b) w w' := by
  obtain ⟨j, hj, hjs⟩ := Option.map_eq_some_iff.1 sizeBu
  have h0 : w.cell? ⟨b, 0, none⟩ = some p := hb.cell 0
  rcases hp with rfl | rfl
  · have hsh : w.shape? b = some (63, 2) := by
      have := hb
      unfold Blk at this
      simp [World.shape?, this]
    have hfz := hb.frozen 0
    have hn := hb.set_ 0 (.pointer (some ⟨b, 0, none⟩))
    have ho := (Only.refl (fun k => k = b) w).setCell (p := ⟨b, 0, none⟩) rfl (.pointer (some ⟨b, 0, none⟩))
    have HN := Lib.hid (And.intro hn ho); clear hn ho hb
    go_enter Tryd.func69, Tryd.ntmps69
    go_wp2
    rw [Lib.run_to_unsafe w ⟨b, 0, none⟩ Tryd.underlying61 Tryd.underlying102 hj (by rw [hjs]; decide) hsh (Nat.zero_lt_succ 1)]
    simp only [Result.andThen]
    rw [Oper.upon_value]
    go_wp2
    rw [run_callFunc_extern Tryd.func86 (by kernel_rfl) (by kernel_rfl) (by kernel_rfl) (e := Extern.AbiNoEscape.same) (by kernel_rfl)]
    rw [Lib.run_noEscape]
    simp only [Result.andThen]
    rw [Oper.upon_value]
    go_wp2
    rw [Lib.run_from_unsafe w ⟨b, 0, none⟩ Tryd.underlying102 Tryd.underlying61 hj hsh liesBu]
    simp only [Result.andThen]
    rw [Oper.upon_value]
    go_wp2
    go_end0
    exact ⟨rfl, by simpa using HN.out.1, HN.out.2⟩
  · have HN := Lib.hid hb; clear hb
    go_enter Tryd.func69, Tryd.ntmps69
    go_wp2
    rw [Lib.run_neq_ptr_same w _ Tryd.underlying61 hj]
    go_wp2
    go_end0
    exact ⟨rfl, HN.out, Only.refl _ _⟩
end Go.Proofs.YtfnigdbnkdofiaaDoor
