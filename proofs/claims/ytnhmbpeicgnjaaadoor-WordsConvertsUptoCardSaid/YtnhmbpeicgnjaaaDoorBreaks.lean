/- words.Breaks: contracts. -/
import Derived.Test.YtnhmbpeicgnjaaaDoorWords
import Derived.WalkSmall
namespace Go.Proofs.YtnhmbpeicgnjaaaDoor
open Go.RowKit Go.Lib
set_option linter.unusedVariables false

theorem infoInt : (Tryd.prog.info? 3).map (fun i => (i.zero, i.size, i.bytes)) = some (some (.int .i64 0), 1, 8) := by kernel_rfl

/-- What Breaks gives of a valid text. -/
def BreaksPost (w : World) (l : List Int) (e : Ending) (w' : World) : Prop :=
  ∃ A c, e = .returned (.tuple #[.slice A l.length c, .nilIface]) ∧ SlAt w' A (ints l) ∧ Below w.heap.size w w'

theorem brk_succ {c : Nat} {l : List Nat} {was : Bool} {n : Nat} (h : wordB c = was) : brk (c :: l) was n = brk l was (n + 1) := by
  rw [brk, h]; simp
theorem brk_turn {c : Nat} {l : List Nat} {was : Bool} {n : Nat} (h : wordB c ≠ was) : brk (c :: l) was n = (n : Int) :: brk l (wordB c) (n + 1) := by
  rw [brk, if_pos (by simpa using h)]

set_option maxRecDepth 100000 in
set_option maxHeartbeats 1000000 in
theorem breaks_ok (s : ByteArray) (w : World) (hs : s.size ≤ 1048576) (hT : Tabs w) (hv : validD s.data.toList = true) :
    Calls Tryd.prog 10 #[.string s] w (BreaksPost w (brk (runesD s.data.toList) false 0)) := by
  go_enter Tryd.func10, Tryd.ntmps10
  go_wp2_with (go_at_call 35; refine (Tryd.utf8_ValidString _ _ (by omega) hT).mono ?_; rw [hv]; rintro e w1 ⟨rfl, hb⟩)
  have hbs := hb.size
  go_loopw [4, 5, 6] (fun v f i wr => ∃ (pos n : Nat) (was : Bool) (out : List Int) (A : Option Addr) (c : Nat), wr.heap[w1.heap.size]? = some (.stringIter s pos) ∧ pos ≤ s.size ∧ n ≤ pos ∧ out.length ≤ n ∧ v = .slice A out.length c ∧ f = .bool was ∧ i = .int .i64 n ∧
      wr.ownsRow (w1.heap.size + 1) 3 1 (.slice A out.length c) out.length (ints out) ∧ Below w.heap.size w wr ∧ brk (runesD s.data.toList) false 0 = out ++ brk (restD s pos) was n)
    (fun _ _ _ wr => s.size - wr.iterPos w1.heap.size)
  case atStart => exact ⟨0, 0, false, [], none, 0, World.iter_heap w1 s 0, by omega, by omega, by simp, rfl, rfl, rfl, World.ownsRow_nil _ _ _ _, hb.trans (((Below.refl _ _).alloc (Nat.le_refl _) _).mono hb.size), rfl⟩
  case round =>
    obtain ⟨pos, n, was, out, A, c, hit, hp, hn, hol, rfl, rfl, rfl, hown, hbr, hc⟩ := hrel
    obtain ⟨wo, rfl⟩ : ∃ wx : World, wx = wr := ⟨_, rfl⟩
    have hlt1 : w1.heap.size < wo.heap.size := (Array.getElem?_eq_some_iff.1 hit).1
    by_cases hlt : pos < s.size
    · have hnx := fun ty => run_next_any_at (P := Tryd.prog) wo w1.heap.size s pos ty hit hlt
      have hd := dec_le s pos hlt
      have hit2 := iterAt_heap wo w1.heap.size s pos (pos + (Utf8.decode s pos).2) hit
      have hown2 := ownsRow_iterAt hown (k := w1.heap.size) (by omega) s (pos + (Utf8.decode s pos).2)
      have hbr2 := below_iterAt hbr (k := w1.heap.size) hbs s (pos + (Utf8.decode s pos).2)
      have hsz : w1.heap.size + 1 ≤ (wo.iterAt w1.heap.size s (pos + (Utf8.decode s pos).2)).heap.size := by rw [iterAt_size]; omega
      have hpos : wo.iterPos w1.heap.size = pos := iterPos_of hit
      obtain ⟨hd1, hd2⟩ := hd
      cases hw : (wordB (Utf8.decode s pos).1 == was) with
      | true =>
        have he : wordB (Utf8.decode s pos).1 = was := by simpa using hw
        rw [restD_step s pos hlt, brk_succ he] at hc
        have HC := Lib.hid hc; have HP := Lib.hid hpos; have HI := Lib.hid hit2
        clear hc hpos he hit hit2 hown hbr
        go_wp2_with (first | (go_at_call 37; refine (wordly_any _ _).mono ?_; rintro e w' ⟨rfl, rfl⟩))
        go_roundw
        case rel => exact ⟨_, n + 1, was, out, A, c, HI.out, hd2, by omega, by omega, rfl, rfl, by go_num, hown2, hbr2, HC.out⟩
        case measure =>
          rw [HP.out, iterPos_of HI.out]; omega
      | false =>
        have he : wordB (Utf8.decode s pos).1 ≠ was := by simpa using hw
        rw [restD_step s pos hlt, brk_turn he] at hc
        have HC := Lib.hid hc; have HP := Lib.hid hpos; have HI := Lib.hid hit2
        clear hc hpos he hit hit2 hown hbr
        go_wp2_with (first
          | (go_at_call 37; refine (wordly_any _ _).mono ?_; rintro e w' ⟨rfl, rfl⟩)
          | (at_builtin; refine wpList_push _ rfl (.tmp 24) (.tmp 26) _ rfl (w1.heap.size + 1) 3 Tryd.underlying26 infoInt rfl (by decide) (by decide) _ _ _ rfl hown2 _ rfl rfl ?_ (by omega) hsz ?_))
        · rfl
        · intro A' c' w3 hown3 hg3
          have hit3 : w3.heap[w1.heap.size]? = some (.stringIter s (pos + (Utf8.decode s pos).2)) := by
            rw [hg3.block _ (by rw [iterAt_size]; omega) (fun e => by have := (hown2.lt _ e.symm).1; omega)]; exact HI.out
          have hbr3 := hbr2.grown hg3 (by rw [iterAt_size]; omega) (fun k hk => by have := (hown2.lt _ hk).1; omega)
          have HI3 := Lib.hid hit3
          clear hit3 hg3 hown2 hbr2
          go_wp2
          go_roundw
          case rel => exact ⟨_, n + 1, _, out ++ [(n : Int)], A', c', HI3.out, hd2, by omega, by simp; omega, by simp, rfl, by go_num, by simpa [ints] using hown3, hbr3, by rw [HC.out]; simp⟩
          case measure =>
            rw [HP.out, iterPos_of HI3.out]; omega
    · have hnx := fun ty => run_next_end_at (P := Tryd.prog) wo w1.heap.size s pos ty hit hlt
      rw [restD_end s pos hlt, brk] at hc
      cases was with
      | false =>
        have HC := Lib.hid hc; clear hc
        go_wp2_with fail
        go_ret2
        rw [HC.out]
        exact ⟨A, c, by simp, by simpa using SlAt.of_owns hown, hbr⟩
      | true =>
        have HC := Lib.hid hc; clear hc
        have hsz : w1.heap.size + 1 ≤ wo.heap.size := by omega
        go_wp2_with (first
          | (at_builtin; refine wpList_push _ rfl (.tmp 32) (.tmp 34) _ rfl (w1.heap.size + 1) 3 Tryd.underlying26 infoInt rfl (by decide) (by decide) _ _ _ rfl hown _ rfl rfl ?_ (by omega) hsz ?_))
        · rfl
        · intro A' c' w3 hown3 hg3
          have hbr3 := hbr.grown hg3 (by omega) (fun k hk => by have := (hown.lt _ hk).1; omega)
          clear hg3 hown hbr
          go_wp2
          go_ret2
          rw [HC.out]
          exact ⟨A', c', by simp, by simpa [ints] using SlAt.of_owns hown3, hbr3⟩

set_option maxRecDepth 100000 in
theorem breaks_bad (s : ByteArray) (w : World) (hs : s.size ≤ 1048576) (hT : Tabs w) (hv : validD s.data.toList = false) :
    Calls Tryd.prog 10 #[.string s] w fun e w' => e = .returned (.tuple #[.slice none 0 0, .iface 78 (.int .i64 2)]) ∧ Below w.heap.size w w' := by
  go_enter Tryd.func10, Tryd.ntmps10
  go_wp2_with (go_at_call 35; refine (Tryd.utf8_ValidString _ _ (by omega) hT).mono ?_; rw [hv]; rintro e w1 ⟨rfl, hb1⟩)
  go_ret2
  exact ⟨rfl, hb1⟩
end Go.Proofs.YtnhmbpeicgnjaaaDoor
