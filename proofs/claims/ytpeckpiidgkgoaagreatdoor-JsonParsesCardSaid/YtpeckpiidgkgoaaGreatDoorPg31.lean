/- ErrIs, Same. -/
import Derived.Test.YtpeckpiidgkgoaaGreatDoorPg30
import Derived.Test.YtpeckpiidgkgoaaGreatDoorPg29
import Derived.Deep.QuietTactic
import Derived.StillTailTactics
/- booksame.Error: of the error that is as it should be it says so. -/
namespace Go.Proofs.YtpeckpiidgkgoaaGreatDoor
open Go.RowKit
set_option linter.unusedVariables false
set_option linter.unusedSimpArgs false

/-- An error, and the number that it is. -/
def ErrIs (ev : Value) (e : Int) : Prop := (ev = .nilIface ∧ e = 0) ∨ (ev = .iface 43 (.int .i64 e) ∧ I64 e)

theorem error_like (ev : Value) (e : Int) (w : World) (h : ErrIs ev e) (hg : ErrVar w) : Calls Tryz.prog 12 #[ev, .int .i64 e] w fun r w' => r = .returned (.bool true) ∧ Below w.heap.size w w' := by
  rcases h with ⟨rfl, rfl⟩ | ⟨rfl, h⟩
  · refine (error_nil 0 w).mono ?_
    rintro r w' ⟨rfl, rfl⟩
    exact ⟨rfl, Below.refl _ _⟩
  · refine (error_is e e w hg h).mono ?_
    rintro r w' ⟨rfl, hb⟩
    exact ⟨by simp, hb⟩

end Go.Proofs.YtpeckpiidgkgoaaGreatDoor
/- bookref3.Same: of two trees that are one it says so. -/
namespace Go.Proofs.YtpeckpiidgkgoaaGreatDoor
open Go.RowKit
set_option linter.unusedVariables false
set_option linter.unusedSimpArgs false

set_option maxRecDepth 100000 in
set_option maxHeartbeats 2000000 in
theorem same_any : ∀ (T S : PT) (W0 : World) (hT : InJ W0 T) (hS : InJ W0 S) (he : T.tree = S.tree) (w : World) (hb : Below W0.heap.size W0 w), Calls Tryz.prog 13 #[T.value, S.value] w (BoolIs w true) := by
  intro T
  refine PT.ind (P := fun T => ∀ (S : PT) (W0 : World) (hT : InJ W0 T) (hS : InJ W0 S) (he : T.tree = S.tree) (w : World) (hb : Below W0.heap.size W0 w), Calls Tryz.prog 13 #[T.value, S.value] w (BoolIs w true)) ?_ T
  clear T
  intro v kA kc keys cA cc kids ih S W0 hT hS he w hb
  obtain ⟨v', kA', kc', keys', cA', cc', kids'⟩ := S
  rw [show (PT.node v kA kc keys cA cc kids).tree = .node v keys (kids.map PT.tree) from PT.tree_eq _, show (PT.node v' kA' kc' keys' cA' cc' kids').tree = .node v' keys' (kids'.map PT.tree) from PT.tree_eq _] at he
  injection he with e1 e2 e3
  subst e1 e2
  have hlen : kids'.length = kids.length := by
    have := congrArg List.length e3
    simpa using this.symm
  have hsl := hT.slot
  have hsl' := hS.slot
  have hml : keys.length ≤ 9223372036854775807 := Nat.le_trans hsl.klen (by decide)
  have hcl : kids.length ≤ 9223372036854775807 := Nat.le_trans hsl.clen (by decide)
  have HI := Lib.hid (fun (i : Nat) (k k' : PT) (h1 : kids[i]? = some k) (h2 : kids'[i]? = some k') (w1 : World) (hw : Below W0.heap.size W0 w1) => ih k (List.mem_of_getElem? h1) k' W0 (hT.kids k (List.mem_of_getElem? h1)) (hS.kids k' (List.mem_of_getElem? h2)) (by
    have a := congrArg (fun l => l[i]?) e3
    simp only [List.getElem?_map, h1, h2, Option.map_some, Option.some.injEq] at a
    exact a) w1 hw)
  have HS := Lib.hid (And.intro hsl (And.intro hsl' (And.intro hb hlen)))
  unfold PT.value PT.cells JV.cells
  simp only [PT.val, PT.keys, PT.kids, PT.kA, PT.kc, PT.cA, PT.cc]
  rw [hlen]
  clear ih hsl hsl' hb hlen hT hS e3
  go_enter Tryz.func13, Tryz.ntmps13
  go_wp2_with fail
  refine wp_at (fun w1 => Below w.heap.size w w1 ∧ Blk w1 w.heap.size 29 (PT.node v kA kc keys cA cc kids).cells.toArray ∧ Blk w1 (w.heap.size + 1) 29 (PT.node v kA' kc' keys cA' cc' kids').cells.toArray ∧ w.heap.size + 2 ≤ w1.heap.size) (by have := boxes2 (w := w) (cs := (PT.node v kA kc keys cA cc kids).cells.toArray) (cs2 := (PT.node v kA' kc' keys cA' cc' kids').cells.toArray) (t := 29) (t2 := 29) (Below.refl _ _); simpa [PT.cells, JV.cells, PT.val, PT.keys, PT.kids, PT.kA, PT.kc, PT.cA, PT.cc, HS.out.2.2.2] using this) ?_
  rintro w1 ⟨hB1, hB2, hB3, hB4⟩
  have HB := Lib.hid (And.intro hB1 (And.intro hB2 (And.intro hB3 (And.intro hB4 (HS.out.2.2.1.trans (hB1.mono HS.out.2.2.1.size))))))
  clear hB1 hB2 hB3
  go_loopw [5] (fun iv wr => ∃ k : Nat, iv = .int .i64 k ∧ k ≤ keys.length ∧ Below w1.heap.size w1 wr) (fun iv _ => keys.length - (intOf iv).toNat)
  case atStart => exact ⟨0, rfl, by omega, Below.refl _ _⟩
  case round =>
    obtain ⟨k, rfl, hk, hb⟩ := hrel
    have ha5 : wr.cell? ⟨w.heap.size, 5, none⟩ = some (.slice kA keys.length kc) := (HB.out.2.1.below hb HB.out.2.1.lt).cell 5
    have hb5 : wr.cell? ⟨w.heap.size + 1, 5, none⟩ = some (.slice kA' keys.length kc') := (HB.out.2.2.1.below hb HB.out.2.2.1.lt).cell 5
    by_cases hlt : k < keys.length
    · have hlti : (k : Int) < (keys.length : Int) := by omega
      obtain ⟨x, hx⟩ : ∃ x, keys[k]? = some x := ⟨_, List.getElem?_eq_getElem hlt⟩
      have hW := HB.out.2.2.2.2.trans (hb.mono HB.out.2.2.2.2.size)
      obtain ⟨b1, o1, hA1, g1⟩ := (HS.out.1.keys.below hW).at_ (j := k) (u := .string x) (by simp only [PT.keys]; simp [hx])
      obtain ⟨b2, o2, hA2, g2⟩ := (HS.out.2.1.keys.below hW).at_ (j := k) (u := .string x) (by simp only [PT.keys]; simp [hx])
      simp only [PT.kA] at hA1 hA2
      subst hA1 hA2
      have HX := Lib.hid (And.intro hx hb)
      clear hx hb hW
      go_wp2_with fail
      go_quiet ((fail))
      go_wp2_with fail
      go_roundw
      case rel => exact ⟨k + 1, by go_num, by omega, ⟨HX.out.2.os, HX.out.2.tape, HX.out.2.output, HX.out.2.size, HX.out.2.block⟩⟩
      case measure => simp [intOf] <;> omega
    · have hlti : ¬ (k : Int) < (keys.length : Int) := by omega
      have HX := Lib.hid hb
      clear hb hlt hk
      go_wp2_with fail
      clear ha5 hb5
      go_loopw [6] (fun iv wr => ∃ k : Nat, iv = .int .i64 k ∧ k ≤ kids.length ∧ Below w1.heap.size w1 wr) (fun iv _ => kids.length - (intOf iv).toNat)
      case atStart => exact ⟨0, rfl, by omega, HX.out⟩
      case round =>
        obtain ⟨j, rfl, hj, hb⟩ := hrel
        have ha6 : wr.cell? ⟨w.heap.size, 6, none⟩ = some (.slice cA kids.length cc) := (HB.out.2.1.below hb HB.out.2.1.lt).cell 6
        have hb6 : wr.cell? ⟨w.heap.size + 1, 6, none⟩ = some (.slice cA' kids.length cc') := by rw [← HS.out.2.2.2]; exact (HB.out.2.2.1.below hb HB.out.2.2.1.lt).cell 6
        by_cases hlt : j < kids.length
        · have hlti : (j : Int) < (kids.length : Int) := by omega
          obtain ⟨k, hk⟩ : ∃ k, kids[j]? = some k := ⟨_, List.getElem?_eq_getElem hlt⟩
          obtain ⟨k', hk'⟩ : ∃ k', kids'[j]? = some k' := ⟨_, List.getElem?_eq_getElem (by rw [HS.out.2.2.2]; exact hlt)⟩
          have hW := HB.out.2.2.2.2.trans (hb.mono HB.out.2.2.2.2.size)
          obtain ⟨b1, o1, hA1, p0, p1, p2, p3, p4, p5, p6⟩ := kid_cells (HS.out.1.kids.below hW) hk
          obtain ⟨b2, o2, hA2, q0, q1, q2, q3, q4, q5, q6⟩ := kid_cells (HS.out.2.1.kids.below hW) hk'
          simp only [PT.cA] at hA1 hA2
          subst hA1 hA2
          have HC := Lib.hid (HI.out j k k' hk hk' { wr with drawn := wr.drawn + 1 } hW.drew)
          have HY := Lib.hid hb
          clear hk hk' hW hb
          go_wp2_with fail
          go_still_tail 10, (by kernel_rfl)
          go_wp2_with (go_at_call 13; refine HC.out.mono ?_; rintro e w2 ⟨rfl, hb2⟩)
          have hb3 : Below w1.heap.size w1 w2 := HY.out.trans (Below.mono (B := wr.heap.size) ⟨hb2.os, hb2.tape, hb2.output, hb2.size, hb2.block⟩ HY.out.size)
          clear hb2 p0 p1 p2 p3 p4 p5 p6 q0 q1 q2 q3 q4 q5 q6 ha6 hb6
          go_roundw
          case rel => exact ⟨j + 1, by go_num, by omega, hb3⟩
          case measure => simp [intOf] <;> omega
        · have hlti : ¬ (j : Int) < (kids.length : Int) := by omega
          have HY := Lib.hid (HB.out.1.trans (hb.mono HB.out.1.size))
          clear hb
          go_wp2_with fail
          go_ret
          exact ⟨rfl, HY.out⟩
end Go.Proofs.YtpeckpiidgkgoaaGreatDoor
