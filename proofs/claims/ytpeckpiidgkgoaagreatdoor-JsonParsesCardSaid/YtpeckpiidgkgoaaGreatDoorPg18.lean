/- TreeAll, Parse. -/
import Derived.Test.YtpeckpiidgkgoaaGreatDoorPg15
import Derived.Test.YtpeckpiidgkgoaaGreatDoorPg17
import Derived.Defers
import Derived.Recover
import Derived.WalkLawsBesides
/- reader.tree: the contract, whatever is left. -/
namespace Go.Proofs.YtpeckpiidgkgoaaGreatDoor
open Go.RowKit
set_option linter.unusedVariables false
set_option linter.unusedSimpArgs false

theorem tree_all (W0 : World) (rb : Nat) (s : ByteArray) (hs : s.size ≤ 60000) (l : Nat) : l ≤ 400 → TreeC W0 rb s l := by
  induction l using Nat.strongRecOn with
  | ind l ih =>
    intro hl f pos w hf hat hc hr
    obtain ⟨f1, rfl⟩ : ∃ f1, f = f1 + 1 := ⟨f - 1, by omega⟩
    cases l with
    | zero => exact tree_full rb s hs f1 pos hat w hr
    | succ l =>
      have hd : ∀ l1, l1 ≤ l → TreeC W0 rb s l1 := fun l1 h1 => ih l1 (by omega) (by omega)
      exact tree_step W0 rb s hs f1 l pos hat (by omega) (kids5_step W0 rb s hs f1 l (by omega) (by omega) hd) (kids6_step W0 rb s hs f1 l (by omega) (by omega) hd) w hc hr
end Go.Proofs.YtpeckpiidgkgoaaGreatDoor
/- json.Parse: the contract. -/
namespace Go.Proofs.YtpeckpiidgkgoaaGreatDoor
open Go.RowKit
set_option linter.unusedVariables false
set_option linter.unusedSimpArgs false

def faultV (a : Nat) (x : Int) : Value := .iface 45 (.agg #[.int .i64 a, .iface 43 (.int .i64 x)])
theorem fr22 (p q r v : Value) : #[p, q, r] ++ ((Array.replicate 19 undef).setIfInBounds 3 v).setIfInBounds 0 v = #[p, q, r, v, undef, undef, v, undef, undef, undef, undef, undef, undef, undef, undef, undef, undef, undef, undef, undef, undef, undef] := by
  simp [Array.replicate, List.replicate]
theorem assert_fault (xt : TypeId) (v : Value) (W : World) : (Instr.typeAssert (.iface 45 v) xt 45 true).run Tryz.prog W = .ok (.tuple #[v, .bool true]) W := by kernel_rfl
/-- What the recovering call lays. -/
def CatchW (p2 p3 p4 : Nat) (a : Nat) (x : Int) (w w' : World) : Prop :=
  Blk w' p2 29 #[.int .i64 0, .int .i64 0, .string ⟨#[]⟩, .int .i64 0, .int .i64 0, .slice none 0 0, .slice none 0 0] ∧ Blk w' p3 3 #[.int .i64 a] ∧ Blk w' p4 33 #[.iface 43 (.int .i64 x)] ∧ Only (fun k => k = p2 ∨ k = p3 ∨ k = p4) w w'
set_option maxRecDepth 100000 in
set_option maxHeartbeats 1000000 in
theorem catch_idle (p2 p3 p4 : Nat) (w : World) :
    CallsD Tryz.prog 9 #[.pointer (some ⟨p2, 0, none⟩), .pointer (some ⟨p3, 0, none⟩), .pointer (some ⟨p4, 0, none⟩)] .returning w fun e u' w' => e = .returned (.tuple #[]) ∧ u' = .returning ∧ w' = w := by
  refine callsD_of_wpS Tryz.func9 rfl fun c₀ cs hu => ?_
  apply wpS_seq
  apply wpS_region
  simp [wpOpsS, go_sem, recoverD, hu, Tryz.ntmps9, Exit.thenS]
  refine wpS_of_wp ?_
  rw [fr22]
  go_wp2_with fail
  cases c₀
  simp_all [bodyPostS, results, Tryz.results9]
set_option maxRecDepth 100000 in
set_option maxHeartbeats 1000000 in
theorem catch_fault (p2 p3 p4 : Nat) (a : Nat) (x : Int) (w : World) (c0 c1 c2 c3 c4 c5 c6 d e0 : Value) (h2 : Blk w p2 29 #[c0, c1, c2, c3, c4, c5, c6]) (h3 : Blk w p3 3 #[d]) (h4 : Blk w p4 33 #[e0]) (h23 : p2 ≠ p3) (h24 : p2 ≠ p4) (h34 : p3 ≠ p4) :
    CallsD Tryz.prog 9 #[.pointer (some ⟨p2, 0, none⟩), .pointer (some ⟨p3, 0, none⟩), .pointer (some ⟨p4, 0, none⟩)] (.panicking ({ v := faultV a x, recovered := false } :: [])) w fun e u' w' => e = .returned (.tuple #[]) ∧ u' = .panicking ({ v := faultV a x, recovered := true } :: []) ∧ CatchW p2 p3 p4 a x w w' := by
  have c20 := h2.cell 0
  have c21 := h2.cell 1
  have c22 := h2.cell 2
  have c23 := h2.cell 3
  have c24 := h2.cell 4
  have c25 := h2.cell 5
  have c26 := h2.cell 6
  have z2 := h2.frozen
  have c30 := h3.cell 0
  have z3 := h3.frozen
  have c40 := h4.cell 0
  have z4 := h4.frozen
  simp only [List.getElem?_toArray, List.getElem?_cons_zero, List.getElem?_cons_succ] at c20 c21 c22 c23 c24 c25 c26 c30 c40
  have hl2 := Blk.lt h2
  have hl3 := Blk.lt h3
  have hl4 := Blk.lt h4
  have H := Lib.hid (And.intro h2 (And.intro h3 h4))
  clear h2 h3 h4
  have ha := assert_fault
  unfold faultV
  refine callsD_of_wpS Tryz.func9 rfl fun c₀ cs hu => ?_
  apply wpS_seq
  apply wpS_region
  simp [wpOpsS, go_sem, recoverD, hu, Tryz.ntmps9, Exit.thenS]
  refine wpS_of_wp ?_
  rw [fr22]
  go_wp2_with fail
  refine wp_at (fun W => Blk W w.heap.size 45 #[.int .i64 a, .iface 43 (.int .i64 x)] ∧ Below w.heap.size w W) ⟨Blk.new _ _ _, (Below.refl _ _).alloc (Nat.le_refl _) _⟩ ?_
  rintro W ⟨hF, hB⟩
  have k2 := H.out.1.below hB hl2
  have k3 := H.out.2.1.below hB hl3
  have k4 := H.out.2.2.below hB hl4
  have i0 := hF.cell 0
  have i1 := hF.cell 1
  clear c20 c21 c22 c23 c24 c25 c26 z2 c30 z3 c40 z4
  have c20 := k2.cell 0
  have c21 := k2.cell 1
  have c22 := k2.cell 2
  have c23 := k2.cell 3
  have c24 := k2.cell 4
  have c25 := k2.cell 5
  have c26 := k2.cell 6
  have z2 := k2.frozen
  have c30 := k3.cell 0
  have z3 := k3.frozen
  have c40 := k4.cell 0
  have z4 := k4.frozen
  simp only [List.getElem?_toArray, List.getElem?_cons_zero, List.getElem?_cons_succ] at c20 c21 c22 c23 c24 c25 c26 c30 c40 i0 i1
  have K := Lib.hid (And.intro k2 (And.intro k3 (And.intro k4 (And.intro hF hB))))
  clear k2 k3 k4 hF hB
  have h23' : ¬ p2 = p3 := h23
  have h24' : ¬ p2 = p4 := h24
  have h34' : ¬ p3 = p4 := h34
  go_region
  have o := ((only7 W p2 (.int .i64 0) (.int .i64 0) (.string ⟨#[]⟩) (.int .i64 0) (.int .i64 0) (.slice none 0 0) (.slice none 0 0) 0 1 2 3 4 5 6).mono (T := fun k => k = p2 ∨ k = p3 ∨ k = p4) (fun k _ hk => .inl hk))
  have b2 := blk7 (.int .i64 0) (.int .i64 0) (.string ⟨#[]⟩) (.int .i64 0) (.int .i64 0) (.slice none 0 0) (.slice none 0 0) K.out.1
  have b3 := Blk.only K.out.2.1 (only7 W p2 (.int .i64 0) (.int .i64 0) (.string ⟨#[]⟩) (.int .i64 0) (.int .i64 0) (.slice none 0 0) (.slice none 0 0) 0 1 2 3 4 5 6) (fun e => h23 e.symm)
  have b4 := Blk.only K.out.2.2.1 (only7 W p2 (.int .i64 0) (.int .i64 0) (.string ⟨#[]⟩) (.int .i64 0) (.int .i64 0) (.slice none 0 0) (.slice none 0 0) 0 1 2 3 4 5 6) (fun e => h24 e.symm)
  show bodyPostS Tryz.prog _ c₀ cs _ Exit.normal _ _ _
  unfold bodyPostS
  refine And.intro rfl ?_
  refine Exists.intro (FrameMode.panicking [{ v := .iface 45 (.agg #[.int .i64 a, .iface 43 (.int .i64 x)]), recovered := true }]) ?_
  refine And.intro ?_ ?_
  · rfl
  refine Exists.intro (.tuple #[]) ?_
  refine And.intro ?_ ?_
  · simp [results, Tryz.results9]
  · refine And.intro rfl ?_
    refine And.intro rfl ?_
    refine (show CatchW p2 p3 p4 a x w (World.drew _) from ?_)
    have o3 := o.setCell (p := ⟨p3, 0, none⟩) (.inr (.inl rfl)) (.int .i64 a)
    have o4 := o3.setCell (p := ⟨p4, 0, none⟩) (.inr (.inr rfl)) (.iface 43 (.int .i64 x))
    have s3 := (Only.refl (· = p3) (((((((W.setCell ⟨p2, 0, none⟩ (.int .i64 0)).setCell ⟨p2, 1, none⟩ (.int .i64 0)).setCell ⟨p2, 2, none⟩ (.string ⟨#[]⟩)).setCell ⟨p2, 3, none⟩ (.int .i64 0)).setCell ⟨p2, 4, none⟩ (.int .i64 0)).setCell ⟨p2, 5, none⟩ (.slice none 0 0)).setCell ⟨p2, 6, none⟩ (.slice none 0 0))).setCell (p := ⟨p3, 0, none⟩) rfl (.int .i64 a)
    have s4 := (Only.refl (· = p4) ((((((((W.setCell ⟨p2, 0, none⟩ (.int .i64 0)).setCell ⟨p2, 1, none⟩ (.int .i64 0)).setCell ⟨p2, 2, none⟩ (.string ⟨#[]⟩)).setCell ⟨p2, 3, none⟩ (.int .i64 0)).setCell ⟨p2, 4, none⟩ (.int .i64 0)).setCell ⟨p2, 5, none⟩ (.slice none 0 0)).setCell ⟨p2, 6, none⟩ (.slice none 0 0)).setCell ⟨p3, 0, none⟩ (.int .i64 a))).setCell (p := ⟨p4, 0, none⟩) rfl (.iface 43 (.int .i64 x))
    exact ⟨Blk.drewN ((b2.only s3 h23).only s4 h24) 1, Blk.drewN ((b3.setc).only s4 h34) 1, Blk.drewN ((b4.only s3 (fun e => h34 e.symm)).setc) 1, Only.drew ((Only.of_below K.out.2.2.2.2).trans o4)⟩
end Go.Proofs.YtpeckpiidgkgoaaGreatDoor
