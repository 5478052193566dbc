/- bookref3.Formed at lists. -/
import Derived.Test.YtfnigdbnkdofiaaDoorRefForm
namespace Go.Proofs.YtfnigdbnkdofiaaDoor
open Go.RowKit
set_option linter.unusedVariables false
set_option linter.unusedSimpArgs false

set_option maxRecDepth 100000 in
set_option maxHeartbeats 4000000 in
theorem rform_list (v : JV) (kA : Option Addr) (kc : Nat) (keys : List ByteArray) (cA : Option Addr) (cc : Nat) (kids : List PT) (W0 w : World) (hT : InJ W0 (.node v kA kc keys cA cc kids)) (hb : Below W0.heap.size W0 w) (hd : v.head = true) (hk : v.k = 6)
    (ih : ∀ k ∈ kids, ∀ w1, Below W0.heap.size W0 w1 → Calls Tryd.prog 17 #[k.value] w1 (BoolIs w1 k.tree.formed)) :
    Calls Tryd.prog 17 #[(PT.node v kA kc keys cA cc kids).value] w (BoolIs w (PT.node v kA kc keys cA cc kids).tree.formed) := by
  have htop : (PT.node v kA kc keys cA cc kids).tree.formed = ((v.head && (if v.k = 5 then (keys.length == kids.length) && keysOk keys else if v.k = 6 then keys.length == 0 else keys.length == 0 && kids.length == 0)) && JT.formedL (kids.map PT.tree)) := by
    rw [show (PT.node v kA kc keys cA cc kids).tree = .node v keys (kids.map PT.tree) from PT.tree_eq _, JT.formed_eq, JT.top_node]
    simp [JT.kids]
  rw [hd] at htop
  obtain ⟨ok, h4, ho, hp⟩ := head_parts hd
  have hsl := hT.slot
  have hml : keys.length ≤ 9223372036854775807 := Nat.le_trans hsl.klen (by decide)
  have hcl : kids.length ≤ 9223372036854775807 := Nat.le_trans hsl.clen (by decide)
  have HI := Lib.hid (fun (i : Nat) (k : PT) (h1 : kids[i]? = some k) (w1 : World) (hw : Below W0.heap.size W0 w1) => ih k (List.mem_of_getElem? h1) w1 hw)
  have HS := Lib.hid (And.intro hsl (And.intro hb (And.intro htop ok)))
  obtain ⟨k, n, s, o, p⟩ := v
  simp only at ho hp h4 hk
  subst ho hp
  subst hk
  unfold PT.value PT.cells JV.cells
  simp only [PT.val, PT.keys, PT.kids, PT.kA, PT.kc, PT.cA, PT.cc]
  clear ih hsl hb hT htop ok hd
  obtain ⟨a, ha⟩ : ∃ a, keys.length = a := ⟨_, rfl⟩
  obtain ⟨b, hb⟩ : ∃ b, kids.length = b := ⟨_, rfl⟩
  rw [ha] at hml ⊢
  rw [hb] at hcl ⊢
  have HL := Lib.hid (And.intro ha hb)
  clear ha hb
  go_enter Tryd.func17, Tryd.ntmps17
  go_wp2_with fail
  refine (rvalue_is _ _ _ _ _ _ _ HS.out.2.2.2).mono ?_
  rintro e w1 ⟨rfl, hb1⟩
  obtain ⟨hb, hT, hV, hs⟩ := boxes2 hb1
  have H1 := Lib.hid (And.intro hb (And.intro hT hV))
  have d0 : w1.cell? ⟨w.heap.size + 1, 0, none⟩ = some (.int .i64 6) := hV.cell 0
  have d3 : w1.cell? ⟨w.heap.size + 1, 3, none⟩ = some (.int .i64 0) := hV.cell 3
  have d4 : w1.cell? ⟨w.heap.size + 1, 4, none⟩ = some (.int .i64 0) := hV.cell 4
  clear hb1 hb hT hV
  go_wp2_with fail
  refine (rroot_is _ _ _ true rfl).mono ?_
  rintro e w2 ⟨rfl, hb2⟩
  have hbb := H1.out.1.trans (hb2.mono H1.out.1.size)
  have H2 := Lib.hid (And.intro hbb (And.intro (H1.out.2.1.below hb2 H1.out.2.1.lt) (HS.out.2.1.trans (hbb.mono HS.out.2.1.size))))
  have e0 : w2.cell? ⟨w.heap.size + 1, 0, none⟩ = some (.int .i64 6) := cell_below hb2 d0
  have t5 : w2.cell? ⟨w.heap.size, 5, none⟩ = some (.slice kA a kc) := H2.out.2.1.cell 5
  have t6 : w2.cell? ⟨w.heap.size, 6, none⟩ = some (.slice cA b cc) := H2.out.2.1.cell 6
  have h4b : (6 == 4) = false := by first | rfl | exact decide_eq_false h4
  clear hb2 hbb d0 d3 d4 h4
  by_cases he : a = 0
  case neg =>
    have hei : 0 < a := by omega
    have HF := Lib.hid (show (PT.node ⟨6, n, s, 0, 0⟩ kA kc keys cA cc kids).tree.formed = false from by rw [HS.out.2.2.1, show (keys.length == 0) = false from by rw [HL.out.1]; simpa using he]; simp)
    clear he
    go_wp2_with fail
    go_ret
    exact ⟨by rw [HF.out]; rfl, H2.out.1⟩
  have hei : ¬ 0 < a := by omega
  have HF := Lib.hid (show (PT.node ⟨6, n, s, 0, 0⟩ kA kc keys cA cc kids).tree.formed = JT.formedL (kids.map PT.tree) from by rw [HS.out.2.2.1, show (keys.length == 0) = true from by rw [HL.out.1]; simpa using he]; simp)
  clear he
  go_wp2_with fail
  clear t5 t6 e0
  go_loopw [6] (fun iv wr => iv = .int .i64 0 ∧ Below w2.heap.size w2 wr) (fun iv _ => 0)
  case atStart => exact ⟨rfl, Below.refl _ _⟩
  case round =>
    obtain ⟨rfl, hb⟩ := hrel
    have t5 : wr.cell? ⟨w.heap.size, 5, none⟩ = some (.slice kA a kc) := (H2.out.2.1.below hb H2.out.2.1.lt).cell 5
    have HB := Lib.hid (And.intro hb (And.intro (H2.out.2.2.trans (hb.mono H2.out.2.2.size)) (H2.out.1.trans (hb.mono H2.out.1.size))))
    clear hb
    go_wp2_with fail
    clear t5

    go_loopw [7] (fun iv w3 => ∃ i : Nat, iv = .int .i64 i ∧ i ≤ b ∧ (∀ j k, j < i → kids[j]? = some k → k.tree.formed = true) ∧ Below wr.heap.size wr w3) (fun iv _ => b - (intOf iv).toNat)
    case atStart => exact ⟨0, rfl, by omega, fun j k h => absurd h (Nat.not_lt_zero _), Below.refl _ _⟩
    case round =>
      obtain ⟨i, rfl, hi, hf, hb⟩ := hrel
      have t6 : wr.cell? ⟨w.heap.size, 6, none⟩ = some (.slice cA b cc) := ((H2.out.2.1.below HB.out.1 H2.out.2.1.lt).below hb (H2.out.2.1.below HB.out.1 H2.out.2.1.lt).lt).cell 6
      have HC := Lib.hid (And.intro hb (And.intro (HB.out.2.1.trans (hb.mono HB.out.2.1.size)) (HB.out.2.2.trans (hb.mono HB.out.2.2.size))))
      have HG := Lib.hid hf
      clear hb hf
      by_cases hlt : i < b
      · have hlti : (i : Int) < (b : Int) := by omega
        obtain ⟨x, hx⟩ : ∃ x, kids[i]? = some x := ⟨_, List.getElem?_eq_getElem (by rw [HL.out.2]; exact hlt)⟩
        obtain ⟨b1, o1, hA1, p0, p1, p2, p3, p4, p5, p6⟩ := kid_cells (HS.out.1.kids.below HC.out.2.1) hx
        simp only [PT.cA] at hA1
        subst hA1
        have hcall := HI.out i x hx wr HC.out.2.1
        have htl : (kids.map PT.tree)[i]? = some x.tree := by rw [List.getElem?_map, hx]; rfl
        obtain ⟨r, hr⟩ : ∃ r, x.tree.formed = r := ⟨_, rfl⟩
        rw [hr] at hcall
        have HCC := Lib.hid hcall
        have HX := Lib.hid (And.intro hx (And.intro htl hr))
        clear hx htl hr hcall
        go_wp2_with fail
        refine HCC.out.mono ?_
        rintro e w4 ⟨rfl, hb4⟩
        have H4 := Lib.hid hb4
        clear hb4 p0 p1 p2 p3 p4 p5 p6 t6 HCC
        cases r with
        | false =>
          have HZ := Lib.hid (JT.formedL_false HX.out.2.1 HX.out.2.2)
          go_wp2_with fail
          go_ret
          exact ⟨by rw [HF.out, HZ.out]; rfl, HC.out.2.2.trans (H4.out.mono HC.out.2.2.size)⟩
        | true =>
          go_wp2_with fail
          go_roundw
          case rel =>
            refine ⟨i + 1, by go_num, by omega, fun j x' hj hx' => ?_, HC.out.1.trans (H4.out.mono HC.out.1.size)⟩
            rcases Nat.lt_succ_iff_lt_or_eq.1 hj with g | g
            · exact HG.out j x' g hx'
            · subst g
              rw [HX.out.1] at hx'
              injection hx' with hx'
              rw [← hx']
              exact HX.out.2.2
          case measure => simp [intOf] <;> omega
      · have hlti : ¬ (i : Int) < (b : Int) := by omega
        have hall : JT.formedL (kids.map PT.tree) = true := by
          rw [JT.formedL_iff]
          intro y hy
          obtain ⟨z, hz, rfl⟩ := List.mem_map.1 hy
          obtain ⟨j, hj⟩ := List.mem_iff_getElem?.1 hz
          exact HG.out j z (by have := (List.getElem?_eq_some_iff.1 hj).1; rw [HL.out.2] at this; omega) hj
        have HZ := Lib.hid hall
        clear hall
        go_wp2_with fail
        go_ret
        exact ⟨by rw [HF.out, HZ.out]; rfl, HC.out.2.2⟩
end Go.Proofs.YtfnigdbnkdofiaaDoor
