/- bookref3.Count: the contract. -/
import Derived.Test.YtfnigdbnkdofiaaDoorRefValue
import Derived.Test.YtfnigdbnkdofiaaDoorCkHead
namespace Go.Proofs.YtfnigdbnkdofiaaDoor
open Go.RowKit
set_option linter.unusedVariables false
set_option linter.unusedSimpArgs false

/-- What counting gives: how many, but no more than one more than asked. -/
def RCountQ (w : World) (size : Nat) (m : Nat) (e : Ending) (w' : World) : Prop := e = .returned (.int .i64 (min size (m + 1) : Nat)) ∧ Below w.heap.size w w'

set_option maxRecDepth 100000 in
set_option maxHeartbeats 2000000 in
theorem rcount_any : ∀ (T : PT) (W0 : World) (hT : InJ W0 T) (m : Nat) (hm : m ≤ 1000) (w : World) (hb : Below W0.heap.size W0 w), Calls Tryd.prog 16 #[T.value, .int .i64 m] w (RCountQ w T.tree.size m) := by
  intro T
  refine PT.ind (P := fun T => ∀ (W0 : World) (hT : InJ W0 T) (m : Nat) (hm : m ≤ 1000) (w : World) (hb : Below W0.heap.size W0 w), Calls Tryd.prog 16 #[T.value, .int .i64 m] w (RCountQ w T.tree.size m)) ?_ T
  clear T
  intro v kA kc keys cA cc kids ih W0 hT m hm w hb
  have hsl := hT.slot
  have hsz : (PT.node v kA kc keys cA cc kids).tree.size = 1 + JT.sizeL (kids.map PT.tree) := by rw [JT.size_eq, PT.tree_kids]; rfl
  have hcl : kids.length ≤ 9223372036854775807 := Nat.le_trans hsl.clen (by decide)
  have HI := Lib.hid (fun (i : Nat) (k : PT) (h1 : kids[i]? = some k) (q : Nat) (hq : q ≤ 1000) (w1 : World) (hw : Below W0.heap.size W0 w1) => ih k (List.mem_of_getElem? h1) W0 (hT.kids k (List.mem_of_getElem? h1)) q hq w1 hw)
  have HS := Lib.hid (And.intro hsl (And.intro hb hsz))
  unfold PT.value PT.cells JV.cells
  simp only [PT.val, PT.keys, PT.kids, PT.kA, PT.kc, PT.cA, PT.cc]
  clear ih hsl hb hT hsz
  go_enter Tryd.func16, Tryd.ntmps16
  go_wp2_with fail
  refine wp_at (fun w1 => Below w.heap.size w w1 ∧ Blk w1 w.heap.size 29 (PT.node v kA kc keys cA cc kids).cells.toArray) ⟨(Below.refl _ _).alloc (Nat.le_refl _) _, by have := Blk.new w 29 (PT.node v kA kc keys cA cc kids).cells.toArray; simpa [PT.cells, JV.cells, PT.val, PT.keys, PT.kids, PT.kA, PT.kc, PT.cA, PT.cc] using this⟩ ?_
  rintro w1 ⟨hB1, hB2⟩
  have HB := Lib.hid (And.intro hB1 (And.intro hB2 (HS.out.2.1.trans (hB1.mono HS.out.2.1.size))))
  clear hB1 hB2
  go_loopw [5, 6] (fun nv iv wr => ∃ k q : Nat, iv = .int .i64 k ∧ nv = .int .i64 q ∧ k ≤ kids.length ∧ q = min (1 + JT.sizeL ((kids.map PT.tree).take k)) (m + 1) ∧ Below w1.heap.size w1 wr) (fun _ iv _ => kids.length - (intOf iv).toNat)
  case atStart => exact ⟨0, 1, rfl, rfl, by omega, by simp [JT.sizeL], Below.refl _ _⟩
  case round =>
    obtain ⟨k, q, rfl, rfl, hk, hq, hb⟩ := hrel
    have ha6 : wr.cell? ⟨w.heap.size, 6, none⟩ = some (.slice cA kids.length cc) := (HB.out.2.1.below hb HB.out.2.1.lt).cell 6
    have HQ := Lib.hid (And.intro hq hb)
    have hq1 : q ≤ m + 1 := by omega
    clear hq
    by_cases hlt : k < kids.length
    · have hlti : (k : Int) < (kids.length : Int) := by omega
      by_cases hqm : q ≤ m
      · have hqi : (q : Int) ≤ (m : Int) := by omega
        obtain ⟨x, hx⟩ : ∃ x, kids[k]? = some x := ⟨_, List.getElem?_eq_getElem hlt⟩
        have hW := HB.out.2.2.trans (hb.mono HB.out.2.2.size)
        obtain ⟨b1, o1, hA1, p0, p1, p2, p3, p4, p5, p6⟩ := kid_cells (HS.out.1.kids.below hW) hx
        simp only [PT.cA] at hA1
        subst hA1
        have HC := Lib.hid (HI.out k x hx (m - q) (by omega) wr hW)
        have hmq : ((m - q : Nat) : Int) = (m : Int) - (q : Int) := by omega
        rw [hmq] at HC
        have htl : (kids.map PT.tree)[k]? = some x.tree := by rw [List.getElem?_map, hx]; rfl
        have hts := JT.sizeL_take_succ htl
        have HX := Lib.hid (And.intro hts hqm)
        clear hx hW hb hmq htl hts
        go_wp2_with fail
        refine HC.out.mono ?_
        rintro e w2 ⟨rfl, hb2⟩
        obtain ⟨z, hz⟩ : ∃ z, min x.tree.size (m - q + 1) = z := ⟨_, rfl⟩
        rw [hz]
        have HZ := Lib.hid (And.intro hz hb2)
        have hz1 : (z : Int) ≤ 1001 := by omega
        have hq2 : (q : Int) ≤ 1000 := by omega
        clear hz hb2 p0 p1 p2 p3 p4 p5 p6 ha6 HC
        go_wp2_with fail
        go_roundw
        case rel =>
          refine ⟨k + 1, q + z, by go_num, by go_num, by omega, ?_, HQ.out.2.trans (HZ.out.2.mono HQ.out.2.size)⟩
          have h1 := HX.out.1
          have h2 := HQ.out.1
          have h3 := HZ.out.1
          have h4 := HX.out.2
          rw [h1]
          omega
        case measure => simp [intOf] <;> omega
      · have hqi : ¬ (q : Int) ≤ (m : Int) := by omega
        clear hb
        go_wp2_with fail
        go_ret
        refine ⟨?_, HB.out.1.trans (HQ.out.2.mono HB.out.1.size)⟩
        have h1 := HQ.out.1
        have h2 := JT.sizeL_take_le (kids.map PT.tree) k
        have h3 : min (PT.node v kA kc keys cA cc kids).tree.size (m + 1) = q := by rw [HS.out.2.2]; omega
        rw [h3]
        rfl
    · have hlti : ¬ (k : Int) < (kids.length : Int) := by omega
      clear hb
      go_wp2_with fail
      go_ret
      refine ⟨?_, HB.out.1.trans (HQ.out.2.mono HB.out.1.size)⟩
      have h1 := HQ.out.1
      rw [List.take_of_length_le (by simp; omega)] at h1
      have h3 : min (PT.node v kA kc keys cA cc kids).tree.size (m + 1) = q := by rw [HS.out.2.2]; omega
      rw [h3]
      rfl
end Go.Proofs.YtfnigdbnkdofiaaDoor
