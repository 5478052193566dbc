/- booklaw6.IdRow: the walk. -/
import Derived.Test.YtljemaapicaioaaDoorIdParse
import Derived.Shelf.Unicode.PredsPay
import Derived.Deep.DeepCutAuto
namespace Go.Proofs.YtljemaapicaioaaDoor
open Go.RowKit
set_option linter.unusedVariables false
set_option linter.unusedSimpArgs false

/-- Two numbers that came in. -/
def IsId (W : World) (v : Value) (a : Int × Int) : Prop := v = idV a

/-- The three boxes. -/
structure Box3 (w : World) (a b c : Int × Int) (W : World) : Prop where
  bel : Below w.heap.size w W
  a : Blk W w.heap.size 41 #[.int .i64 a.1, .int .i64 a.2]
  b : Blk W (w.heap.size + 1) 41 #[.int .i64 b.1, .int .i64 b.2]
  c : Blk W (w.heap.size + 1 + 1) 41 #[.int .i64 c.1, .int .i64 c.2]
theorem Box3.below {w W W' : World} {a b c : Int × Int} (h : Box3 w a b c W) (hb : Below W.heap.size W W') : Box3 w a b c W' :=
  ⟨h.bel.trans (hb.mono h.bel.size), h.a.below hb h.a.lt, h.b.below hb h.b.lt, h.c.below hb h.c.lt⟩

/-- Name, and that Parse reads it. -/
def NameOk (w : World) (a : Int × Int) (m : Int) (e : Ending) (w' : World) : Prop :=
  ∃ nm : ByteArray, e = .returned (.string nm) ∧ (∀ W : World, W.cell? ⟨1, 0, none⟩ = some (.int .i64 m) → Calls Tryd.prog 39 #[.string nm] W (ParseQ W a.1 a.2)) ∧ Below w.heap.size w w'
theorem name_ok (a : Int × Int) (m : Int) (hok : idOk a.1 a.2 = true) (w : World) (hp : ∀ w1, Below w.heap.size w w1 → Pow10 w1) :
    Calls Tryd.prog 38 #[.agg #[.int .i64 a.1, .int .i64 a.2]] w (NameOk w a m) := by
  obtain ⟨o, p⟩ := a
  simp only at hok ⊢
  by_cases h0 : o = 0 ∧ p = 0
  · obtain ⟨rfl, rfl⟩ := h0
    refine (name_root w).mono ?_
    rintro e w' ⟨rfl, hb⟩
    exact ⟨_, rfl, fun W _ => parse_root W, hb⟩
  · have hr : 1 ≤ o ∧ o ≤ 1000000 ∧ 1 ≤ p ∧ p ≤ 99 := by
      simp [idOk, idReal] at hok
      omega
    obtain ⟨u, rfl⟩ : ∃ u : Nat, o = u := ⟨o.toNat, by omega⟩
    obtain ⟨q, rfl⟩ : ∃ q : Nat, p = q := ⟨p.toNat, by omega⟩
    refine (name_any u q w (by omega) (by omega) (by omega) hp).mono ?_
    rintro e w' ⟨nm, rfl, hn, hb⟩
    exact ⟨nm, rfl, fun W hm => parse_name nm u q W hn (by omega) (by omega) (by omega) (by omega) m hm, hb⟩

theorem lessB_iff (a b : Int × Int) : lessB a b = true ↔ (a.1 < b.1 ∨ (a.1 = b.1 ∧ a.2 < b.2)) := by unfold lessB; rw [decide_eq_true_iff, cmpId_neg]
theorem less_is (a b : Int × Int) (r : Bool) (h : lessB a b = r) (w : World) : Calls Tryd.prog 36 #[.agg #[.int .i64 a.1, .int .i64 a.2], .agg #[.int .i64 b.1, .int .i64 b.2]] w fun e w' => e = .returned (.bool r) ∧ Below w.heap.size w w' := by
  rw [← h]; exact less_any a b w

/-- How three ids lie to each other. -/
theorem rows (a b c : Int × Int) : (lessB a b = true ∧ lessB b a = false ∧ lessB b c = false) ∨ (lessB a b = true ∧ lessB b a = false ∧ lessB b c = true ∧ lessB a c = true) ∨ (lessB a b = false ∧ lessB b a = true) ∨ (lessB a b = false ∧ lessB b a = false ∧ b = a) := by
  have h1 := lessB_iff a b
  have h2 := lessB_iff b a
  have h3 := lessB_iff b c
  have h4 := lessB_iff a c
  cases e1 : lessB a b <;> cases e2 : lessB b a <;> cases e3 : lessB b c <;> cases e4 : lessB a c <;> simp only [e1, e2, e3, e4, Bool.false_eq_true, false_iff, true_iff] at h1 h2 h3 h4
  all_goals simp
  all_goals first
    | (exfalso; omega)
    | (refine Prod.ext ?_ ?_ <;> omega)

set_option maxRecDepth 100000 in
set_option maxHeartbeats 8000000 in
theorem idRow_walk (w : World) (hpow : Pow10 w) (m : Int) (hm : w.cell? ⟨1, 0, none⟩ = some (.int .i64 m)) (va : Value) (a : Int × Int) (ha : IsId w va a) (vb : Value) (b : Int × Int) (hb : IsId w vb b) (vc : Value) (c : Int × Int) (hc : IsId w vc c) :
    Calls Tryd.prog 9 #[va, vb, vc] w fun e w' => e = .returned (.bool true) ∧ Below w.heap.size w w' := by
  have hrows := rows a b c
  obtain rfl := ha
  obtain rfl := hb
  obtain rfl := hc
  obtain ⟨AB, hAB⟩ : ∃ r, lessB a b = r := ⟨_, rfl⟩
  obtain ⟨BA, hBA⟩ : ∃ r, lessB b a = r := ⟨_, rfl⟩
  obtain ⟨BC, hBC⟩ : ∃ r, lessB b c = r := ⟨_, rfl⟩
  obtain ⟨AC, hAC⟩ : ∃ r, lessB a c = r := ⟨_, rfl⟩
  rw [hAB, hBA, hBC, hAC] at hrows
  have HL := Lib.hid (And.intro (fun W => less_is a b AB hAB W) (And.intro (fun W => less_is b a BA hBA W) (And.intro (fun W => less_is b c BC hBC W) (fun W => less_is a c AC hAC W))))
  have HF := Lib.hid (fun W => less_is (1, 9) (2, 1) true (by decide) W)
  have HP := Lib.hid (And.intro hpow hm)
  have HROW := Lib.hid hrows
  clear hAB hBA hBC hAC hpow hm hrows
  unfold idV
  go_enter Tryd.func9, Tryd.ntmps9
  go_wp2_with fail
  refine (HF.out _).mono ?_
  rintro e w1 ⟨rfl, hb1⟩
  have hB1 : Box3 w a b c w1 := Box3.below ⟨(((Below.refl _ _).alloc (Nat.le_refl _) _).alloc (by simp) _).alloc (by simp; omega) _, ((Blk.new _ _ _).alloc _).alloc _, (Blk.newer _ _ _ (by simp)).alloc _, Blk.newer _ _ _ (by simp)⟩ hb1
  have H1 := Lib.hid hB1
  clear hb1 hB1
  have a0 : w1.cell? ⟨w.heap.size, 0, none⟩ = some (.int .i64 a.1) := H1.out.a.cell 0
  have a1 : w1.cell? ⟨w.heap.size, 1, none⟩ = some (.int .i64 a.2) := H1.out.a.cell 1
  have b0 : w1.cell? ⟨w.heap.size + 1, 0, none⟩ = some (.int .i64 b.1) := H1.out.b.cell 0
  have b1 : w1.cell? ⟨w.heap.size + 1, 1, none⟩ = some (.int .i64 b.2) := H1.out.b.cell 1
  have c0 : w1.cell? ⟨w.heap.size + 1 + 1, 0, none⟩ = some (.int .i64 c.1) := H1.out.c.cell 0
  have c1 : w1.cell? ⟨w.heap.size + 1 + 1, 1, none⟩ = some (.int .i64 c.2) := H1.out.c.cell 1
  go_wp2_with fail
  refine (HL.out.1 _).mono ?_
  clear a0 a1 b0 b1 c0 c1
  rintro e w2 ⟨rfl, hb2⟩
  have H2 := Lib.hid (H1.out.below hb2)
  clear hb2
  have a0 : w2.cell? ⟨w.heap.size, 0, none⟩ = some (.int .i64 a.1) := H2.out.a.cell 0
  have a1 : w2.cell? ⟨w.heap.size, 1, none⟩ = some (.int .i64 a.2) := H2.out.a.cell 1
  have b0 : w2.cell? ⟨w.heap.size + 1, 0, none⟩ = some (.int .i64 b.1) := H2.out.b.cell 0
  have b1 : w2.cell? ⟨w.heap.size + 1, 1, none⟩ = some (.int .i64 b.2) := H2.out.b.cell 1
  have c0 : w2.cell? ⟨w.heap.size + 1 + 1, 0, none⟩ = some (.int .i64 c.1) := H2.out.c.cell 0
  have c1 : w2.cell? ⟨w.heap.size + 1 + 1, 1, none⟩ = some (.int .i64 c.2) := H2.out.c.cell 1
  go_wp2_with fail
  refine (HL.out.2.1 _).mono ?_
  clear a0 a1 b0 b1 c0 c1
  rintro e w3 ⟨rfl, hb3⟩
  have H3 := Lib.hid (H2.out.below hb3)
  clear hb3
  have a0 : w3.cell? ⟨w.heap.size, 0, none⟩ = some (.int .i64 a.1) := H3.out.a.cell 0
  have a1 : w3.cell? ⟨w.heap.size, 1, none⟩ = some (.int .i64 a.2) := H3.out.a.cell 1
  have b0 : w3.cell? ⟨w.heap.size + 1, 0, none⟩ = some (.int .i64 b.1) := H3.out.b.cell 0
  have b1 : w3.cell? ⟨w.heap.size + 1, 1, none⟩ = some (.int .i64 b.2) := H3.out.b.cell 1
  have c0 : w3.cell? ⟨w.heap.size + 1 + 1, 0, none⟩ = some (.int .i64 c.1) := H3.out.c.cell 0
  have c1 : w3.cell? ⟨w.heap.size + 1 + 1, 1, none⟩ = some (.int .i64 c.2) := H3.out.c.cell 1
  go_wp2_with fail
  refine (HL.out.2.2.1 _).mono ?_
  clear a0 a1 b0 b1 c0 c1
  rintro e w4 ⟨rfl, hb4⟩
  have H4 := Lib.hid (H3.out.below hb4)
  clear hb4
  have a0 : w4.cell? ⟨w.heap.size, 0, none⟩ = some (.int .i64 a.1) := H4.out.a.cell 0
  have a1 : w4.cell? ⟨w.heap.size, 1, none⟩ = some (.int .i64 a.2) := H4.out.a.cell 1
  have b0 : w4.cell? ⟨w.heap.size + 1, 0, none⟩ = some (.int .i64 b.1) := H4.out.b.cell 0
  have b1 : w4.cell? ⟨w.heap.size + 1, 1, none⟩ = some (.int .i64 b.2) := H4.out.b.cell 1
  have c0 : w4.cell? ⟨w.heap.size + 1 + 1, 0, none⟩ = some (.int .i64 c.1) := H4.out.c.cell 0
  have c1 : w4.cell? ⟨w.heap.size + 1 + 1, 1, none⟩ = some (.int .i64 c.2) := H4.out.c.cell 1
  go_wp2_with fail
  refine (HL.out.2.2.2 _).mono ?_
  clear a0 a1 b0 b1 c0 c1
  rintro e w5 ⟨rfl, hb5⟩
  have H5 := Lib.hid (H4.out.below hb5)
  clear hb5
  go_upto_region 8 with (fail)
  have a0 : w5.cell? ⟨w.heap.size, 0, none⟩ = some (.int .i64 a.1) := H5.out.a.cell 0
  have a1 : w5.cell? ⟨w.heap.size, 1, none⟩ = some (.int .i64 a.2) := H5.out.a.cell 1
  have b0 : w5.cell? ⟨w.heap.size + 1, 0, none⟩ = some (.int .i64 b.1) := H5.out.b.cell 0
  have b1 : w5.cell? ⟨w.heap.size + 1, 1, none⟩ = some (.int .i64 b.2) := H5.out.b.cell 1
  have c0 : w5.cell? ⟨w.heap.size + 1 + 1, 0, none⟩ = some (.int .i64 c.1) := H5.out.c.cell 0
  have c1 : w5.cell? ⟨w.heap.size + 1 + 1, 1, none⟩ = some (.int .i64 c.2) := H5.out.c.cell 1
  go_cut [59] (fun s59 wx => s59 = .bool false ∧ Box3 w a b c wx)
  case first =>
    rcases HROW.out with ⟨rfl, rfl, rfl⟩ | ⟨rfl, rfl, rfl, rfl⟩ | ⟨rfl, rfl⟩ | ⟨rfl, rfl, e⟩
    case inr.inr.inr =>
      subst e
      go_wp2_with fail
      go_meet
      exact ⟨by rfl, H5.out⟩
    all_goals
      go_wp2_with fail
      go_meet
      exact ⟨by rfl, H5.out⟩
  case rest =>
    obtain ⟨rfl, hBc⟩ := hcut
    clear a0 a1 b0 b1 c0 c1
    have HC := Lib.hid hBc
    have a0 : wc.cell? ⟨w.heap.size, 0, none⟩ = some (.int .i64 a.1) := HC.out.a.cell 0
    have a1 : wc.cell? ⟨w.heap.size, 1, none⟩ = some (.int .i64 a.2) := HC.out.a.cell 1
    clear hBc
    go_wp2_with fail
    refine (idCheck_any a.1 a.2 _).mono ?_
    clear a0 a1
    rintro e w6 ⟨rfl, hb6⟩
    have H6 := Lib.hid (HC.out.below hb6)
    clear hb6
    cases hok : idOk a.1 a.2 with
    | false =>
      rw [errIf_false]
      clear hok
      go_wp2_with fail
      go_ret
      exact ⟨rfl, H6.out.bel⟩
    | true =>
      rw [errIf_true]
      have HN := Lib.hid (fun W (hb : Below w.heap.size w W) => name_ok a m hok W (fun w1 h1 => TabIs_below (g := 2) (by kernel_rfl) HP.out.1 (hb.trans (h1.mono hb.size))))
      have a0 : w6.cell? ⟨w.heap.size, 0, none⟩ = some (.int .i64 a.1) := H6.out.a.cell 0
      have a1 : w6.cell? ⟨w.heap.size, 1, none⟩ = some (.int .i64 a.2) := H6.out.a.cell 1
      clear hok
      go_wp2_with fail
      refine (HN.out _ H6.out.bel).mono ?_
      clear a0 a1
      rintro e w7 ⟨nm, rfl, hparse, hb7⟩
      have H7 := Lib.hid (H6.out.below hb7)
      have HPA := Lib.hid (hparse w7 ((H7.out.bel.cell (p := ⟨1, 0, none⟩) (cell_lt HP.out.2)).trans HP.out.2))
      clear hparse hb7
      go_wp2_with fail
      refine HPA.out.mono ?_
      rintro e w8 ⟨rfl, hb8⟩
      have H8 := Lib.hid (H7.out.below hb8)
      have a0 : w8.cell? ⟨w.heap.size, 0, none⟩ = some (.int .i64 a.1) := H8.out.a.cell 0
      have a1 : w8.cell? ⟨w.heap.size, 1, none⟩ = some (.int .i64 a.2) := H8.out.a.cell 1
      have hlt := H8.out.a.lt
      clear hb8
      go_wp2_with fail
      go_ret
      exact ⟨rfl, H8.out.bel.trans ((Below.refl _ _).alloc H8.out.bel.size _)⟩
end Go.Proofs.YtljemaapicaioaaDoor
