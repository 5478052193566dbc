/- JsonBackWalk, TreeArg. -/
import Derived.Test.YtmkebfclaehneaaDoorBg33
import Derived.Deep.RegionWith
import Derived.Deep.RegionHeld3
import Derived.Deep.DeepCutAuto
import Derived.Test.YtmkebfclaehneaaDoorBg12
import Derived.Deep.SlicePairs
/- booklaw3.JsonBack: the walk. -/
namespace Go.Proofs.YtmkebfclaehneaaDoor
open Go.RowKit
set_option linter.unusedVariables false
set_option linter.unusedSimpArgs false

/-- The boxes. -/
structure BkB (w : World) (T : PT) (v : JV) (W : World) : Prop where
  bel : Below w.heap.size w W
  t : Blk W w.heap.size 29 #[.int .i64 T.val.k, .int .i64 T.val.n, .string T.val.s, .int .i64 T.val.o, .int .i64 T.val.p, .slice T.kA T.keys.length T.kc, .slice T.cA T.kids.length T.cc]
  v : Blk W (w.heap.size + 1) 25 #[.int .i64 v.k, .int .i64 v.n, .string v.s, .int .i64 v.o, .int .i64 v.p]
theorem BkB.below {w W W' : World} {T : PT} {v : JV} (h : BkB w T v W) (hb : Below W.heap.size W W') : BkB w T v W' :=
  ⟨h.bel.trans (hb.mono h.bel.size), h.t.below hb h.t.lt, h.v.below hb h.v.lt⟩
theorem BkB.alloc {w W : World} {T : PT} {v : JV} (h : BkB w T v W) (o : Obj) : BkB w T v (W.alloc o) := h.below ((Below.refl _ _).alloc (Nat.le_refl _) o)
theorem cells5 {w : World} {g : Nat} {t : TypeId} {c0 c1 c2 c3 c4 : Value} (h : Blk w g t #[c0, c1, c2, c3, c4]) : w.cell? ⟨g, 0, none⟩ = some c0 ∧ w.cell? ⟨g, 1, none⟩ = some c1 ∧ w.cell? ⟨g, 2, none⟩ = some c2 ∧ w.cell? ⟨g, 3, none⟩ = some c3 ∧ w.cell? ⟨g, 4, none⟩ = some c4 :=
  ⟨h.cell 0, h.cell 1, h.cell 2, h.cell 3, h.cell 4⟩
/-- What Print answers of the first tree. -/
theorem print_first (T : PT) (w : World) (hT : InJ w T) (hp : Pow10 w) : ∃ (XS : ByteArray) (ev : Value) (b : Bool), ((b = true ∧ checkV T.tree = .nilIface ∧ (⟨T.tree.text.toArray⟩ : ByteArray) = XS) ∨ b = false) ∧
    (∀ w1, (binOp .eql 31 ev .nilIface).run Tryd.prog w1 = .ok (.bool b) w1) ∧ (∀ (x : Operand) w1, (eqGuard .eql 31 x (.const .nilIface) ev .nilIface).run Tryd.prog w1 = .ok () w1) ∧
    ∀ w1, Below w.heap.size w w1 → Calls Tryd.prog 5 #[.agg #[.int .i64 T.val.k, .int .i64 T.val.n, .string T.val.s, .int .i64 T.val.o, .int .i64 T.val.p, .slice T.kA T.keys.length T.kc, .slice T.cA T.kids.length T.cc]] w1 fun e w' => e = .returned (.tuple #[.string XS, ev]) ∧ Below w1.heap.size w1 w' := by
  rcases checkV_cases T.tree with h | ⟨n, h⟩
  · exact ⟨_, .nilIface, true, .inl ⟨rfl, h, rfl⟩, fun w1 => by go_simp, fun x w1 => by simp [eqGuard, go_sem], fun w1 hb => print_ok T w1 (hT.below hb) (hp.below hb) h⟩
  · exact ⟨_, .iface 44 (.int .i64 n), false, .inr rfl, fun w1 => by go_simp, fun x w1 => by simp [eqGuard, go_sem], fun w1 hb => print_no T w1 (hT.below hb) (hp.below hb) n h⟩
set_option maxRecDepth 100000 in
set_option maxHeartbeats 8000000 in
theorem jsonBack_walk (w : World) (hp : Pow10 w) (he : ErrAt w) (T : PT) (hT : InJ w T) (s : ByteArray) (hs : s.size ≤ maxLen) (v : JV) (hv : v.Fit) :
    Calls Tryd.prog 3 #[.agg #[.int .i64 T.val.k, .int .i64 T.val.n, .string T.val.s, .int .i64 T.val.o, .int .i64 T.val.p, .slice T.kA T.keys.length T.kc, .slice T.cA T.kids.length T.cc], .string s, .agg #[.int .i64 v.k, .int .i64 v.n, .string v.s, .int .i64 v.o, .int .i64 v.p]] w fun e w' => e = .returned (.bool true) ∧ Below w.heap.size w w' := by
  obtain ⟨XS, ev, b, hX, hq5, hgq, hPr⟩ := print_first T w hT hp
  have HPR := Lib.hid hPr
  have HX := Lib.hid hX
  have HH := Lib.hid (And.intro hp (And.intro he (And.intro hT (And.intro hs hv))))
  clear hPr hX hp he hT hs hv
  have hB0 : BkB w T v ((w.alloc (.cells #[.int .i64 T.val.k, .int .i64 T.val.n, .string T.val.s, .int .i64 T.val.o, .int .i64 T.val.p, .slice T.kA T.keys.length T.kc, .slice T.cA T.kids.length T.cc] 29)).alloc (.cells #[.int .i64 v.k, .int .i64 v.n, .string v.s, .int .i64 v.o, .int .i64 v.p] 25)) :=
    ⟨((Below.refl _ _).alloc (Nat.le_refl _) _).alloc (by simp) _, (Blk.new w _ _).alloc _, Blk.newer _ _ _ (by simp)⟩
  have HB0 := Lib.hid hB0
  clear hB0
  go_enter Tryd.func3, Tryd.ntmps3
  go_upto_if 42 with (first
    | (go_at_call 4; refine (parse_ok oneS (by decide) oneT one_parse _ (HH.out.1.below HB0.out.bel) (HH.out.2.1.below HB0.out.bel)).mono ?_; rintro e w1 ⟨U, rfl, hU, _, hb1⟩; have hk : U.kids.length = 1 := by { have := congrArg (fun t => t.kids.length) hU; rw [PT.tree_kids, List.length_map] at this; exact this }; rw [hk]; have hB1 := HB0.out.below hb1; obtain ⟨t0, t1, t2, t3, t4, t5, t6, _⟩ := res_cells hB1.t; have ltt := hB1.t.lt; have HB1 := Lib.hid hB1; clear hb1 hU hk hB1)
    | (go_at_call 5; refine (HPR.out _ (HB1.out.alloc _).bel).mono ?_; rintro e w2 ⟨rfl, hb2⟩; have HB2 := Lib.hid ((HB1.out.alloc _).below hb2); clear hb2 t0 t1 t2 t3 t4 t5 t6 ltt))
  clear hq5 hgq
  go_cut [12, 13, 14, 15] from 43 to 62 (fun s12 s13 s14 s15 wx => BkB w T v wx)
  case first =>
    cases b with
    | false =>
      go_wp2_with fail
      go_meet
      exact HB2.out
    | true =>
      obtain ⟨hc, hXS⟩ : checkV T.tree = .nilIface ∧ (⟨T.tree.text.toArray⟩ : ByteArray) = XS := by
        rcases HX.out with ⟨_, h1, h2⟩ | h
        · exact ⟨h1, h2⟩
        · cases h
      by_cases hl : XS.size ≤ 60000
      · have hli : (XS.size : Int) ≤ 60000 := by omega
        have HP := Lib.hid (text_again HH.out.2.2.1 hc XS hXS hl)
        have hm : XS.size ≤ maxLen := by unfold maxLen; omega
        have HM := Lib.hid hm
        clear hm hc hXS hl
        go_wp2_with (first
          | (go_at_call 4; refine (parse_ok XS HM.out T.tree HP.out _ (HH.out.1.below HB2.out.bel) (HH.out.2.1.below HB2.out.bel)).mono ?_; rintro e w3 ⟨U, rfl, hU, hUi, hb3⟩; have hB3 := HB2.out.below hb3; obtain ⟨t0, t1, t2, t3, t4, t5, t6, _⟩ := res_cells hB3.t; have ltt := hB3.t.lt; have HSM := Lib.hid (fun w4 (h4 : Below w3.heap.size w3 w4) => show Calls Tryd.prog 6 #[.agg #[.int .i64 U.val.k, .int .i64 U.val.n, .string U.val.s, .int .i64 U.val.o, .int .i64 U.val.p, .slice U.kA U.keys.length U.kc, .slice U.cA U.kids.length U.cc], .agg #[.int .i64 T.val.k, .int .i64 T.val.n, .string T.val.s, .int .i64 T.val.o, .int .i64 T.val.p, .slice T.kA T.keys.length T.kc, .slice T.cA T.kids.length T.cc]] w4 _ from same_any U T w3 hUi (HH.out.2.2.1.below hB3.bel) hU w4 h4); have HB3 := Lib.hid hB3; clear hU hUi hb3 hB3)
          | (go_at_call 6; refine (HSM.out _ ((Below.refl _ _).alloc (Nat.le_refl _) _)).mono ?_; rintro e w4 ⟨rfl, hb4⟩; have HB4 := Lib.hid ((HB3.out.alloc _).below hb4); clear hb4 t0 t1 t2 t3 t4 t5 t6 ltt))
        go_meet
        exact HB4.out
      · have hli : ¬ (XS.size : Int) ≤ 60000 := by omega
        have hm : XS.size ≤ maxLen := by
          obtain ⟨h1, h2⟩ := checkV_ok hc
          have := JT.text_len T.tree h1 HH.out.2.2.1.num
          rw [← hXS]
          simp only [ByteArray.size, List.size_toArray]
          unfold maxLen
          omega
        have hsv : zV.same T.val = false := by
          cases hz : zV.same T.val with
          | false => rfl
          | true =>
            exfalso
            have e := (JV.same_iff _ _).1 hz
            apply hl
            rw [← hXS, PT.tree_eq, ← e]
            exact Nat.le_trans (Nat.le_of_eq (show (⟨(JT.node zV T.keys (List.map PT.tree T.kids)).text.toArray⟩ : ByteArray).size = 4 from rfl)) (by omega)
        have HP := Lib.hid (show parseF Num (toN XS) = .error (0, 4) from by unfold parseF; rw [toN_len, if_pos (by omega)])
        have HM := Lib.hid hm
        have HSV := Lib.hid hsv
        clear hm hc hXS hl hsv
        go_wp2_with (first
          | (go_at_call 4; refine (parse_err XS HM.out 0 4 HP.out _ (HH.out.1.below HB2.out.bel) (HH.out.2.1.below HB2.out.bel)).mono ?_; rintro e w3 ⟨rfl, hb3⟩; have hB3 := HB2.out.below hb3; obtain ⟨t0, t1, t2, t3, t4, t5, t6, _⟩ := res_cells hB3.t; have ltt := hB3.t.lt; have HB3 := Lib.hid hB3; clear hb3 hB3)
          | (go_at_call 6; refine (same_no T _ HSV.out).mono ?_; rintro e w4 ⟨rfl, hb4⟩; have HB4 := Lib.hid ((HB3.out.alloc _).below hb4); clear hb4 t0 t1 t2 t3 t4 t5 t6 ltt))
        go_meet
        exact HB4.out
  case rest =>
    have HBc := Lib.hid hcut
    obtain ⟨t0, t1, t2, t3, t4, t5, t6, _⟩ := res_cells hcut.t
    obtain ⟨x0, x1, x2, x3, x4⟩ := cells5 hcut.v
    clear hcut
    go_wp2_with (go_at_call 7; refine (paths_ans T v _ (HH.out.2.2.1.below HBc.out.bel) HH.out.2.2.2.2).mono ?_; rintro e w5 ⟨A, c, l, ev2, rfl, hb5, hA5, hP5, hl5, hall⟩; have HB5 := Lib.hid (HBc.out.below hb5); have HA5 := Lib.hid (And.intro hA5 (And.intro hP5 (And.intro hl5 hall))); clear hb5 hA5 hP5 hl5 hall t0 t1 t2 t3 t4 t5 t6 x0 x1 x2 x3 x4)
    go_loopw [17] (fun iv wr => ∃ k : Nat, iv = .int .i64 k ∧ k ≤ l.length ∧ Below w5.heap.size w5 wr) (fun iv _ => l.length - (intOf iv).toNat)
    case atStart => exact ⟨0, rfl, by omega, Below.refl _ _⟩
    case round =>
      obtain ⟨k, rfl, hk, hb⟩ := hrel
      have hkl : l.length ≤ 400 := HA5.out.2.2.1
      by_cases hlt : k < l.length
      · have hlti : (k : Int) < (l.length : Int) := by omega
        obtain ⟨sp, hsp⟩ : ∃ sp, l[k]? = some sp := ⟨_, List.getElem?_eq_getElem hlt⟩
        have hmem := List.mem_of_getElem? hsp
        obtain ⟨hc, rfl, y, hy, hyv⟩ := HA5.out.2.2.2 sp hmem
        obtain ⟨bA, oA, rfl, hcell⟩ := (HA5.out.1.below hb).at_ (j := k) (u := sp.cell) (by rw [List.getElem?_map, hsp]; rfl)
        have hsl := (HA5.out.2.1 sp hmem)
        have hBr := HB5.out.below hb
        have HG := Lib.hid (fun wg (hg : Below wr.heap.size wr wg) => get_ok T sp y wg ((HH.out.2.2.1.below hBr.bel).below hg) ((hsl.1.sl.below hb).below hg) hsl.2 hc hy)
        rw [hyv] at HG
        obtain ⟨t0, t1, t2, t3, t4, t5, t6, _⟩ := res_cells hBr.t
        have hcell' : wr.cell? ⟨bA, oA + k, none⟩ = some (.slice sp.A sp.p.length sp.c) := hcell
        have HBr := Lib.hid hBr
        have HBk := Lib.hid hb
        clear hcell hsl hBr hb hc hy hyv hmem hsp
        go_wp2_with fail
        have HGA := Lib.hid (HG.out wr.drew ⟨rfl, rfl, rfl, Nat.le_refl _, fun _ _ => rfl⟩)
        have HGB := Lib.hid (HG.out (wr.alloc (.cells #[.int .i64 0, .int .i64 0, .string ⟨#[]⟩, .int .i64 0, .int .i64 0, .slice none 0 0, .slice none 0 0] 29)).drew ((Below.refl _ wr).alloc (Nat.le_refl _) _).drew)
        have hlA := cell_lt hcell'
        have hlw := HBr.out.t.lt
        go_region_with (go_at_call 8; first
          | ((with_reducible refine HGA.out.mono ?_); rintro e w6 ⟨G, rfl, hb6⟩; have hb6' : Below wr.heap.size wr w6 := ⟨hb6.os, hb6.tape, hb6.output, hb6.size, hb6.block⟩; have hB6 := HBr.out.below hb6'; obtain ⟨x0, x1, x2, x3, x4⟩ := cells5 hB6.v; have ltv := hB6.v.lt; have HB6 := Lib.hid hb6'; clear hb6 hb6' hB6)
          | ((with_reducible refine HGB.out.mono ?_); rintro e w6 ⟨G, rfl, hb6⟩; have hb6a : Below (wr.alloc (.cells #[.int .i64 0, .int .i64 0, .string ⟨#[]⟩, .int .i64 0, .int .i64 0, .slice none 0 0, .slice none 0 0] 29)).heap.size (wr.alloc (.cells #[.int .i64 0, .int .i64 0, .string ⟨#[]⟩, .int .i64 0, .int .i64 0, .slice none 0 0, .slice none 0 0] 29)) w6 := ⟨hb6.os, hb6.tape, hb6.output, hb6.size, hb6.block⟩; have hb6' : Below wr.heap.size wr w6 := ((Below.refl _ wr).alloc (Nat.le_refl _) _).trans (hb6a.mono (by simp)); have hB6 := HBr.out.below hb6'; obtain ⟨x0, x1, x2, x3, x4⟩ := cells5 hB6.v; have ltv := HBr.out.v.lt; have hz := (Blk.new wr 29 _).below hb6a (by simp); obtain ⟨r0, r1, r2, r3, r4, r5, r6, zr⟩ := res_cells hz; have HB6 := Lib.hid hb6'; clear hb6 hb6' hb6a hz hB6))
        all_goals go_wp2_with fail
        all_goals
          have hbb : Below w5.heap.size w5 w6 := HBk.out.trans (HB6.out.mono HBk.out.size)
          have hsz := HBk.out.size
          refine ⟨⟨k + 1, by go_num, by omega, ?_⟩, by simp [intOf]; omega⟩
          first
            | (with_reducible exact hbb.alloc hbb.size _)
            | exact hbb.trans ((only7 w6 wr.heap.size _ _ _ _ _ _ _ 0 1 2 3 4 5 6).below hbb.size (fun q hq e => by omega))
      · have hki : ¬ (k : Int) < (l.length : Int) := by omega
        have HBr := Lib.hid (HB5.out.below hb)
        clear hb hk hlt
        cases hP : parseF Num (toN s) with
        | error q =>
          obtain ⟨a, x⟩ := q
          have HP := Lib.hid hP
          clear hP
          go_wp2_with (go_at_call 4; refine (parse_err s HH.out.2.2.2.1 a x HP.out _ (HH.out.1.below HBr.out.bel) (HH.out.2.1.below HBr.out.bel)).mono ?_; rintro e w7 ⟨rfl, hb7⟩; have HB7 := Lib.hid (HBr.out.below hb7); clear hb7)
          go_ret
          exact ⟨rfl, (HB7.out.alloc _).bel⟩
        | ok t =>
          have HP := Lib.hid hP
          have HA := Lib.hid (again_text hP)
          clear hP
          go_wp2_with (first
            | (go_at_call 4; refine (parse_ok s HH.out.2.2.2.1 t HP.out _ (HH.out.1.below HBr.out.bel) (HH.out.2.1.below HBr.out.bel)).mono ?_; rintro e w7 ⟨U, rfl, rfl, hUi, hb7⟩; have HB7 := Lib.hid (HBr.out.below hb7); have HU := Lib.hid hUi; clear hb7 hUi)
            | (go_at_call 5; refine (print_ok U _ (HU.out.below ((Below.refl _ _).alloc (Nat.le_refl _) _)) (HH.out.1.below (HB7.out.alloc _).bel) HA.out.1).mono ?_; rw [HA.out.2]; rintro e w8 ⟨rfl, hb8⟩; have HB8 := Lib.hid ((HB7.out.alloc _).below hb8); clear hb8))
          go_ret
          exact ⟨rfl, HB8.out.bel⟩
end Go.Proofs.YtmkebfclaehneaaDoor
/- A tree that came in, opened. -/
namespace Go.Proofs.YtmkebfclaehneaaDoor
open Go.RowKit Go.ChangeShapes Go.WideShapes Go.Deep
set_option linter.unusedVariables false

section
variable {H : Type} {enc : TypeId × Value → H} {W : World} {b0 base : Nat} {spare : Nat → Bool} {held : Bool} {r : Reach} {v : Value} {d : DataW H} {p : List MemPlace}

set_option maxRecDepth 100000 in
theorem open_IsTree (hv : Value.okWide Tryd.prog W r b0 29 v) (h : DataW.Trod enc Tryd.prog W base spare held 29 v d p) : ∃ T, IsTree W v T := by
  obtain ⟨cs, rfl, _⟩ := okWide_struct Tryd.underlying29 hv
  obtain ⟨fuel, hf⟩ := h
  obtain ⟨T, hT, hi⟩ := trod_tree fuel _ _ hf
  refine ⟨T, ?_, hi⟩
  have : cs.toList = T.cells := by simpa [Value.cells] using hT
  show Value.agg cs = .agg T.cells.toArray
  rw [← this]
end
end Go.Proofs.YtmkebfclaehneaaDoor
