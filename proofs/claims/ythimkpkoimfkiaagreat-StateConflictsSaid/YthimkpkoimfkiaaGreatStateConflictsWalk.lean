/- StateConflicts: the walk. -/
import Derived.Test.YthimkpkoimfkiaaGreatScConf
import Derived.Test.YthimkpkoimfkiaaGreatCg41
namespace Go.Proofs.YthimkpkoimfkiaaGreat
open Go.RowKit Go.Maps Go.Sort
set_option linter.unusedVariables false
set_option linter.unusedSimpArgs false

/-- What Get answers, when all is known. -/
def GotQ (w : World) (f : Vm) (l : List (Int × Int)) (e : Ending) (w' : World) : Prop := ∃ (A : Option Addr) (c : Nat), e = .returned (.tuple #[.slice A l.length c, .nilIface]) ∧ SlAt w' A (valsCells f l) ∧ Below w.heap.size w w'
theorem hand_get {w : World} {K : Nat → Prop} {db : Nat} {D : DocV} {key : ByteArray} {al : List Ch} {f : Vm} {l : List (Int × Int)} (H : DocA w K db D) (hni : D.noIns) (hks : key.size ≤ maxLen) (hal : D.all = al) (hE : keyedE (doOps (doChs stNew al) D.actor (startV D.actor al).1 D.pend) (0, 0) key = 0)
    (hf : (doOps (doChs stNew al) D.actor (startV D.actor al).1 D.pend).mv ((0, 0), key, (0, 0)) = f) (hl : ∀ ids, IdsOf f ids → ids = l) :
    Calls Tryz.prog 9 #[.pointer (some ⟨db, 0, none⟩), .agg #[.int .i64 0, .int .i64 0], .string key] w (GotQ w f l) := by
  have hs : D.state = doOps (doChs stNew al) D.actor (startV D.actor al).1 D.pend := by
    unfold DocV.state DocV.start
    rw [hal]
  refine (docGet_any K db D (0, 0) key w H hni i2_00 hks).mono ?_
  rintro e w' ⟨hb, h⟩
  rw [hs, hE, if_neg (by simp)] at h
  obtain ⟨ids, A, c, h1, rfl, h2⟩ := h
  rw [hf] at h1 h2
  have := hl ids h1
  subst this
  exact ⟨A, c, rfl, h2, hb⟩
theorem Pair.get {z : Nat} {w : World} {a b : Nat} {Da Db : DocV} (h : Pair z w a b Da Db) {F : FuncId} {args : Array Value} {Q : Ending → World → Prop} (hc : ∀ K, DocA w K a Da → Calls Tryz.prog F args w Q) : Calls Tryz.prog F args w Q := by
  obtain ⟨Ka, Kb, h1, h2, h3⟩ := h
  exact hc Ka h1.fst
theorem noIns_of (a : Int) (L : List Ch) (l : List OpV) (hL : ∀ c ∈ L, c = chOne ∨ (∃ x, c = chA x) ∨ (∃ x, c = chB x) ∨ ∃ x, c = chC x) (hl : ∀ o ∈ l, o.ins = false) : (DocV.mk a L [] l).noIns := ⟨fun c hc o ho => by
  rcases hL c hc with rfl | ⟨x, rfl⟩ | ⟨x, rfl⟩ | ⟨x, rfl⟩
  · have ho : o ∈ [opL, opN] := ho
    rcases List.mem_cons.1 ho with rfl | ho
    · rfl
    · rw [List.mem_singleton] at ho
      subst ho
      rfl
  · have ho : o ∈ [opK x] := ho
    rw [List.mem_singleton] at ho
    subst ho
    rfl
  · have ho : o ∈ [opK x] := ho
    rw [List.mem_singleton] at ho
    subst ho
    rfl
  · have ho : o ∈ [opZ x] := ho
    rw [List.mem_singleton] at ho
    subst ho
    rfl, hl⟩
theorem jn_fit {x : Int} (h : I64 x) : (jn x).Fit := ⟨i64_k.1, h, Nat.zero_le _, i64_0, i64_0⟩
theorem s_putA {u : Nat} {W : World} {a b : Nat} {x : Int} (h : Pair u W a b (hand1 1 []) (hand1 2 [])) (hx : I64 x) : Calls Tryz.prog 6 #[.pointer (some ⟨a, 0, none⟩), .agg #[.int .i64 0, .int .i64 0], .string ⟨#[107]⟩, .agg #[.int .i64 2, .int .i64 x, .string ⟨#[]⟩, .int .i64 0, .int .i64 0]] W (PairQ u W a b (hand1 1 [opK x]) (hand1 2 []) VNil) :=
  h.step (fun K hK => hand_put (v := jn x) hK (noIns1 1 [] (fun o ho => (by cases ho))) (key1_le _) (jn_fit hx) (conf_put 1 x))
theorem s_putB {u : Nat} {W : World} {a b : Nat} {x y : Int} (h : Pair u W a b (hand1 1 [opK x]) (hand1 2 [])) (hy : I64 y) : Calls Tryz.prog 6 #[.pointer (some ⟨b, 0, none⟩), .agg #[.int .i64 0, .int .i64 0], .string ⟨#[107]⟩, .agg #[.int .i64 2, .int .i64 y, .string ⟨#[]⟩, .int .i64 0, .int .i64 0]] W (PairQ u W a b (hand1 1 [opK x]) (hand1 2 [opK y]) VNil) :=
  h.stepS (fun K hK => hand_put (v := jn y) hK (noIns1 2 [] (fun o ho => (by cases ho))) (key1_le _) (jn_fit hy) (conf_put 2 y))
theorem s_comA {u : Nat} {W : World} {a b : Nat} {x y : Int} (h : Pair u W a b (hand1 1 [opK x]) (hand1 2 [opK y])) : Calls Tryz.prog 7 #[.pointer (some ⟨a, 0, none⟩)] W (PairQ u W a b ⟨1, [chOne, chA x], [], []⟩ (hand1 2 [opK y]) VRef) :=
  h.step (fun K hK => hand_commit hK (conf_commitA x))
theorem s_comB {u : Nat} {W : World} {a b : Nat} {x y : Int} (h : Pair u W a b ⟨1, [chOne, chA x], [], []⟩ (hand1 2 [opK y])) : Calls Tryz.prog 7 #[.pointer (some ⟨b, 0, none⟩)] W (PairQ u W a b ⟨1, [chOne, chA x], [], []⟩ ⟨2, [chOne, chB y], [], []⟩ VRef) :=
  h.stepS (fun K hK => hand_commit hK (conf_commitB y))
theorem s_merA {u : Nat} {W : World} {a b : Nat} {x y : Int} (h : Pair u W a b ⟨1, [chOne, chA x], [], []⟩ ⟨2, [chOne, chB y], [], []⟩) : Calls Tryz.prog 8 #[.pointer (some ⟨a, 0, none⟩), .pointer (some ⟨b, 0, none⟩)] W (PairQ u W a b ⟨1, [chOne, chA x, chB y], [], []⟩ ⟨2, [chOne, chB y], [], []⟩ VNum) :=
  h.step2 (fun K K2 hK hK2 => hand_merge hK hK2 rfl rfl (conf_mergeA x y))
theorem s_merB {u : Nat} {W : World} {a b : Nat} {x y : Int} (h : Pair u W a b ⟨1, [chOne, chA x, chB y], [], []⟩ ⟨2, [chOne, chB y], [], []⟩) : Calls Tryz.prog 8 #[.pointer (some ⟨b, 0, none⟩), .pointer (some ⟨a, 0, none⟩)] W (PairQ u W a b ⟨1, [chOne, chA x, chB y], [], []⟩ ⟨2, [chOne, chB y, chA x], [], []⟩ VNum) :=
  h.step2S (fun K K2 hK hK2 => hand_merge hK hK2 rfl rfl (conf_mergeB x y))
theorem s_getA {u : Nat} {W : World} {a b : Nat} {x y : Int} (h : Pair u W a b ⟨1, [chOne, chA x, chB y], [], []⟩ ⟨2, [chOne, chB y, chA x], [], []⟩) : Calls Tryz.prog 9 #[.pointer (some ⟨a, 0, none⟩), .agg #[.int .i64 0, .int .i64 0], .string ⟨#[107]⟩] W (GotQ W (vmAB x y) [(3, 2), (3, 1)]) :=
  h.get (fun K hK => hand_get hK (noIns_of 1 _ [] (fun c hc => by simp only [List.mem_cons, List.not_mem_nil, or_false] at hc; rcases hc with rfl | rfl | rfl <;> first | exact .inl rfl | exact .inr (.inl ⟨_, rfl⟩) | exact .inr (.inr (.inl ⟨_, rfl⟩)) | exact .inr (.inr (.inr ⟨_, rfl⟩))) (fun o ho => (by cases ho))) (key1_le _) (all_AB x y) (by kernel_rfl) (mv_AB 1 x y) (ids_AB x y))
theorem s_getB {u : Nat} {W : World} {a b : Nat} {x y : Int} (h : Pair u W a b ⟨1, [chOne, chA x, chB y], [], []⟩ ⟨2, [chOne, chB y, chA x], [], []⟩) : Calls Tryz.prog 9 #[.pointer (some ⟨b, 0, none⟩), .agg #[.int .i64 0, .int .i64 0], .string ⟨#[107]⟩] W (GotQ W (vmAB x y) [(3, 2), (3, 1)]) :=
  h.swap.get (fun K hK => hand_get hK (noIns_of 2 _ [] (fun c hc => by simp only [List.mem_cons, List.not_mem_nil, or_false] at hc; rcases hc with rfl | rfl | rfl <;> first | exact .inl rfl | exact .inr (.inl ⟨_, rfl⟩) | exact .inr (.inr (.inl ⟨_, rfl⟩)) | exact .inr (.inr (.inr ⟨_, rfl⟩))) (fun o ho => (by cases ho))) (key1_le _) (all_BA x y) (by kernel_rfl) (mv_AB 2 x y) (ids_AB x y))
theorem s_putC {u : Nat} {W : World} {a b : Nat} {x y z : Int} (h : Pair u W a b ⟨1, [chOne, chA x, chB y], [], []⟩ ⟨2, [chOne, chB y, chA x], [], []⟩) (hz : I64 z) : Calls Tryz.prog 6 #[.pointer (some ⟨a, 0, none⟩), .agg #[.int .i64 0, .int .i64 0], .string ⟨#[107]⟩, .agg #[.int .i64 2, .int .i64 z, .string ⟨#[]⟩, .int .i64 0, .int .i64 0]] W (PairQ u W a b ⟨1, [chOne, chA x, chB y], [], [opZ z]⟩ ⟨2, [chOne, chB y, chA x], [], []⟩ VNil) :=
  h.step (fun K hK => hand_put (v := jn z) hK (noIns_of 1 _ [] (fun c hc => by simp only [List.mem_cons, List.not_mem_nil, or_false] at hc; rcases hc with rfl | rfl | rfl <;> first | exact .inl rfl | exact .inr (.inl ⟨_, rfl⟩) | exact .inr (.inr (.inl ⟨_, rfl⟩)) | exact .inr (.inr (.inr ⟨_, rfl⟩))) (fun o ho => (by cases ho))) (key1_le _) (jn_fit hz) (conf_putC x y z))
theorem s_comC {u : Nat} {W : World} {a b : Nat} {x y z : Int} (h : Pair u W a b ⟨1, [chOne, chA x, chB y], [], [opZ z]⟩ ⟨2, [chOne, chB y, chA x], [], []⟩) : Calls Tryz.prog 7 #[.pointer (some ⟨a, 0, none⟩)] W (PairQ u W a b ⟨1, [chOne, chA x, chB y, chC z], [], []⟩ ⟨2, [chOne, chB y, chA x], [], []⟩ VRef) :=
  h.step (fun K hK => hand_commit hK (conf_commitC x y z))
theorem s_merC {u : Nat} {W : World} {a b : Nat} {x y z : Int} (h : Pair u W a b ⟨1, [chOne, chA x, chB y, chC z], [], []⟩ ⟨2, [chOne, chB y, chA x], [], []⟩) : Calls Tryz.prog 8 #[.pointer (some ⟨b, 0, none⟩), .pointer (some ⟨a, 0, none⟩)] W (PairQ u W a b ⟨1, [chOne, chA x, chB y, chC z], [], []⟩ ⟨2, [chOne, chB y, chA x, chC z], [], []⟩ VNum) :=
  h.step2S (fun K K2 hK hK2 => hand_merge hK hK2 rfl rfl (conf_mergeC x y z))
theorem s_getC {u : Nat} {W : World} {a b : Nat} {x y z : Int} (h : Pair u W a b ⟨1, [chOne, chA x, chB y, chC z], [], []⟩ ⟨2, [chOne, chB y, chA x, chC z], [], []⟩) : Calls Tryz.prog 9 #[.pointer (some ⟨b, 0, none⟩), .agg #[.int .i64 0, .int .i64 0], .string ⟨#[107]⟩] W (GotQ W (vmC x y z) [(4, 1)]) :=
  h.swap.get (fun K hK => hand_get hK (noIns_of 2 _ [] (fun c hc => by simp only [List.mem_cons, List.not_mem_nil, or_false] at hc; rcases hc with rfl | rfl | rfl | rfl <;> first | exact .inl rfl | exact .inr (.inl ⟨_, rfl⟩) | exact .inr (.inr (.inl ⟨_, rfl⟩)) | exact .inr (.inr (.inr ⟨_, rfl⟩))) (fun o ho => (by cases ho))) (key1_le _) (all_BAC x y z) (by kernel_rfl) (mv_C 2 x y z) (ids_C x y z))
set_option maxRecDepth 100000 in
set_option maxHeartbeats 4000000 in
theorem stateConflicts_walk (w : World) (x : Int) (hx : I64 x) (y : Int) (hy : I64 y) (z : Int) (hz : I64 z) :
    Calls Tryz.prog 3 #[.int .i64 x, .int .i64 y, .int .i64 z] w fun e w' => e = .returned (.bool true) ∧ Below w.heap.size w w' := by
  have HX := Lib.hid (And.intro hx (And.intro hy hz))
  clear hx hy hz
  go_enter Tryz.func3, Tryz.ntmps3
  go_upto_region 2 with (go_at_call 5; (with_reducible refine (two_any w).mono ?_); (rintro e w1 ⟨Ka, Kb, a, b, rfl, hT, hb1, hlow⟩); (have H1 := Lib.hid (And.intro (show Pair w.heap.size w1 a b (hand1 1 []) (hand1 2 []) from ⟨Ka, Kb, hT, hlow, hb1.size⟩) hb1)); clear hT hb1 hlow)
  obtain ⟨W1, hW1⟩ : ∃ W1, W1 = w1.alloc (.cells #[.int .i64 1, .int .i64 1] 24) := ⟨_, rfl⟩
  rw [← hW1]
  have hbl1 : Below w1.heap.size w1 W1 := by rw [hW1]; exact (Below.refl _ _).alloc (Nat.le_refl _) _
  have HP1 := Lib.hid (And.intro (H1.out.1.below hbl1) (H1.out.2.trans (hbl1.mono H1.out.2.size)))
  clear hW1 hbl1
  go_upto_region 5 with (go_at_call 6; (with_reducible refine (s_putA HP1.out.1 HX.out.1).mono ?_); (rintro e w2 ⟨v2, rfl, rfl, hP, hb⟩); (have HP2 := Lib.hid (And.intro hP (HP1.out.2.trans hb))); clear hP hb)
  go_upto_region 6 with (go_at_call 6; (with_reducible refine (s_putB HP2.out.1 HX.out.2.1).mono ?_); (rintro e w3 ⟨v3, rfl, rfl, hP, hb⟩); (have HP3 := Lib.hid (And.intro hP (HP2.out.2.trans hb))); clear hP hb)
  go_upto_region 7 with (go_at_call 7; (with_reducible refine (s_comA HP3.out.1).mono ?_); (rintro e w4 ⟨v4, ⟨r1, r2, rfl⟩, rfl, hP, hb⟩); (have HP4 := Lib.hid (And.intro hP (HP3.out.2.trans hb))); clear hP hb)
  go_upto_region 8 with (go_at_call 7; (with_reducible refine (s_comB HP4.out.1).mono ?_); (rintro e w5 ⟨v5, ⟨r3, r4, rfl⟩, rfl, hP, hb⟩); (have HP5 := Lib.hid (And.intro hP (HP4.out.2.trans hb))); clear hP hb)
  go_upto_region 9 with (go_at_call 8; (with_reducible refine (s_merA HP5.out.1).mono ?_); (rintro e w6 ⟨v6, ⟨n6, rfl⟩, rfl, hP, hb⟩); (have HP6 := Lib.hid (And.intro hP (HP5.out.2.trans hb))); clear hP hb)
  go_upto_region 10 with (go_at_call 8; (with_reducible refine (s_merB HP6.out.1).mono ?_); (rintro e w7 ⟨v7, ⟨n7, rfl⟩, rfl, hP, hb⟩); (have HP7 := Lib.hid (And.intro hP (HP6.out.2.trans hb))); clear hP hb)
  go_upto_region 13 with (go_at_call 9; (with_reducible refine (s_getA HP7.out.1).mono ?_); (rintro e w8 ⟨A8, c8, rfl, hs, hb⟩); (have HP8 := Lib.hid (And.intro (HP7.out.1.below hb) (And.intro (HP7.out.2.trans (hb.mono HP7.out.2.size)) hs))); clear hs hb)
  go_upto_region 14 with (go_at_call 9; (with_reducible refine (s_getB HP8.out.1).mono ?_); (rintro e w9 ⟨A9, c9, rfl, hs, hb⟩); (have HP9 := Lib.hid (And.intro (HP8.out.1.below hb) (And.intro (HP8.out.2.1.trans (hb.mono HP8.out.2.1.size)) (And.intro (HP8.out.2.2.below hb) hs)))); clear hs hb)
  have HVE := Lib.hid (show Calls Tryz.prog 10 #[.slice A8 2 c8, .slice A9 2 c9] w9 fun e w' => e = .returned (.bool true) ∧ Below w9.heap.size w9 w' from valuesEq_any (vmAB x y) [(3, 2), (3, 1)] A8 A9 c8 c9 w9 HP9.out.2.2.1 HP9.out.2.2.2 (by decide))
  go_upto_region 15 with (go_at_call 10; (with_reducible refine HVE.out.mono ?_); (rintro e w10 ⟨rfl, hb⟩); (have HP10 := Lib.hid (And.intro (HP9.out.1.below hb) (And.intro (HP9.out.2.1.trans (hb.mono HP9.out.2.1.size)) (HP9.out.2.2.1.below hb)))); clear hb)
  obtain ⟨b8, o8, ha8, hc8⟩ := HP10.out.2.2.valc (i := 0) (n := (3, 2)) rfl
  obtain ⟨b8', o8', ha8', hc8'⟩ := HP10.out.2.2.valc (i := 1) (n := (3, 1)) rfl
  rw [ha8] at ha8'
  injection ha8' with ha8'
  injection ha8' with e1 e2
  subst e1 e2
  have k0 : w10.cell? ⟨b8, o8 + 0 * 5 + 1, none⟩ = some (.int .i64 y) := hc8 1 _ rfl
  have k1 : w10.cell? ⟨b8, o8 + 1 * 5 + 1, none⟩ = some (.int .i64 x) := hc8' 1 _ rfl
  have k0 : w10.cell? ⟨b8, o8 + 1, none⟩ = some (.int .i64 y) := by simpa using k0
  have k1 : w10.cell? ⟨b8, o8 + 5 + 1, none⟩ = some (.int .i64 x) := by simpa using k1
  have HAA := Lib.hid ha8
  rw [ha8]
  clear ha8 hc8 hc8'
  go_upto_region 17 with (fail)
  clear k0 k1
  go_upto_region 18 with (go_at_call 6; (with_reducible refine (s_putC HP10.out.1 HX.out.2.2).mono ?_); (rintro e w11 ⟨v11, rfl, rfl, hP, hb⟩); (have HP11 := Lib.hid (And.intro hP (HP10.out.2.1.trans hb))); clear hP hb)
  go_upto_region 19 with (go_at_call 7; (with_reducible refine (s_comC HP11.out.1).mono ?_); (rintro e w12 ⟨v12, ⟨r5, r6, rfl⟩, rfl, hP, hb⟩); (have HP12 := Lib.hid (And.intro hP (HP11.out.2.trans hb))); clear hP hb)
  go_upto_region 20 with (go_at_call 8; (with_reducible refine (s_merC HP12.out.1).mono ?_); (rintro e w13 ⟨v13, ⟨n13, rfl⟩, rfl, hP, hb⟩); (have HP13 := Lib.hid (And.intro hP (HP12.out.2.trans hb))); clear hP hb)
  go_upto_region 21 with (go_at_call 9; (with_reducible refine (s_getC HP13.out.1).mono ?_); (rintro e w14 ⟨A14, c14, rfl, hs, hb⟩); (have HP14 := Lib.hid (And.intro (HP13.out.2.trans (hb.mono HP13.out.2.size)) hs)); clear hs hb)
  obtain ⟨b14, o14, ha14, hc14⟩ := HP14.out.2.valc (i := 0) (n := (4, 1)) rfl
  have k2 : w14.cell? ⟨b14, o14 + 0 * 5 + 1, none⟩ = some (.int .i64 z) := hc14 1 _ rfl
  have k2 : w14.cell? ⟨b14, o14 + 1, none⟩ = some (.int .i64 z) := by simpa using k2
  rw [ha14]
  clear ha14 hc14
  go_wp2_with fail
  go_ret
  exact ⟨rfl, HP14.out.1⟩
end Go.Proofs.YthimkpkoimfkiaaGreat
