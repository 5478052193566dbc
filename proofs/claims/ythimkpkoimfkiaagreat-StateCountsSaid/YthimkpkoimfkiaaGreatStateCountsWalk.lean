/- StateCounts: the walk. -/
import Derived.Test.YthimkpkoimfkiaaGreatScCount
import Derived.Test.YthimkpkoimfkiaaGreatHandGet
import Derived.Test.YthimkpkoimfkiaaGreatIntsOpen
import Derived.BigQuiet
namespace Go.Proofs.YthimkpkoimfkiaaGreat
open Go.RowKit Go.Maps Go.Sort
set_option linter.unusedVariables false
set_option linter.unusedSimpArgs false

theorem noInsC (a : Int) (l m : List Int) (L : List Ch) (hL : ∀ c ∈ L, c = chOne ∨ c ∈ LX l ∨ c ∈ LY m) : (DocV.mk a L [] []).noIns := ⟨fun c hc o ho => by
  have hI : ∀ (k : List Int), o ∈ incs k → o.ins = false := fun k hk => by
    obtain ⟨n, _, rfl⟩ := List.mem_map.1 hk
    rfl
  rcases hL c hc with rfl | h | h
  · have ho : o ∈ [opL, opN] := ho
    rcases List.mem_cons.1 ho with rfl | ho
    · rfl
    · rw [List.mem_singleton] at ho
      subst ho
      rfl
  · by_cases k : l = []
    · subst k; cases h
    · rw [LX_ne k, List.mem_singleton] at h
      subst h
      exact hI l ho
  · by_cases k : m = []
    · subst k; cases h
    · rw [LY_ne k, List.mem_singleton] at h
      subst h
      exact hI m ho, fun o ho => (by cases ho)⟩
theorem incs_noins (l : List Int) : ∀ o ∈ incs l, o.ins = false := fun o ho => by
  obtain ⟨n, _, rfl⟩ := List.mem_map.1 ho
  rfl
theorem c_incX {u : Nat} {W : World} {a b : Nat} {l : List Int} {n : Int} (h : Pair u W a b (hand1 1 (incs l)) (hand1 2 [])) (hl : l.length < 30) (hn : I64 n) : Calls Tryz.prog 11 #[.pointer (some ⟨a, 0, none⟩), .agg #[.int .i64 0, .int .i64 0], .string ⟨#[110]⟩, .int .i64 n] W (PairQ u W a b (hand1 1 (incs (l ++ [n]))) (hand1 2 []) VNil) :=
  h.step (fun K hK => hand_inc hK (noIns1 1 _ (incs_noins l)) (key1_le _) hn (count_inc 1 n l hl))
theorem c_incY {u : Nat} {W : World} {a b : Nat} {D : DocV} {l : List Int} {n : Int} (h : Pair u W a b D (hand1 2 (incs l))) (hl : l.length < 30) (hn : I64 n) : Calls Tryz.prog 11 #[.pointer (some ⟨b, 0, none⟩), .agg #[.int .i64 0, .int .i64 0], .string ⟨#[110]⟩, .int .i64 n] W (PairQ u W a b D (hand1 2 (incs (l ++ [n]))) VNil) :=
  h.stepS (fun K hK => hand_inc hK (noIns1 2 _ (incs_noins l)) (key1_le _) hn (count_inc 2 n l hl))
theorem c_comX {u : Nat} {W : World} {a b : Nat} {D : DocV} {l : List Int} (h : Pair u W a b (hand1 1 (incs l)) D) (hl : l.length ≤ 30) : Calls Tryz.prog 7 #[.pointer (some ⟨a, 0, none⟩)] W (PairQ u W a b ⟨1, [chOne] ++ LX l, [], []⟩ D VRefE) :=
  h.step (fun K hK => hand_commitE hK (count_commitX l hl))
theorem c_comY {u : Nat} {W : World} {a b : Nat} {D : DocV} {l : List Int} (h : Pair u W a b D (hand1 2 (incs l))) (hl : l.length ≤ 30) : Calls Tryz.prog 7 #[.pointer (some ⟨b, 0, none⟩)] W (PairQ u W a b D ⟨2, [chOne] ++ LY l, [], []⟩ VRefE) :=
  h.stepS (fun K hK => hand_commitE hK (count_commitY l hl))
theorem c_merX {u : Nat} {W : World} {a b : Nat} {l m : List Int} (h : Pair u W a b ⟨1, [chOne] ++ LX l, [], []⟩ ⟨2, [chOne] ++ LY m, [], []⟩) (hm : m.length ≤ 30) : Calls Tryz.prog 8 #[.pointer (some ⟨a, 0, none⟩), .pointer (some ⟨b, 0, none⟩)] W (PairQ u W a b ⟨1, [chOne] ++ LX l ++ LY m, [], []⟩ ⟨2, [chOne] ++ LY m, [], []⟩ VNum) :=
  h.step2 (fun K K2 hK hK2 => hand_merge hK hK2 rfl rfl (count_mergeX l m hm))
theorem c_merY {u : Nat} {W : World} {a b : Nat} {l m : List Int} (h : Pair u W a b ⟨1, [chOne] ++ LX l ++ LY m, [], []⟩ ⟨2, [chOne] ++ LY m, [], []⟩) (hl : l.length ≤ 30) : Calls Tryz.prog 8 #[.pointer (some ⟨b, 0, none⟩), .pointer (some ⟨a, 0, none⟩)] W (PairQ u W a b ⟨1, [chOne] ++ LX l ++ LY m, [], []⟩ ⟨2, [chOne] ++ LY m ++ LX l, [], []⟩ VNum) :=
  h.step2S (fun K K2 hK hK2 => hand_merge hK hK2 rfl rfl (count_mergeY l m hl))
theorem c_getX {u : Nat} {W : World} {a b : Nat} {D : DocV} {l m : List Int} (h : Pair u W a b ⟨1, [chOne] ++ LX l ++ LY m, [], []⟩ D) : Calls Tryz.prog 9 #[.pointer (some ⟨a, 0, none⟩), .agg #[.int .i64 0, .int .i64 0], .string ⟨#[110]⟩] W (GotQ W (vmN (sumW (sumW 0 l) m)) [(2, 1)]) :=
  h.get (fun K hK => hand_get hK (noInsC 1 l m _ (fun c hc => by simpa [or_assoc] using hc)) (key1_le _) (all_LXY l m) (countS_keyed (countS_all 1 l m)) (countS_all 1 l m).1 (ids_N _))
theorem c_getY {u : Nat} {W : World} {a b : Nat} {D : DocV} {l m : List Int} (h : Pair u W a b D ⟨2, [chOne] ++ LY m ++ LX l, [], []⟩) : Calls Tryz.prog 9 #[.pointer (some ⟨b, 0, none⟩), .agg #[.int .i64 0, .int .i64 0], .string ⟨#[110]⟩] W (GotQ W (vmN (sumW (sumW 0 l) m)) [(2, 1)]) :=
  h.swap.get (fun K hK => hand_get hK (noInsC 2 l m _ (fun c hc => by
    rcases List.mem_append.1 hc with hc | hc
    · rcases List.mem_append.1 hc with hc | hc
      · rw [List.mem_singleton] at hc; exact .inl hc
      · exact .inr (.inr hc)
    · exact .inr (.inl hc))) (key1_le _) (all_LYX l m) (countS_keyed (countS_all 2 l m)) (countS_all 2 l m).1 (ids_N _))
theorem sumW_snoc (t : Int) (l : List Int) (n : Int) : sumW t (l ++ [n]) = addW (sumW t l) n := by
  unfold sumW
  rw [List.foldl_append]
  rfl
theorem below_c {B : Nat} {w w' : World} (h : Below B w w') (n : Nat) : Below B w (w'.drewN n) := ⟨h.os, h.tape, h.output, h.size, h.block⟩
theorem addW_eq (t n : Int) : addW t n = wrap64 (t + n) := by unfold addW wrap64; exact IntKind.wrap_i64 _
theorem SlAt.at_b {w : World} {A : Option Addr} {cells : List Value} (h : SlAt w A cells) {j : Nat} {u : Value} (hj : cells[j]? = some u) :
    ∃ b off, A = some ⟨b, off, none⟩ ∧ ∀ w', Below w.heap.size w w' → w'.cell? ⟨b, off + j, none⟩ = some u := by
  obtain ⟨b, off, e, _⟩ := h.at_ hj
  refine ⟨b, off, e, fun w' hb => ?_⟩
  obtain ⟨b', off', e', h'⟩ := (h.below hb).at_ hj
  rw [e] at e'
  injection e' with e'
  injection e' with e1 e2
  subst e1 e2
  exact h'
set_option maxRecDepth 100000 in
set_option maxHeartbeats 4000000 in
theorem stateCounts_walk (w : World) (v0 : Value) (xs : List Int) (hv0 : IsInts w v0 xs) (v1 : Value) (ys : List Int) (hv1 : IsInts w v1 ys) :
    Calls Tryz.prog 4 #[v0, v1] w fun e w' => e = .returned (.bool true) ∧ Below w.heap.size w w' := by
  obtain ⟨A, ca, rfl, hA, hIx, hlx⟩ := hv0
  obtain ⟨B, cb, rfl, hB, hIy, hly⟩ := hv1
  have hmx : xs.length ≤ 9223372036854775807 := Nat.le_trans hlx (by decide)
  have hmy : ys.length ≤ 9223372036854775807 := Nat.le_trans hly (by decide)
  have HX := Lib.hid (And.intro hA (And.intro hIx (And.intro hB hIy)))
  clear hA hIx hB hIy hlx hly
  go_enter Tryz.func4, Tryz.ntmps4
  go_upto_region 2 with (go_at_call 5; (with_reducible refine (two_any w).mono ?_); (rintro e w1 ⟨Ka, Kb, a, b, rfl, hT, hb1, hlow⟩); (have H1 := Lib.hid (And.intro (show Pair w.heap.size w1 a b (hand1 1 []) (hand1 2 []) from ⟨Ka, Kb, hT, hlow, hb1.size⟩) hb1)); clear hT hb1 hlow)
  obtain ⟨W1, hW1⟩ : ∃ W1, W1 = w1.alloc (.cells #[.int .i64 1, .int .i64 1] 24) := ⟨_, rfl⟩
  rw [← hW1]
  have hbl1 : Below w1.heap.size w1 W1 := by rw [hW1]; exact (Below.refl _ _).alloc (Nat.le_refl _) _
  have HP1 := Lib.hid (And.intro (H1.out.1.below hbl1) (H1.out.2.trans (hbl1.mono H1.out.2.size)))
  clear hW1 hbl1
  go_upto_block 0 with (fail)
  go_cut [10, 9, 11] from 30 to 54 (fun _ s9 _ wx => ∃ k : Nat, k ≤ 30 ∧ s9 = .int .i64 (sumW 0 (xs.take k)) ∧ Pair w.heap.size wx a b (hand1 1 (incs (xs.take k))) (hand1 2 []) ∧ Below w.heap.size w wx)
  case first =>
    go_wp2_with fail
    go_loopw [10, 9, 11] (fun iv sv _ wr => ∃ k : Nat, iv = .int .i64 k ∧ k ≤ xs.length ∧ k ≤ 30 ∧ sv = .int .i64 (sumW 0 (xs.take k)) ∧ Pair w.heap.size wr a b (hand1 1 (incs (xs.take k))) (hand1 2 []) ∧ Below w.heap.size w wr) (fun iv _ _ _ => 30 - (intOf iv).toNat)
    case atStart => exact ⟨0, rfl, Nat.zero_le _, Nat.zero_le _, rfl, HP1.out.1, HP1.out.2⟩
    case round =>
      obtain ⟨k, rfl, hk, hk30, rfl, hP, hb⟩ := hrel
      have HP := Lib.hid (And.intro hP hb)
      clear hP hb
      by_cases hc : k < xs.length ∧ k < 30
      · obtain ⟨hc1, hc2⟩ := hc
        have hx := List.getElem?_eq_getElem hc1
        have ht : xs.take (k + 1) = xs.take k ++ [xs[k]] := List.take_succ_eq_append_getElem hc1
        have hi := HX.out.2.1 _ (List.getElem_mem hc1)
        generalize xs[k] = x at hx ht hi
        obtain ⟨ab, ao, hae, hac⟩ := HX.out.1.at_b (j := k) (u := .int .i64 x) (by simp [ints, hx])
        have x0 : wr.cell? ⟨ab, ao + k, none⟩ = some (.int .i64 x) := hac wr HP.out.2
        have HQ := Lib.hid (And.intro ht hac)
        have g1 : decide (k < xs.length) = true := decide_eq_true hc1
        have g2 : decide ((k : Int) < 30) = true := decide_eq_true (by omega)
        have hl : (xs.take k).length < 30 := by rw [List.length_take]; omega
        have HC := Lib.hid (c_incX HP.out.1 hl hi)
        have HAA := Lib.hid hae
        clear hac hx ht hi
        rw [hae]
        clear hae
        go_upto_region 9 with (go_at_call 11; (with_reducible refine HC.out.mono ?_); (rintro e w2 ⟨v2, rfl, rfl, hP, hb⟩); (have HP2 := Lib.hid (And.intro hP (HP.out.2.trans hb))); clear hP hb)
        have x1 : w2.cell? ⟨ab, ao + k, none⟩ = some (.int .i64 x) := HQ.out.2 w2 HP2.out.2
        clear x0
        go_wp2_with fail
        refine ⟨⟨k + 1, by push_cast; rfl, by omega, by omega, ?_, ?_, HP2.out.2⟩, by simp [intOf]; omega⟩
        · rw [HQ.out.1, sumW_snoc, addW_eq]
        · rw [HQ.out.1]
          exact HP2.out.1
      · go_wp2_with fail
        all_goals
          go_meet
          exact ⟨k, hk30, rfl, HP.out.1, HP.out.2⟩
  case rest =>
  obtain ⟨kx, hkx, rfl, hP, hb⟩ := hcut
  have HP2 := Lib.hid (And.intro hP hb)
  clear hP hb
  have hlx : (xs.take kx).length ≤ 30 := by rw [List.length_take]; omega
  go_upto_block 2 with (fail)
  go_cut [12, 9, 13] from 55 to 79 (fun _ s9 _ wx => ∃ k : Nat, k ≤ 30 ∧ s9 = .int .i64 (sumW (sumW 0 (xs.take kx)) (ys.take k)) ∧ Pair w.heap.size wx a b (hand1 1 (incs (xs.take kx))) (hand1 2 (incs (ys.take k))) ∧ Below w.heap.size w wx)
  case first =>
    go_wp2_with fail
    go_loopw [12, 9, 13] (fun iv sv _ wr => ∃ k : Nat, iv = .int .i64 k ∧ k ≤ ys.length ∧ k ≤ 30 ∧ sv = .int .i64 (sumW (sumW 0 (xs.take kx)) (ys.take k)) ∧ Pair w.heap.size wr a b (hand1 1 (incs (xs.take kx))) (hand1 2 (incs (ys.take k))) ∧ Below w.heap.size w wr) (fun iv _ _ _ => 30 - (intOf iv).toNat)
    case atStart => exact ⟨0, rfl, Nat.zero_le _, Nat.zero_le _, rfl, HP2.out.1, HP2.out.2⟩
    case round =>
      obtain ⟨k, rfl, hk, hk30, rfl, hP, hb⟩ := hrel
      have HP := Lib.hid (And.intro hP hb)
      clear hP hb
      by_cases hc : k < ys.length ∧ k < 30
      · obtain ⟨hc1, hc2⟩ := hc
        have hx := List.getElem?_eq_getElem hc1
        have ht : ys.take (k + 1) = ys.take k ++ [ys[k]] := List.take_succ_eq_append_getElem hc1
        have hi := HX.out.2.2.2 _ (List.getElem_mem hc1)
        generalize ys[k] = x at hx ht hi
        obtain ⟨ab, ao, hae, hac⟩ := HX.out.2.2.1.at_b (j := k) (u := .int .i64 x) (by simp [ints, hx])
        have x0 : wr.cell? ⟨ab, ao + k, none⟩ = some (.int .i64 x) := hac wr HP.out.2
        have HQ := Lib.hid (And.intro ht hac)
        have g1 : decide (k < ys.length) = true := decide_eq_true hc1
        have g2 : decide ((k : Int) < 30) = true := decide_eq_true (by omega)
        have hl : (ys.take k).length < 30 := by rw [List.length_take]; omega
        have HC := Lib.hid (c_incY HP.out.1 hl hi)
        have HAA := Lib.hid hae
        clear hac hx ht hi
        rw [hae]
        clear hae
        go_upto_region 16 with (go_at_call 11; (with_reducible refine HC.out.mono ?_); (rintro e w2 ⟨v2, rfl, rfl, hP, hb⟩); (have HP2 := Lib.hid (And.intro hP (HP.out.2.trans hb))); clear hP hb)
        have x1 : w2.cell? ⟨ab, ao + k, none⟩ = some (.int .i64 x) := HQ.out.2 w2 HP2.out.2
        clear x0
        go_wp2_with fail
        refine ⟨⟨k + 1, by push_cast; rfl, by omega, by omega, ?_, ?_, HP2.out.2⟩, by simp [intOf]; omega⟩
        · rw [HQ.out.1, sumW_snoc, addW_eq]
        · rw [HQ.out.1]
          exact HP2.out.1
      · go_wp2_with fail
        all_goals
          go_meet
          exact ⟨k, hk30, rfl, HP.out.1, HP.out.2⟩
  case rest =>
  obtain ⟨ky, hky, rfl, hP, hb⟩ := hcut
  have HP3 := Lib.hid (And.intro hP hb)
  clear hP hb
  have hly : (ys.take ky).length ≤ 30 := by rw [List.length_take]; omega
  go_upto_region 20 with (go_at_call 7; (with_reducible refine (c_comX HP3.out.1 hlx).mono ?_); (rintro e w4 ⟨v4, ⟨ra, rb, rc, rfl⟩, rfl, hP, hb⟩); (have HP4 := Lib.hid (And.intro hP (HP3.out.2.trans hb))); clear hP hb)
  go_upto_region 21 with (go_at_call 7; (with_reducible refine (c_comY HP4.out.1 hly).mono ?_); (rintro e w5 ⟨v5, ⟨sa, sb, sc, rfl⟩, rfl, hP, hb⟩); (have HP5 := Lib.hid (And.intro hP (HP4.out.2.trans hb))); clear hP hb)
  go_upto_region 22 with (go_at_call 8; (with_reducible refine (c_merX HP5.out.1 hly).mono ?_); (rintro e w6 ⟨v6, ⟨n6, rfl⟩, rfl, hP, hb⟩); (have HP6 := Lib.hid (And.intro hP (HP5.out.2.trans hb))); clear hP hb)
  go_upto_region 23 with (go_at_call 8; (with_reducible refine (c_merY HP6.out.1 hlx).mono ?_); (rintro e w7 ⟨v7, ⟨n7, rfl⟩, rfl, hP, hb⟩); (have HP7 := Lib.hid (And.intro hP (HP6.out.2.trans hb))); clear hP hb)
  go_upto_region 24 with (go_at_call 9; (with_reducible refine (c_getX HP7.out.1).mono ?_); (rintro e w8 ⟨A8, c8, rfl, hs, hb⟩); (have HP8 := Lib.hid (And.intro (HP7.out.1.below hb) (And.intro (HP7.out.2.trans (hb.mono HP7.out.2.size)) hs))); clear hs hb)
  go_upto_region 25 with (go_at_call 9; (with_reducible refine (c_getY HP8.out.1).mono ?_); (rintro e w9 ⟨A9, c9, rfl, hs, hb⟩); (have HP9 := Lib.hid (And.intro (HP8.out.2.1.trans (hb.mono HP8.out.2.1.size)) (And.intro (HP8.out.2.2.below hb) hs))); clear hs hb)
  obtain ⟨b8, o8, ha8, hc8⟩ := HP9.out.2.1.valc (i := 0) (n := (2, 1)) rfl
  obtain ⟨b9, o9, ha9, hc9⟩ := HP9.out.2.2.valc (i := 0) (n := (2, 1)) rfl
  obtain ⟨T, hT⟩ : ∃ T, T = sumW (sumW 0 (List.take kx xs)) (List.take ky ys) := ⟨_, rfl⟩
  rw [← hT] at hc8 hc9 ⊢
  have ev : (vmN T (2, 1)).getD zJV = jc T := by rw [show vmN T (2, 1) = some (jc T) from upd_same _ _ _]; rfl
  rw [ev] at hc8 hc9
  have k0 : w9.cell? ⟨b8, o8, none⟩ = some (.int .i64 4) := by simpa using hc8 0 (.int .i64 4) rfl
  have k1 : w9.cell? ⟨b8, o8 + 1, none⟩ = some (.int .i64 T) := by simpa using hc8 1 (.int .i64 T) rfl
  have k2 : w9.cell? ⟨b8, o8 + 2, none⟩ = some (.string ⟨#[]⟩) := by simpa using hc8 2 (.string ⟨#[]⟩) rfl
  have k3 : w9.cell? ⟨b8, o8 + 3, none⟩ = some (.int .i64 0) := by simpa using hc8 3 (.int .i64 0) rfl
  have k4 : w9.cell? ⟨b8, o8 + 4, none⟩ = some (.int .i64 0) := by simpa using hc8 4 (.int .i64 0) rfl
  have j0 : w9.cell? ⟨b9, o9, none⟩ = some (.int .i64 4) := by simpa using hc9 0 (.int .i64 4) rfl
  have j1 : w9.cell? ⟨b9, o9 + 1, none⟩ = some (.int .i64 T) := by simpa using hc9 1 (.int .i64 T) rfl
  have j2 : w9.cell? ⟨b9, o9 + 2, none⟩ = some (.string ⟨#[]⟩) := by simpa using hc9 2 (.string ⟨#[]⟩) rfl
  have j3 : w9.cell? ⟨b9, o9 + 3, none⟩ = some (.int .i64 0) := by simpa using hc9 3 (.int .i64 0) rfl
  have j4 : w9.cell? ⟨b9, o9 + 4, none⟩ = some (.int .i64 0) := by simpa using hc9 4 (.int .i64 0) rfl
  clear hc8 hc9
  rw [ha8, ha9]
  clear ha8 ha9 hT
  go_quiet (fail)
  go_wp2_with fail
  go_ret
  exact ⟨rfl, below_c HP9.out.1 _⟩
end Go.Proofs.YthimkpkoimfkiaaGreat
