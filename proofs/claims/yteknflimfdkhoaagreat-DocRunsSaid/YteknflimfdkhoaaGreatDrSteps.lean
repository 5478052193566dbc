/- The steps of two hands that write one thing behind the other. -/
import Derived.Test.YteknflimfdkhoaaGreatDg41
import Derived.Test.YteknflimfdkhoaaGreatDg42
import Derived.Test.YteknflimfdkhoaaGreatDg46
namespace Go.Proofs.YteknflimfdkhoaaGreat
open Go.RowKit Go.Maps Go.Sort
set_option linter.unusedVariables false
set_option linter.unusedSimpArgs false

theorem hasV_mv {s : Sta} {n : Int × Int} {v : JV} (hn : I2 n) (h : s.mv (wE n) = upd (fun _ => none) n (some v)) : HasV s (1, 1) n := by
  unfold Sta.mv at h
  cases e : s.vals (wE n) with
  | none =>
    rw [e] at h
    have := congrFun h n
    rw [upd_same] at this
    cases this
  | some f =>
    rw [e] at h
    exact ⟨f, n, v, e, hn, by have := congrFun h n; rw [upd_same] at this; exact this⟩
theorem seqE_mem (A : Int) : ∀ (m i : Nat) (n : Int × Int), n ∈ seqE A i m → ∃ j, i ≤ j ∧ j < i + m ∧ n = (3 + (j : Int), A)
  | 0, i, n, h => by cases h
  | m + 1, i, n, h => by
    rcases List.mem_cons.1 h with h | h
    · exact ⟨i, Nat.le_refl _, by omega, h⟩
    · obtain ⟨j, h1, h2, h3⟩ := seqE_mem A m (i + 1) n h
      exact ⟨j, by omega, by omega, h3⟩
theorem i2_run (A : Int) (hA : A = 1 ∨ A = 2) (j : Nat) (hj : j ≤ 100) : I2 (3 + (j : Int), A) := by
  refine ⟨⟨?_, ?_⟩, ?_⟩
  · show (-9223372036854775808 : Int) ≤ 3 + (j : Int); omega
  · show 3 + (j : Int) ≤ 9223372036854775807; omega
  · rcases hA with rfl | rfl
    · exact i64_k.2.2
    · exact i64_k.1
theorem list_two {s : Sta} {x y : Nat} (h : RunS s x y) (hx : x ≤ 30) (hy : y ≤ 30) : ListIs s (1, 1) (seqE 2 0 y ++ seqE 1 0 x) := by
  obtain ⟨h1, h2⟩ := elems_two h
  refine ⟨⟨y + x + 1, by omega, h2, h1⟩, h.kind, fun n hn => ?_⟩
  rcases List.mem_append.1 hn with hn | hn
  · obtain ⟨j, _, hj, rfl⟩ := seqE_mem 2 y 0 n hn
    exact hasV_mv (i2_run 2 (.inr rfl) j (by omega)) (h.b.m j (by omega))
  · obtain ⟨j, _, hj, rfl⟩ := seqE_mem 1 x 0 n hn
    exact hasV_mv (i2_run 1 (.inl rfl) j (by omega)) (h.a.m j (by omega))
theorem hand_state (A : Int) (hA : A = 1 ∨ A = 2) (p : List OpV) : (hand1 A p).state = doOps (doChs stNew [chOne]) A 3 p := by
  unfold DocV.state DocV.start
  rw [hand1_all]
  rcases hA with rfl | rfl
  · rfl
  · rfl
theorem list_X (k : Nat) (hk : k ≤ 30) : ListIs (hand1 1 (runL 1 1 0 k)).state (1, 1) (seqE 1 0 k) := by
  rw [hand_state 1 (.inl rfl)]
  exact list_two (runS_X runS_one k) hk (Nat.zero_le _)
theorem list_Y (k : Nat) (hk : k ≤ 30) : ListIs (hand1 2 (runL 2 2 0 k)).state (1, 1) (seqE 2 0 k) := by
  rw [hand_state 2 (.inr rfl)]
  have := list_two (runS_Y runS_one k) (Nat.zero_le _) hk
  rw [show seqE 1 0 0 = [] from rfl, List.append_nil] at this
  exact this
theorem add_run (A v : Int) (hA : A = 1 ∨ A = 2) (k : Nat) (hk : k < 30) : (addV (hand1 A (runL A v 0 k)) (insOp A v k) (fun _ => none) []).1 = 0 ∧ (addV (hand1 A (runL A v 0 k)) (insOp A v k) (fun _ => none) []).2.2 = runL A v 0 (k + 1) := by
  have hs : (hand1 A (runL A v 0 k)).start.1 = 3 := by
    unfold DocV.start
    rw [hand1_all]
    rcases hA with rfl | rfl <;> kernel_rfl
  have hp : (hand1 A (runL A v 0 k)).pend = runL A v 0 k := rfl
  have hc : ¬ (40 ≤ (hand1 A (runL A v 0 k)).pend.length ∨ 12 < ([] : List (Int × Int)).length ∨ 1000000 < (hand1 A (runL A v 0 k)).start.1 + (hand1 A (runL A v 0 k)).pend.length ∨ 120 ≤ (hand1 A (runL A v 0 k)).L.length + (hand1 A (runL A v 0 k)).W.length) := by
    rw [hs, hp, runL_len]
    have hL : (hand1 A (runL A v 0 k)).L.length + (hand1 A (runL A v 0 k)).W.length = 1 := rfl
    rw [hL]
    rintro (h | h | h | h)
    · omega
    · exact absurd h (by decide)
    · omega
    · omega
  have e : addV (hand1 A (runL A v 0 k)) (insOp A v k) (fun _ => none) [] = (0, ((hand1 A (runL A v 0 k)).start.1 + (hand1 A (runL A v 0 k)).pend.length, A), runL A v 0 k ++ [{ insOp A v k with preds := sortC cmpId [] }]) := by
    unfold addV
    simp only
    rw [if_neg (fun h => absurd (show (1 : Int) = 3 from h.1) (by decide)), if_neg (fun h => absurd (show (1 : Int) = 4 from h.1) (by decide)), if_neg hc]
    rfl
  rw [e, sortI_nil, runL_snoc, Nat.zero_add]
  exact ⟨rfl, rfl⟩
theorem hand_insert {w : World} {K : Nat → Prop} {db : Nat} {A v : Int} {k : Nat} (hA : A = 1 ∨ A = 2) (H : DocA w K db (hand1 A (runL A v 0 k))) (hk : k < 30) (hv : (jI v).Fit) (hp : plainE (jI v) = 0) (hl : ListIs (hand1 A (runL A v 0 k)).state (1, 1) (seqE A 0 k)) :
    Calls Tryz.prog 5 #[.pointer (some ⟨db, 0, none⟩), .agg #[.int .i64 1, .int .i64 1], .int .i64 (k : Int), .agg #[.int .i64 2, .int .i64 v, .string ⟨#[]⟩, .int .i64 0, .int .i64 0]] w (HandQ w K db (hand1 A (runL A v 0 (k + 1))) VNil) := by
  have hel : I2 (insOp A v k).elem := by
    by_cases h0 : k = 0
    · subst h0; rw [elem_zero]; exact ⟨i64_0, i64_0⟩
    · rw [elem_ne A v h0]
      have := i2_run A hA (k - 1) (by omega)
      rwa [show (3 : Int) + ((k - 1 : Nat) : Int) = 2 + k by omega] at this
  have he : (k = 0 ∧ (insOp A v k).elem = (0, 0)) ∨ ∃ j, k = j + 1 ∧ (seqE A 0 k)[j]? = some (insOp A v k).elem := by
    by_cases h0 : k = 0
    · subst h0; exact .inl ⟨rfl, rfl⟩
    · refine .inr ⟨k - 1, by omega, ?_⟩
      rw [seqE_get A k 0 (k - 1) (by omega), elem_ne A v h0, show (3 : Int) + ((0 + (k - 1) : Nat) : Int) = 2 + k by omega]
  have h := docInsert_ok K db k (hand1 A (runL A v 0 k)) (1, 1) (insOp A v k).elem (jI v) (seqE A 0 k) w H ⟨⟨by decide, by decide⟩, ⟨by decide, by decide⟩⟩ hel hv hp hl (by rw [seqE_len]; exact Nat.le_refl _) (by rw [seqE_len]; omega) he
  refine h.mono ?_
  rintro e w' ⟨rfl, hD, ho⟩
  obtain ⟨e1, e2⟩ := add_run A v hA k hk
  have e0 : insO (1, 1) (insOp A v k).elem (jI v) = insOp A v k := rfl
  rw [e0] at hD ⊢
  rw [e1]
  rw [e2] at hD
  exact ⟨_, rfl, rfl, hD, ho⟩
theorem jI_fit (v : Int) (h : I64 v) : (jI v).Fit := ⟨i64_k.1, h, Nat.zero_le _, i64_0, i64_0⟩
/-- Two hands in memory from z on, and a box beside them. -/
def PairL (z : Nat) (w : World) (a b : Nat) (Da Db : DocV) (lb : Nat) : Prop := ∃ Ka Kb, Two w Ka Kb a b Da Db ∧ (∀ i, Ka i ∨ Kb i → z ≤ i) ∧ z ≤ w.heap.size ∧ (¬ Ka lb ∧ ¬ Kb lb) ∧ Blk w lb 24 #[.int .i64 1, .int .i64 1]
def PairLQ (z : Nat) (w : World) (a b : Nat) (Da Db : DocV) (lb : Nat) (V : Value → Prop) (e : Ending) (w' : World) : Prop := ∃ v, V v ∧ e = .returned v ∧ PairL z w' a b Da Db lb ∧ Below z w w'
theorem PairL.swap {z : Nat} {w : World} {a b lb : Nat} {Da Db : DocV} (h : PairL z w a b Da Db lb) : PairL z w b a Db Da lb := by
  obtain ⟨Ka, Kb, h1, h2, h3, h4, h5⟩ := h
  exact ⟨Kb, Ka, h1.swap, fun i hi => h2 i hi.symm, h3, h4.symm, h5⟩
theorem PairL.below {z : Nat} {w w' : World} {a b lb : Nat} {Da Db : DocV} (h : PairL z w a b Da Db lb) (hb : Below w.heap.size w w') : PairL z w' a b Da Db lb := by
  obtain ⟨Ka, Kb, h1, h2, h3, h4, h5⟩ := h
  exact ⟨_, _, h1.below hb, fun i hi => h2 i (hi.imp And.left And.left), Nat.le_trans h3 hb.size, ⟨fun k => h4.1 k.1, fun k => h4.2 k.1⟩, h5.below hb h5.lt⟩
theorem PairL.low {z : Nat} {w : World} {a b lb : Nat} {Da Db : DocV} (h : PairL z w a b Da Db lb) : z ≤ w.heap.size := by
  obtain ⟨Ka, Kb, h1, h2, h3, _⟩ := h
  exact h3
theorem PairL.box {z : Nat} {w : World} {a b lb : Nat} {Da Db : DocV} (h : PairL z w a b Da Db lb) : Blk w lb 24 #[.int .i64 1, .int .i64 1] := by
  obtain ⟨Ka, Kb, h1, h2, h3, h4, h5⟩ := h
  exact h5
theorem PairL.step {z : Nat} {w : World} {a b lb : Nat} {Da Db D' : DocV} {V : Value → Prop} (h : PairL z w a b Da Db lb) {F : FuncId} {args : Array Value} (hc : ∀ K, DocA w K a Da → Calls Tryz.prog F args w (HandQ w K a D' V)) : Calls Tryz.prog F args w (PairLQ z w a b D' Db lb V) := by
  obtain ⟨Ka, Kb, h1, h2, h3, h4, h5⟩ := h
  refine (hc Ka h1.fst).mono ?_
  rintro e w' ⟨v, hv, rfl, hD, ho⟩
  refine ⟨v, hv, rfl, ⟨_, _, h1.step hD ho, fun i hi => ?_, Nat.le_trans h3 ho.size, ⟨fun hk => ?_, fun hk => h4.2 hk.1⟩, h5.only ho h4.1⟩, ho.below h3 (fun k hk e => by have := h2 k (.inl e); omega)⟩
  · rcases hi with (hi | hi) | hi
    · exact h2 i (.inl hi)
    · omega
    · exact h2 i (.inr hi.1)
  · rcases hk with hk | hk
    · exact h4.1 hk
    · have := h5.lt; omega
theorem PairL.step2 {z : Nat} {w : World} {a b lb : Nat} {Da Db D' : DocV} {V : Value → Prop} (h : PairL z w a b Da Db lb) {F : FuncId} {args : Array Value} (hc : ∀ K K2, DocA w K a Da → DocA w K2 b Db → Calls Tryz.prog F args w (HandQ w K a D' V)) : Calls Tryz.prog F args w (PairLQ z w a b D' Db lb V) := by
  obtain ⟨Ka, Kb, h1, _⟩ := id h
  exact h.step (fun K hK => hc K Kb hK h1.snd)
theorem PairL.stepS {z : Nat} {w : World} {a b lb : Nat} {Da Db D' : DocV} {V : Value → Prop} (h : PairL z w a b Da Db lb) {F : FuncId} {args : Array Value} (hc : ∀ K, DocA w K b Db → Calls Tryz.prog F args w (HandQ w K b D' V)) : Calls Tryz.prog F args w (PairLQ z w a b Da D' lb V) :=
  (h.swap.step hc).mono (fun e w' ⟨v, h1, h2, h3, h4⟩ => ⟨v, h1, h2, h3.swap, h4⟩)
theorem r_insX {u : Nat} {W : World} {a b lb : Nat} {D : DocV} {k : Nat} (h : PairL u W a b (hand1 1 (runL 1 1 0 k)) D lb) (hk : k < 30) : Calls Tryz.prog 5 #[.pointer (some ⟨a, 0, none⟩), .agg #[.int .i64 1, .int .i64 1], .int .i64 (k : Int), .agg #[.int .i64 2, .int .i64 1, .string ⟨#[]⟩, .int .i64 0, .int .i64 0]] W (PairLQ u W a b (hand1 1 (runL 1 1 0 (k + 1))) D lb VNil) :=
  h.step (fun K hK => hand_insert (.inl rfl) hK hk (jI_fit 1 ⟨by decide, by decide⟩) (by kernel_rfl) (list_X k (by omega)))
theorem r_insY {u : Nat} {W : World} {a b lb : Nat} {D : DocV} {k : Nat} (h : PairL u W a b D (hand1 2 (runL 2 2 0 k)) lb) (hk : k < 30) : Calls Tryz.prog 5 #[.pointer (some ⟨b, 0, none⟩), .agg #[.int .i64 1, .int .i64 1], .int .i64 (k : Int), .agg #[.int .i64 2, .int .i64 2, .string ⟨#[]⟩, .int .i64 0, .int .i64 0]] W (PairLQ u W a b D (hand1 2 (runL 2 2 0 (k + 1))) lb VNil) :=
  h.stepS (fun K hK => hand_insert (.inr rfl) hK hk (jI_fit 2 ⟨by decide, by decide⟩) (by kernel_rfl) (list_Y k (by omega)))
theorem r_comX {u : Nat} {W : World} {a b lb : Nat} {D : DocV} {x : Nat} (h : PairL u W a b (hand1 1 (runL 1 1 0 x)) D lb) (hx : x ≤ 30) : Calls Tryz.prog 6 #[.pointer (some ⟨a, 0, none⟩)] W (PairLQ u W a b ⟨1, [chOne] ++ LiX x, [], []⟩ D lb VRefE) :=
  h.step (fun K hK => hand_commitE hK (runs_commitX x hx))
theorem r_comY {u : Nat} {W : World} {a b lb : Nat} {D : DocV} {y : Nat} (h : PairL u W a b D (hand1 2 (runL 2 2 0 y)) lb) (hy : y ≤ 30) : Calls Tryz.prog 6 #[.pointer (some ⟨b, 0, none⟩)] W (PairLQ u W a b D ⟨2, [chOne] ++ LiY y, [], []⟩ lb VRefE) :=
  h.stepS (fun K hK => hand_commitE hK (runs_commitY y hy))
theorem r_mer {u : Nat} {W : World} {a b lb : Nat} {x y : Nat} (h : PairL u W a b ⟨1, [chOne] ++ LiX x, [], []⟩ ⟨2, [chOne] ++ LiY y, [], []⟩ lb) (hy : y ≤ 30) : Calls Tryz.prog 7 #[.pointer (some ⟨a, 0, none⟩), .pointer (some ⟨b, 0, none⟩)] W (PairLQ u W a b ⟨1, [chOne] ++ LiX x ++ LiY y, [], []⟩ ⟨2, [chOne] ++ LiY y, [], []⟩ lb VNum) :=
  h.step2 (fun K K2 hK hK2 => hand_merge hK hK2 rfl rfl (runs_mergeX x y hy))
theorem merged_run (x y : Nat) : RunS (DocV.mk 1 ([chOne] ++ LiX x ++ LiY y) [] []).state x y := by
  have h : (DocV.mk 1 ([chOne] ++ LiX x ++ LiY y) [] []).state = doChs stNew ([chOne] ++ LiX x ++ LiY y) := by
    unfold DocV.state
    show doChs stNew (allV ([chOne] ++ LiX x ++ LiY y)) = _
    rw [ai_XY]
  rw [h]
  exact runS_LXY x y
/-- The number that stands at an index. -/
def numAt (y i : Nat) : Int := if i < y then 2 else 1
theorem r_len {u : Nat} {W : World} {a b lb : Nat} {x y : Nat} {D : DocV} (h : PairL u W a b ⟨1, [chOne] ++ LiX x ++ LiY y, [], []⟩ D lb) (hx : x ≤ 30) (hy : y ≤ 30) : Calls Tryz.prog 8 #[.pointer (some ⟨a, 0, none⟩), .agg #[.int .i64 1, .int .i64 1]] W fun e w' => e = .returned (.tuple #[.int .i64 ((y + x : Nat) : Int), .nilIface]) ∧ Below W.heap.size W w' := by
  obtain ⟨Ka, Kb, h1, _⟩ := id h
  have hl := list_two (merged_run x y) hx hy
  have := docLen_ok Ka a _ (1, 1) _ W h1.fst ⟨⟨by decide, by decide⟩, ⟨by decide, by decide⟩⟩ hl
  rw [List.length_append, seqE_len, seqE_len] at this
  exact this
theorem r_at {u : Nat} {W : World} {a b lb : Nat} {x y i : Nat} {D : DocV} (h : PairL u W a b ⟨1, [chOne] ++ LiX x ++ LiY y, [], []⟩ D lb) (hx : x ≤ 30) (hy : y ≤ 30) (hi : i < y + x) : Calls Tryz.prog 9 #[.pointer (some ⟨a, 0, none⟩), .agg #[.int .i64 1, .int .i64 1], .int .i64 (i : Int)] W fun e w' => Below W.heap.size W w' ∧ ∃ (g off c : Nat), e = .returned (.tuple #[.slice (some ⟨g, off, none⟩) 1 c, .nilIface]) ∧ w'.cell? ⟨g, off + 1, none⟩ = some (.int .i64 (numAt y i)) := by
  obtain ⟨Ka, Kb, h1, _⟩ := id h
  have hr := merged_run x y
  have hl := list_two hr hx hy
  have key : ∀ (A v : Int) (j : Nat), (A = 1 ∨ A = 2) → j ≤ 30 → (seqE 2 0 y ++ seqE 1 0 x)[i]? = some (3 + (j : Int), A) → (DocV.mk 1 ([chOne] ++ LiX x ++ LiY y) [] []).state.mv (wE (3 + (j : Int), A)) = upd (fun _ => none) (3 + (j : Int), A) (some (jI v)) → numAt y i = v → Calls Tryz.prog 9 #[.pointer (some ⟨a, 0, none⟩), .agg #[.int .i64 1, .int .i64 1], .int .i64 (i : Int)] W fun e w' => Below W.heap.size W w' ∧ ∃ (g off c : Nat), e = .returned (.tuple #[.slice (some ⟨g, off, none⟩) 1 c, .nilIface]) ∧ w'.cell? ⟨g, off + 1, none⟩ = some (.int .i64 (numAt y i)) := fun A v j hA hj hg hm hn => by
    refine (docAt_ok Ka a i _ (1, 1) (3 + (j : Int), A) _ W h1.fst ⟨⟨by decide, by decide⟩, ⟨by decide, by decide⟩⟩ hl hg).mono ?_
    rintro e w' ⟨hb, ids, B, c, h2, rfl, h3⟩
    refine ⟨hb, ?_⟩
    have hm' : (DocV.mk 1 ([chOne] ++ LiX x ++ LiY y) [] []).state.mv ((1, 1), ⟨#[]⟩, (3 + (j : Int), A)) = upd (fun _ => none) (3 + (j : Int), A) (some (jI v)) := hm
    rw [hm'] at h2 h3
    obtain rfl := idsOf_one h2 (i2_run A hA j (by omega))
    obtain ⟨g, off, hg, hc⟩ := h3.valc (i := 0) (n := (3 + (j : Int), A)) rfl
    refine ⟨g, off, c, by rw [hg]; rfl, ?_⟩
    have ev : ((upd (fun _ => none) (3 + (j : Int), A) (some (jI v)) : Vm) (3 + (j : Int), A)).getD zJV = jI v := by rw [upd_same]; rfl
    rw [ev] at hc
    have := hc 1 (.int .i64 v) rfl
    rw [hn]
    simpa using this
  by_cases hiy : i < y
  · exact key 2 2 i (.inr rfl) (by omega) (by rw [List.getElem?_append_left (by rw [seqE_len]; exact hiy), seqE_get 2 y 0 i hiy, Nat.zero_add]) (hr.b.m i hiy) (by unfold numAt; rw [if_pos hiy])
  · exact key 1 1 (i - y) (.inl rfl) (by omega) (by rw [List.getElem?_append_right (by rw [seqE_len]; omega), seqE_len, seqE_get 1 x 0 (i - y) (by omega), Nat.zero_add]) (hr.a.m (i - y) (by omega)) (by unfold numAt; rw [if_neg hiy])
end Go.Proofs.YteknflimfdkhoaaGreat
