/- booklaw6.two: the walk. Two hands that share nothing: their steps. -/
import Derived.Test.YthimkpkoimfkiaaGreatCg39
namespace Go.Proofs.YthimkpkoimfkiaaGreat
open Go.RowKit Go.Maps Go.Sort
set_option linter.unusedVariables false
set_option linter.unusedSimpArgs false

/-- A hand's step: what it answers, and what the hand is then. -/
def StepQ (w : World) (K : Nat → Prop) (db : Nat) (D : DocV) (v : Value) (e : Ending) (w' : World) : Prop := e = .returned v ∧ DocA w' (fun i => K i ∨ w.heap.size ≤ i) db D ∧ Only K w w'
theorem i2_00 : I2 (0, 0) := ⟨⟨by decide, by decide⟩, ⟨by decide, by decide⟩⟩
theorem noIns0 (l : List OpV) (h : ∀ o ∈ l, o.ins = false) : (hand0 l).noIns := ⟨fun c hc => (by cases hc), h⟩
theorem noIns1 (a : Int) (l : List OpV) (h : ∀ o ∈ l, o.ins = false) : (hand1 a l).noIns := ⟨fun c hc o ho => by
  have hc : c ∈ [chOne] := hc
  rw [List.mem_singleton] at hc
  subst hc
  have ho : o ∈ [opL, opN] := ho
  rcases List.mem_cons.1 ho with rfl | ho
  · rfl
  · rw [List.mem_singleton] at ho
    subst ho
    rfl, h⟩
theorem key1_le (k : UInt8) : (⟨#[k]⟩ : ByteArray).size ≤ maxLen := by
  show 1 ≤ maxLen
  unfold maxLen
  omega
theorem step_make (K : Nat → Prop) (db : Nat) (w : World) (H : DocA w K db (hand0 [])) : Calls Tryz.prog 13 #[.pointer (some ⟨db, 0, none⟩), .agg #[.int .i64 0, .int .i64 0], .string ⟨#[108]⟩, .int .i64 6] w (StepQ w K db (hand0 [opL]) (.tuple #[.agg #[.int .i64 1, .int .i64 1], .nilIface])) := by
  refine (docMake_any K db (hand0 []) (0, 0) ⟨#[108]⟩ 6 w H (noIns0 [] (fun o ho => (by cases ho))) i2_00 (key1_le _) ⟨by decide, by decide⟩).mono ?_
  rintro e w' ⟨r, hr, rfl, hD, ho⟩
  have := hand0_make hr
  subst this
  exact ⟨rfl, hD, ho⟩
theorem step_putN (K : Nat → Prop) (db : Nat) (w : World) (H : DocA w K db (hand0 [opL])) : Calls Tryz.prog 6 #[.pointer (some ⟨db, 0, none⟩), .agg #[.int .i64 0, .int .i64 0], .string ⟨#[110]⟩, .agg #[.int .i64 4, .int .i64 0, .string ⟨#[]⟩, .int .i64 0, .int .i64 0]] w (StepQ w K db (hand0 [opL, opN]) .nilIface) := by
  refine (docPut_any K db (hand0 [opL]) (0, 0) ⟨#[110]⟩ ⟨4, 0, ⟨#[]⟩, 0, 0⟩ w H (noIns0 [opL] (fun o ho => by rw [List.mem_singleton] at ho; subst ho; rfl)) i2_00 (key1_le _) ⟨i64_k.2.1, i64_0, Nat.zero_le _, i64_0, i64_0⟩).mono ?_
  rintro e w' ⟨r, hr, rfl, hD, ho⟩
  have := hand0_put hr
  subst this
  exact ⟨rfl, hD, ho⟩
/-- Commit, with whatever ref. -/
def ComQ (w : World) (K : Nat → Prop) (db : Nat) (D : DocV) (e : Ending) (w' : World) : Prop := ∃ r1 r2 : Int, e = .returned (.tuple #[.agg #[.int .i64 r1, .int .i64 r2], .nilIface]) ∧ DocA w' (fun i => K i ∨ w.heap.size ≤ i) db D ∧ Only K w w'
theorem step_commit0 (K : Nat → Prop) (db : Nat) (w : World) (H : DocA w K db (hand0 [opL, opN])) : Calls Tryz.prog 7 #[.pointer (some ⟨db, 0, none⟩)] w (ComQ w K db (hand1 1 [])) := by
  refine (docCommit_any K db (hand0 [opL, opN]) w H).mono ?_
  rintro e w' ⟨n, r, D', hr, rfl, hD, ho⟩
  obtain ⟨rfl, rfl⟩ := hand0_commit hr
  exact ⟨_, _, rfl, hD, ho⟩
/-- Fork, of one that has the first change. -/
def ForQ (w : World) (actor : Int) (e : Ending) (w' : World) : Prop := ∃ ob : Nat, e = .returned (.tuple #[.pointer (some ⟨ob, 0, none⟩), .nilIface]) ∧ DocA w' (fun i => w.heap.size ≤ i) ob (hand1 actor []) ∧ Below w.heap.size w w'
theorem step_fork (K : Nat → Prop) (db : Nat) (w : World) (H : DocA w K db (hand1 1 [])) : Calls Tryz.prog 14 #[.pointer (some ⟨db, 0, none⟩), .int .i64 2] w (ForQ w 2) := by
  refine (docFork_any K db (hand1 1 []) 2 w H (by decide) (by decide)).mono ?_
  rintro e w' ⟨hb, h⟩
  rw [hand1_all, if_neg (by rintro (h | h); exact absurd (show (2 : Int) = 1 from h) (by decide); exact absurd h (by decide))] at h
  obtain ⟨n, L', W', h1, h2⟩ := h
  obtain ⟨rfl, rfl, rfl⟩ := fork_chOne h1
  rw [if_neg (by simp)] at h2
  obtain ⟨ob, rfl, h3⟩ := h2
  exact ⟨ob, rfl, h3, hb⟩
/-- Two hands that share nothing. -/
structure Two (w : World) (Ka Kb : Nat → Prop) (a b : Nat) (Da Db : DocV) : Prop where
  fst : DocA w Ka a Da
  snd : DocA w Kb b Db
  apart : ∀ i, i < w.heap.size → Ka i → ¬ Kb i
theorem Two.swap {w : World} {Ka Kb : Nat → Prop} {a b : Nat} {Da Db : DocV} (h : Two w Ka Kb a b Da Db) : Two w Kb Ka b a Db Da := ⟨h.snd, h.fst, fun i hi e k => h.apart i hi k e⟩
theorem Two.below {w w' : World} {Ka Kb : Nat → Prop} {a b : Nat} {Da Db : DocV} (h : Two w Ka Kb a b Da Db) (hb : Below w.heap.size w w') : Two w' (fun i => Ka i ∧ i < w.heap.size) (fun i => Kb i ∧ i < w.heap.size) a b Da Db :=
  ⟨h.fst.bound.below hb, h.snd.bound.below hb, fun i hi e k => h.apart i e.2 e.1 k.1⟩
/-- The first one has done something. -/
theorem Two.step {w w' : World} {Ka Kb : Nat → Prop} {a b : Nat} {Da Db D' : DocV} (h : Two w Ka Kb a b Da Db) (hD : DocA w' (fun i => Ka i ∨ w.heap.size ≤ i) a D') (ho : Only Ka w w') : Two w' (fun i => Ka i ∨ w.heap.size ≤ i) (fun i => Kb i ∧ i < w.heap.size) a b D' Db := by
  refine ⟨hD, h.snd.other ho (fun i hi e k => h.apart i hi e k), fun i hi e k => ?_⟩
  rcases e with e | e
  · exact h.apart i k.2 e k.1
  · omega
/-- What two answers. -/
def TwoQ (w : World) (e : Ending) (w' : World) : Prop :=
  ∃ (Ka Kb : Nat → Prop) (a b : Nat), e = .returned (.tuple #[.pointer (some ⟨a, 0, none⟩), .pointer (some ⟨b, 0, none⟩), .agg #[.int .i64 1, .int .i64 1], .bool true]) ∧ Two w' Ka Kb a b (hand1 1 []) (hand1 2 []) ∧ Below w.heap.size w w' ∧ (∀ i, Ka i ∨ Kb i → w.heap.size ≤ i)
theorem results_ttct {P : Program} {fn : Func} {p0 p1 p u : Tmp} {ty : TypeId} (h : fn.results = #[.tmp p0, .tmp p1, .cell p ty, .tmp u]) (tmps : Array Value) (w : World) (g : Nat) (t : TypeId) (cs : Array Value) (d : TypeDesc)
    (hp : tmps.getD p undef = .pointer (some ⟨g, 0, none⟩)) (hg : Blk w g t cs)
    (hu : P.underlying ty = some d) (hd : (match d with | .struct _ | .array _ _ => true | _ => false) = true) (hi : (P.info? ty).map (·.size) = some cs.size) :
    (results fn tmps).run P w = .ok (.tuple #[tmps.getD p0 undef, tmps.getD p1 undef, .agg cs, tmps.getD u undef]) w := by
  have hp' : tmps[p]?.getD undef = .pointer (some ⟨g, 0, none⟩) := by simpa using hp
  simp [results, h, hp', asAddr, run_loadVar_row w g t ty cs (0, 0) d hg hu hd hi]
set_option maxRecDepth 100000 in
set_option maxHeartbeats 4000000 in
theorem two_any (w : World) : Calls Tryz.prog 5 #[] w (TwoQ w) := by
  obtain ⟨W0, hW0⟩ : ∃ W0, W0 = w.alloc (.cells #[.int .i64 0, .int .i64 0] 24) := ⟨_, rfl⟩
  have hb0 : Below w.heap.size w W0 := by rw [hW0]; exact (Below.refl _ _).alloc (Nat.le_refl _) _
  have hR0 : Blk W0 w.heap.size 24 #[.int .i64 0, .int .i64 0] := by rw [hW0]; exact Blk.new _ _ _
  have H0 := Lib.hid (And.intro hb0 hR0)
  have HW0 := Lib.hid hW0
  clear hb0 hR0 hW0
  go_enter Tryz.func5, Tryz.ntmps5
  go_upto_region 1 with (fail)
  rw [← HW0.out]
  go_upto_region 4 with (go_at_call 12; (with_reducible refine (docNew_any 1 W0 (by decide) (by decide)).mono ?_); (rintro e w1 ⟨a, rfl, hD1, hb1⟩); (have H1 := Lib.hid (And.intro (show DocA w1 (fun i => W0.heap.size ≤ i) a (hand0 []) from hD1) hb1)); clear hD1 hb1)
  go_upto_region 5 with (go_at_call 13; (with_reducible refine (step_make _ a w1 H1.out.1).mono ?_); (rintro e w2 ⟨rfl, hD2, ho2⟩); (have H2 := Lib.hid (And.intro hD2 ho2)); clear hD2 ho2)
  obtain ⟨W2, hW2⟩ : ∃ W2, W2 = w2.alloc (.cells #[.int .i64 1, .int .i64 1] 24) := ⟨_, rfl⟩
  rw [← hW2]
  have hbl2 : Below w2.heap.size w2 W2 := by rw [hW2]; exact (Below.refl _ _).alloc (Nat.le_refl _) _
  have hN2 : Blk W2 w2.heap.size 24 #[.int .i64 1, .int .i64 1] := by rw [hW2]; exact Blk.new _ _ _
  have hz2 : W2.heap.size = w2.heap.size + 1 := by rw [hW2]; simp
  have HD2 := Lib.hid (H2.out.1.bound.below hbl2)
  have HN2 := Lib.hid (And.intro hN2 (And.intro hbl2 hz2))
  clear hbl2 hN2 hz2 hW2
  go_upto_region 6 with (go_at_call 6; (with_reducible refine (step_putN _ a W2 HD2.out).mono ?_); (rintro e w3 ⟨rfl, hD3, ho3⟩); (have H3 := Lib.hid (And.intro hD3 ho3)); clear hD3 ho3)
  go_upto_region 7 with (go_at_call 7; (with_reducible refine (step_commit0 _ a w3 H3.out.1.bound).mono ?_); (rintro e w4 ⟨r1, r2, rfl, hD4, ho4⟩); (have H4 := Lib.hid (And.intro hD4 ho4)); clear hD4 ho4)
  obtain ⟨W4, hW4⟩ : ∃ W4, W4 = w4.alloc (.cells #[.int .i64 r1, .int .i64 r2] 33) := ⟨_, rfl⟩
  rw [← hW4]
  have hbl4 : Below w4.heap.size w4 W4 := by rw [hW4]; exact (Below.refl _ _).alloc (Nat.le_refl _) _
  have HD4 := Lib.hid (And.intro (H4.out.1.bound.below hbl4) hbl4)
  clear hbl4 hW4
  go_upto_region 8 with (go_at_call 14; (with_reducible refine (step_fork _ a W4 HD4.out.1).mono ?_); (rintro e w5 ⟨b, rfl, hD5, hb5⟩); (have H5 := Lib.hid (And.intro hD5 hb5)); clear hD5 hb5)
  have hn3 : Blk w3 w2.heap.size 24 #[.int .i64 1, .int .i64 1] := HN2.out.1.only H3.out.2 (fun e => by have := e.2; omega)
  have hn4 : Blk w4 w2.heap.size 24 #[.int .i64 1, .int .i64 1] := hn3.only H4.out.2 (fun e => by
    have hz := HN2.out.2.2
    rcases e.1 with e | e
    · have := e.2; omega
    · omega)
  have hn5 : Blk w5 w2.heap.size 24 #[.int .i64 1, .int .i64 1] := (hn4.below HD4.out.2 hn4.lt).below H5.out.2 (by have := hn4.lt; have := HD4.out.2.size; omega)
  have hb1 : Below w.heap.size w w1 := H0.out.1.trans (H1.out.2.mono H0.out.1.size)
  have hw0 : w.heap.size < W0.heap.size := H0.out.2.lt
  have hl1 : W0.heap.size ≤ w1.heap.size := H1.out.2.size
  have hl2 : w1.heap.size ≤ w2.heap.size := H2.out.2.size
  have hl3 : W2.heap.size ≤ w3.heap.size := H3.out.2.size
  have hl4 : w3.heap.size ≤ w4.heap.size := H4.out.2.size
  have hl5 : w4.heap.size ≤ W4.heap.size := HD4.out.2.size
  have hl6 : W4.heap.size ≤ w5.heap.size := H5.out.2.size
  have hz2 := HN2.out.2.2
  have hr5 : Blk w5 w.heap.size 24 #[.int .i64 0, .int .i64 0] := ((((((H0.out.2.below H1.out.2 hw0).only H2.out.2 (fun e => by have e : W0.heap.size ≤ w.heap.size := e; omega)).below HN2.out.2.1 (by omega)).only H3.out.2 (fun e => by rcases e.1 with e | e <;> omega)).only H4.out.2 (fun e => by rcases e.1 with e | e; rcases e.1 with e | e <;> omega; omega)).below HD4.out.2 (by omega)).below H5.out.2 (by omega)
  have hT : Two w5 (fun i => ((((((W0.heap.size ≤ i ∨ w1.heap.size ≤ i) ∧ i < w2.heap.size) ∨ W2.heap.size ≤ i) ∧ i < w3.heap.size) ∨ w3.heap.size ≤ i) ∧ i < w4.heap.size) ∧ i < W4.heap.size) (fun i => W4.heap.size ≤ i) a b (hand1 1 []) (hand1 2 []) :=
    ⟨HD4.out.1.bound.below H5.out.2, H5.out.1, fun i hi e k => by have k : W4.heap.size ≤ i := k; have := e.2; omega⟩
  have hbw : Below w.heap.size w w5 := by
    have h2 : Below w.heap.size w w2 := hb1.trans (H2.out.2.below hb1.size (fun k hk e => by have e : W0.heap.size ≤ k := e; omega))
    have h3 : Below w.heap.size w W2 := h2.trans (HN2.out.2.1.mono h2.size)
    have h4 : Below w.heap.size w w3 := h3.trans (H3.out.2.below h3.size (fun k hk e => by rcases e.1 with e | e <;> omega))
    have h5 : Below w.heap.size w w4 := h4.trans (H4.out.2.below h4.size (fun k hk e => by rcases e.1 with e | e; rcases e.1 with e | e <;> omega; omega))
    have h6 : Below w.heap.size w W4 := h5.trans (HD4.out.2.mono h5.size)
    exact h6.trans (H5.out.2.mono h6.size)
  have HT := Lib.hid (And.intro hT (And.intro hbw (And.intro hw0 hl1)))
  have HTT := Lib.hid (And.intro hl1 (And.intro hl2 (And.intro hz2 (And.intro hl3 (And.intro hl4 hl5)))))
  have HNR := Lib.hid (And.intro hn5 (And.intro hr5 (show w2.heap.size ≠ w.heap.size by omega)))
  have HCS := Lib.hid (show ∀ W, W = w5.drew ∨ W = (w5.drew.setCell ⟨w.heap.size, 0, none⟩ (.int .i64 1)).setCell ⟨w.heap.size, 1, none⟩ (.int .i64 1) → W.cell? ⟨w2.heap.size, 0, none⟩ = some (.int .i64 1) ∧ W.cell? ⟨w2.heap.size, 1, none⟩ = some (.int .i64 1) from fun W hW => by
    rcases hW with rfl | rfl
    · exact ⟨hn5.cell 0, hn5.cell 1⟩
    · have := (show Blk w5.drew _ _ _ from hn5).only (onlyS2 w5.drew w.heap.size (.int .i64 1) (.int .i64 1) 0 1) (fun e => HNR.out.2.2 e)
      exact ⟨this.cell 0, this.cell 1⟩)
  have p0 : w5.cell? ⟨w2.heap.size, 0, none⟩ = some (.int .i64 1) := hn5.cell 0
  have p1 : w5.cell? ⟨w2.heap.size, 1, none⟩ = some (.int .i64 1) := hn5.cell 1
  have z0 := hr5.frozen
  have i0 := hr5.cell 0
  have i1 := hr5.cell 1
  simp only [List.getElem?_toArray, List.getElem?_cons_zero, List.getElem?_cons_succ] at i0 i1
  clear hn3 hn4 hn5 hb1 hw0 hl1 hl2 hl3 hl4 hl5 hl6 hz2 hr5 hT hbw
  go_region_held3 (fun W => W.cell? ⟨w2.heap.size, 0, none⟩ = some (.int .i64 1) ∧ W.cell? ⟨w2.heap.size, 1, none⟩ = some (.int .i64 1)) (first | (with_reducible exact HCS.out _ (.inl rfl)) | (exact HCS.out _ (.inr rfl)) | go_keep) (first | fail)
  all_goals
    clear p0 p1 z0 i0 i1
    go_wp2_with fail
    have hoS := onlyS2 w5 w.heap.size (.int .i64 1) (.int .i64 1) 0 1
    refine bodyPost_ret (results_ttct Tryz.results5 _ _ w.heap.size _ _ _ rfl (show Blk ((w5.setCell ⟨w.heap.size, 0, none⟩ (.int .i64 1)).setCell ⟨w.heap.size, 1, none⟩ (.int .i64 1)).drew w.heap.size 24 #[.int .i64 1, .int .i64 1] from blkS2 (.int .i64 1) (.int .i64 1) HNR.out.2.1) Tryz.underlying24 rfl (by kernel_rfl)) rfl ?_
    obtain ⟨hT, hbw, hw0, hl1⟩ := HT.out
    obtain ⟨x1, x2, x3, x4, x5, x6⟩ := HTT.out
    have hnK : ∀ i, i < w5.heap.size → i = w.heap.size → ¬ (((((((W0.heap.size ≤ i ∨ w1.heap.size ≤ i) ∧ i < w2.heap.size) ∨ W2.heap.size ≤ i) ∧ i < w3.heap.size) ∨ w3.heap.size ≤ i) ∧ i < w4.heap.size) ∧ i < W4.heap.size) := fun i _ e k => by omega
    refine ⟨_, _, a, b, rfl, ⟨(hT.fst.other hoS.drew hnK), (hT.snd.other hoS.drew (fun i _ e k => by have e : i = w.heap.size := e; have k : W4.heap.size ≤ i := k; omega)), fun i hi e k => hT.apart i e.2 e.1 k.1⟩, hbw.trans ((hoS.drew).below hbw.size (fun k hk e => by have e : k = w.heap.size := e; omega)), fun i e => ?_⟩
    rcases e with e | e
    · have e := e.1; omega
    · have e : W4.heap.size ≤ i := e.1
      omega
end Go.Proofs.YthimkpkoimfkiaaGreat
namespace Go.Proofs.YthimkpkoimfkiaaGreat
open Go.RowKit Go.Maps Go.Sort
set_option linter.unusedVariables false
set_option linter.unusedSimpArgs false

/-- Two hands in memory from z on. -/
def Pair (z : Nat) (w : World) (a b : Nat) (Da Db : DocV) : Prop := ∃ Ka Kb, Two w Ka Kb a b Da Db ∧ (∀ i, Ka i ∨ Kb i → z ≤ i) ∧ z ≤ w.heap.size
def PairQ (z : Nat) (w : World) (a b : Nat) (Da Db : DocV) (V : Value → Prop) (e : Ending) (w' : World) : Prop := ∃ v, V v ∧ e = .returned v ∧ Pair z w' a b Da Db ∧ Below z w w'
/-- A step of one hand: what it answers is one of V. -/
def HandQ (w : World) (K : Nat → Prop) (db : Nat) (D : DocV) (V : Value → Prop) (e : Ending) (w' : World) : Prop := ∃ v, V v ∧ e = .returned v ∧ DocA w' (fun i => K i ∨ w.heap.size ≤ i) db D ∧ Only K w w'
theorem Pair.swap {z : Nat} {w : World} {a b : Nat} {Da Db : DocV} (h : Pair z w a b Da Db) : Pair z w b a Db Da := by
  obtain ⟨Ka, Kb, h1, h2, h3⟩ := h
  exact ⟨Kb, Ka, h1.swap, fun i hi => h2 i hi.symm, h3⟩
theorem Pair.below {z : Nat} {w w' : World} {a b : Nat} {Da Db : DocV} (h : Pair z w a b Da Db) (hb : Below w.heap.size w w') : Pair z w' a b Da Db := by
  obtain ⟨Ka, Kb, h1, h2, h3⟩ := h
  exact ⟨_, _, h1.below hb, fun i hi => h2 i (hi.imp And.left And.left), Nat.le_trans h3 hb.size⟩
theorem Pair.low {z : Nat} {w : World} {a b : Nat} {Da Db : DocV} (h : Pair z w a b Da Db) : z ≤ w.heap.size := by
  obtain ⟨Ka, Kb, h1, h2, h3⟩ := h
  exact h3
theorem Pair.step {z : Nat} {w : World} {a b : Nat} {Da Db D' : DocV} {V : Value → Prop} (h : Pair z w a b Da Db) {F : FuncId} {args : Array Value} (hc : ∀ K, DocA w K a Da → Calls Tryz.prog F args w (HandQ w K a D' V)) : Calls Tryz.prog F args w (PairQ z w a b D' Db V) := by
  obtain ⟨Ka, Kb, h1, h2, h3⟩ := h
  refine (hc Ka h1.fst).mono ?_
  rintro e w' ⟨v, hv, rfl, hD, ho⟩
  refine ⟨v, hv, rfl, ⟨_, _, h1.step hD ho, fun i hi => ?_, Nat.le_trans h3 ho.size⟩, ho.below h3 (fun k hk e => by have := h2 k (.inl e); omega)⟩
  rcases hi with (hi | hi) | hi
  · exact h2 i (.inl hi)
  · omega
  · exact h2 i (.inr hi.1)
/-- .. where the step looks at the other one too. -/
theorem Pair.step2 {z : Nat} {w : World} {a b : Nat} {Da Db D' : DocV} {V : Value → Prop} (h : Pair z w a b Da Db) {F : FuncId} {args : Array Value} (hc : ∀ K K2, DocA w K a Da → DocA w K2 b Db → Calls Tryz.prog F args w (HandQ w K a D' V)) : Calls Tryz.prog F args w (PairQ z w a b D' Db V) := by
  obtain ⟨Ka, Kb, h1, h2, h3⟩ := id h
  exact h.step (fun K hK => hc K Kb hK h1.snd)
theorem PairQ.swap {z : Nat} {w : World} {a b : Nat} {Da Db : DocV} {V : Value → Prop} {e : Ending} {w' : World} (h : PairQ z w a b Da Db V e w') : PairQ z w b a Db Da V e w' := by
  obtain ⟨v, h1, h2, h3, h4⟩ := h
  exact ⟨v, h1, h2, h3.swap, h4⟩
theorem Pair.stepS {z : Nat} {w : World} {a b : Nat} {Da Db D' : DocV} {V : Value → Prop} (h : Pair z w a b Da Db) {F : FuncId} {args : Array Value} (hc : ∀ K, DocA w K b Db → Calls Tryz.prog F args w (HandQ w K b D' V)) : Calls Tryz.prog F args w (PairQ z w a b Da D' V) :=
  (h.swap.step hc).mono (fun e w' k => k.swap)
theorem Pair.step2S {z : Nat} {w : World} {a b : Nat} {Da Db D' : DocV} {V : Value → Prop} (h : Pair z w a b Da Db) {F : FuncId} {args : Array Value} (hc : ∀ K K2, DocA w K b Db → DocA w K2 a Da → Calls Tryz.prog F args w (HandQ w K b D' V)) : Calls Tryz.prog F args w (PairQ z w a b Da D' V) :=
  (h.swap.step2 hc).mono (fun e w' k => k.swap)
/-- No error. -/
def VNil (v : Value) : Prop := v = .nilIface
/-- A ref, and no error. -/
def VRef (v : Value) : Prop := ∃ r1 r2 : Int, v = .tuple #[.agg #[.int .i64 r1, .int .i64 r2], .nilIface]
/-- A ref, and whatever error. -/
def VRefE (v : Value) : Prop := ∃ (r1 r2 : Int) (n : Int), v = .tuple #[.agg #[.int .i64 r1, .int .i64 r2], errC n]
/-- A number, and no error. -/
def VNum (v : Value) : Prop := ∃ n : Int, v = .tuple #[.int .i64 n, .nilIface]
/-- Put, where what it comes to is known. -/
theorem hand_put {w : World} {K : Nat → Prop} {db : Nat} {D : DocV} {key : ByteArray} {v : JV} {l : List OpV} (H : DocA w K db D) (hni : D.noIns) (hks : key.size ≤ maxLen) (hv : v.Fit) (hr : ∀ r, OnKeyR D (putOp (0, 0) key v) (plainE v) r → r.1 = 0 ∧ r.2.2 = l) :
    Calls Tryz.prog 6 #[.pointer (some ⟨db, 0, none⟩), .agg #[.int .i64 0, .int .i64 0], .string key, .agg #[.int .i64 v.k, .int .i64 v.n, .string v.s, .int .i64 v.o, .int .i64 v.p]] w (HandQ w K db { D with pend := l } VNil) := by
  refine (docPut_any K db D (0, 0) key v w H hni i2_00 hks hv).mono ?_
  rintro e w' ⟨r, h, rfl, hD, ho⟩
  obtain ⟨e1, e2⟩ := hr r h
  rw [e1]
  rw [e2] at hD
  exact ⟨_, rfl, rfl, hD, ho⟩
theorem hand_inc {w : World} {K : Nat → Prop} {db : Nat} {D : DocV} {key : ByteArray} {n : Int} {l : List OpV} (H : DocA w K db D) (hni : D.noIns) (hks : key.size ≤ maxLen) (hv : I64 n) (hr : ∀ r, OnKeyR D (incOp (0, 0) key n) 0 r → r.1 = 0 ∧ r.2.2 = l) :
    Calls Tryz.prog 11 #[.pointer (some ⟨db, 0, none⟩), .agg #[.int .i64 0, .int .i64 0], .string key, .int .i64 n] w (HandQ w K db { D with pend := l } VNil) := by
  refine (docInc_any K db D (0, 0) key n w H hni i2_00 hks hv).mono ?_
  rintro e w' ⟨r, h, rfl, hD, ho⟩
  obtain ⟨e1, e2⟩ := hr r h
  rw [e1]
  rw [e2] at hD
  exact ⟨_, rfl, rfl, hD, ho⟩
theorem hand_commit {w : World} {K : Nat → Prop} {db : Nat} {D D2 : DocV} (H : DocA w K db D) (hr : ∀ n r D', CommitR D n r D' → n = 0 ∧ D' = D2) : Calls Tryz.prog 7 #[.pointer (some ⟨db, 0, none⟩)] w (HandQ w K db D2 VRef) := by
  refine (docCommit_any K db D w H).mono ?_
  rintro e w' ⟨n, r, D', h, rfl, hD, ho⟩
  obtain ⟨rfl, rfl⟩ := hr n r D' h
  exact ⟨_, ⟨_, _, rfl⟩, rfl, hD, ho⟩
theorem hand_commitE {w : World} {K : Nat → Prop} {db : Nat} {D D2 : DocV} (H : DocA w K db D) (hr : ∀ n r D', CommitR D n r D' → D' = D2) : Calls Tryz.prog 7 #[.pointer (some ⟨db, 0, none⟩)] w (HandQ w K db D2 VRefE) := by
  refine (docCommit_any K db D w H).mono ?_
  rintro e w' ⟨n, r, D', h, rfl, hD, ho⟩
  obtain rfl := hr n r D' h
  exact ⟨_, ⟨_, _, n, rfl⟩, rfl, hD, ho⟩
theorem hand_merge {w : World} {K K2 : Nat → Prop} {db eb : Nat} {D E : DocV} {L2 : List Ch} (H : DocA w K db D) (HE : DocA w K2 eb E) (hp : D.pend = []) (hW : D.W = []) (hr : ∀ n e L' W', MergeR D.L [] 0 E.all n e L' W' → e = 0 ∧ L' = L2 ∧ W' = []) :
    Calls Tryz.prog 8 #[.pointer (some ⟨db, 0, none⟩), .pointer (some ⟨eb, 0, none⟩)] w (HandQ w K db ⟨D.actor, L2, [], []⟩ VNum) := by
  refine (docMerge_any K K2 db eb D E w H HE).mono ?_
  rintro e w' ⟨n, er, L', W', h, rfl, hD, ho⟩
  rw [if_pos hp, hW] at h
  obtain ⟨rfl, rfl, rfl⟩ := hr _ _ _ _ h
  rw [hp] at hD
  exact ⟨_, ⟨n, rfl⟩, rfl, hD, ho⟩
end Go.Proofs.YthimkpkoimfkiaaGreat
