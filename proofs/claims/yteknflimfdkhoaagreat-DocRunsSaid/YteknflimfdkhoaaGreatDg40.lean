/- booklaw6.two: two hands, with a list and a count that both have. booklaw6.two: the walk. -/
import Derived.Test.YteknflimfdkhoaaGreatDg39
namespace Go.Proofs.YteknflimfdkhoaaGreat
open Go.RowKit Go.Maps Go.Sort
set_option linter.unusedVariables false
set_option linter.unusedSimpArgs false

def opL : OpV := makeOp (0, 0) ⟨#[108]⟩ 6
def opN : OpV := putOp (0, 0) ⟨#[110]⟩ ⟨4, 0, ⟨#[]⟩, 0, 0⟩
def chOne : Ch := ⟨1, 1, 1, [], [opL, opN]⟩
theorem sortR_nil : sortR [] = [] := sortR_is (List.Perm.refl _) List.Pairwise.nil
theorem sortR_one (r : Int × Int) : sortR [r] = [r] := sortR_is (List.Perm.refl _) (by simp)
theorem allV_nil : allV [] = [] := by rw [allV_is (L := []) (rs := []) sortR_nil]; rfl
theorem allV_chOne : allV [chOne] = [chOne] := by rw [allV_is (L := [chOne]) (rs := [(1, 1)]) (sortR_one _)]; kernel_rfl
theorem heads_nil : headsR [] = [] := by rw [headsR_is (L := []) (rs := []) sortR_nil]; rfl
theorem sortC_nil : sortC cmpId [] = [] := sortR_nil
/-- A hand that has nothing. -/
def hand0 (pend : List OpV) : DocV := ⟨1, [], [], pend⟩
theorem hand0_all (pend : List OpV) : (hand0 pend).all = [] := allV_nil
theorem hand0_make {r : Int × (Int × Int) × List OpV} (h : OnKeyR (hand0 []) (makeOp (0, 0) ⟨#[108]⟩ 6) (objectE 6) r) : r = (0, (1, 1), [opL]) := by
  have h : OnKeyR (hand0 []) (makeOp (0, 0) ⟨#[108]⟩ 6) 0 r := h
  exact onKeyR_ok h (hand0_all _) (by kernel_rfl) (f := fun _ => none) (by kernel_rfl) (l := []) (fun ids => idsOf_none) (s := 1) (by kernel_rfl) (ps := []) sortC_nil (by decide) (fun e => absurd e (by decide)) ⟨by decide, by decide, by decide, by decide⟩
theorem hand0_put {r : Int × (Int × Int) × List OpV} (h : OnKeyR (hand0 [opL]) (putOp (0, 0) ⟨#[110]⟩ ⟨4, 0, ⟨#[]⟩, 0, 0⟩) (plainE ⟨4, 0, ⟨#[]⟩, 0, 0⟩) r) : r = (0, (2, 1), [opL, opN]) := by
  have h0 : plainE ⟨4, 0, ⟨#[]⟩, 0, 0⟩ = 0 := by kernel_rfl
  rw [h0] at h
  exact onKeyR_ok h (hand0_all _) (by kernel_rfl) (f := fun _ => none) (by kernel_rfl) (l := []) (fun ids => idsOf_none) (s := 1) (by kernel_rfl) (ps := []) sortC_nil (by decide) (fun e => absurd e (by decide)) ⟨by decide, by decide, by decide, by decide⟩
theorem hand0_commit {n : Int} {r : Int × Int} {D' : DocV} (h : CommitR (hand0 [opL, opN]) n r D') : n = 0 ∧ D' = ⟨1, [chOne], [], []⟩ :=
  commitR_ok h (hand0_all _) (s1 := 1) (s2 := 1) (by kernel_rfl) (hs := []) heads_nil (by simp [hand0]) rfl (by decide) (by decide) (by kernel_rfl) (by kernel_rfl) (by kernel_rfl) (by kernel_rfl)
/-- A hand that has the first change. -/
def hand1 (actor : Int) (pend : List OpV) : DocV := ⟨actor, [chOne], [], pend⟩
theorem hand1_all (actor : Int) (pend : List OpV) : (hand1 actor pend).all = [chOne] := allV_chOne
theorem fork_chOne {n : Int} {L' W' : List Ch} (h : TakeAll [] [] [chOne] n L' W') : n = 0 ∧ L' = [chOne] ∧ W' = [] :=
  takeAll_nil (takeAll_new h (by kernel_rfl) (by kernel_rfl) (by decide) (by kernel_rfl) (by kernel_rfl))
end Go.Proofs.YteknflimfdkhoaaGreat
namespace Go.Proofs.YteknflimfdkhoaaGreat
open Go.RowKit Go.Maps Go.Sort
set_option linter.unusedVariables false
set_option linter.unusedSimpArgs false

/-- A hand's step: what it answers, and what the hand is then. -/
def StepQ (w : World) (K : Nat → Prop) (db : Nat) (D : DocV) (v : Value) (e : Ending) (w' : World) : Prop := e = .returned v ∧ DocA w' (fun i => K i ∨ w.heap.size ≤ i) db D ∧ Only K w w'
theorem i2_00 : I2 (0, 0) := ⟨⟨by decide, by decide⟩, ⟨by decide, by decide⟩⟩
theorem noIns0 (l : List OpV) (h : ∀ o ∈ l, o.ins = false) : (hand0 l).noIns := ⟨fun c hc => (by cases hc), h⟩
theorem noIns1 (a : Int) (l : List OpV) (h : ∀ o ∈ l, o.ins = false) : (hand1 a l).noIns := ⟨fun c hc o ho => by
  have hc : c ∈ [chOne] := hc
  rw [List.mem_singleton] at hc
  subst hc
  have ho : o ∈ [opL, opN] := ho
  rcases List.mem_cons.1 ho with rfl | ho
  · rfl
  · rw [List.mem_singleton] at ho
    subst ho
    rfl, h⟩
theorem key1_le (k : UInt8) : (⟨#[k]⟩ : ByteArray).size ≤ maxLen := by
  show 1 ≤ maxLen
  unfold maxLen
  omega
theorem step_make (K : Nat → Prop) (db : Nat) (w : World) (H : DocA w K db (hand0 [])) : Calls Tryz.prog 11 #[.pointer (some ⟨db, 0, none⟩), .agg #[.int .i64 0, .int .i64 0], .string ⟨#[108]⟩, .int .i64 6] w (StepQ w K db (hand0 [opL]) (.tuple #[.agg #[.int .i64 1, .int .i64 1], .nilIface])) := by
  refine (docMake_any K db (hand0 []) (0, 0) ⟨#[108]⟩ 6 w H (noIns0 [] (fun o ho => (by cases ho))) i2_00 (key1_le _) ⟨by decide, by decide⟩).mono ?_
  rintro e w' ⟨r, hr, rfl, hD, ho⟩
  have := hand0_make hr
  subst this
  exact ⟨rfl, hD, ho⟩
theorem step_putN (K : Nat → Prop) (db : Nat) (w : World) (H : DocA w K db (hand0 [opL])) : Calls Tryz.prog 12 #[.pointer (some ⟨db, 0, none⟩), .agg #[.int .i64 0, .int .i64 0], .string ⟨#[110]⟩, .agg #[.int .i64 4, .int .i64 0, .string ⟨#[]⟩, .int .i64 0, .int .i64 0]] w (StepQ w K db (hand0 [opL, opN]) .nilIface) := by
  refine (docPut_any K db (hand0 [opL]) (0, 0) ⟨#[110]⟩ ⟨4, 0, ⟨#[]⟩, 0, 0⟩ w H (noIns0 [opL] (fun o ho => by rw [List.mem_singleton] at ho; subst ho; rfl)) i2_00 (key1_le _) ⟨i64_k.2.1, i64_0, Nat.zero_le _, i64_0, i64_0⟩).mono ?_
  rintro e w' ⟨r, hr, rfl, hD, ho⟩
  have := hand0_put hr
  subst this
  exact ⟨rfl, hD, ho⟩
/-- Commit, with whatever ref. -/
def ComQ (w : World) (K : Nat → Prop) (db : Nat) (D : DocV) (e : Ending) (w' : World) : Prop := ∃ r1 r2 : Int, e = .returned (.tuple #[.agg #[.int .i64 r1, .int .i64 r2], .nilIface]) ∧ DocA w' (fun i => K i ∨ w.heap.size ≤ i) db D ∧ Only K w w'
theorem step_commit0 (K : Nat → Prop) (db : Nat) (w : World) (H : DocA w K db (hand0 [opL, opN])) : Calls Tryz.prog 6 #[.pointer (some ⟨db, 0, none⟩)] w (ComQ w K db (hand1 1 [])) := by
  refine (docCommit_any K db (hand0 [opL, opN]) w H).mono ?_
  rintro e w' ⟨n, r, D', hr, rfl, hD, ho⟩
  obtain ⟨rfl, rfl⟩ := hand0_commit hr
  exact ⟨_, _, rfl, hD, ho⟩
/-- Fork, of one that has the first change. -/
def ForQ (w : World) (actor : Int) (e : Ending) (w' : World) : Prop := ∃ ob : Nat, e = .returned (.tuple #[.pointer (some ⟨ob, 0, none⟩), .nilIface]) ∧ DocA w' (fun i => w.heap.size ≤ i) ob (hand1 actor []) ∧ Below w.heap.size w w'
theorem step_fork (K : Nat → Prop) (db : Nat) (w : World) (H : DocA w K db (hand1 1 [])) : Calls Tryz.prog 13 #[.pointer (some ⟨db, 0, none⟩), .int .i64 2] w (ForQ w 2) := by
  refine (docFork_any K db (hand1 1 []) 2 w H (by decide) (by decide)).mono ?_
  rintro e w' ⟨hb, h⟩
  rw [hand1_all, if_neg (by rintro (h | h); exact absurd (show (2 : Int) = 1 from h) (by decide); exact absurd h (by decide))] at h
  obtain ⟨n, L', W', h1, h2⟩ := h
  obtain ⟨rfl, rfl, rfl⟩ := fork_chOne h1
  rw [if_neg (by simp)] at h2
  obtain ⟨ob, rfl, h3⟩ := h2
  exact ⟨ob, rfl, h3, hb⟩
/-- Two hands that share nothing. -/
structure Two (w : World) (Ka Kb : Nat → Prop) (a b : Nat) (Da Db : DocV) : Prop where
  fst : DocA w Ka a Da
  snd : DocA w Kb b Db
  apart : ∀ i, i < w.heap.size → Ka i → ¬ Kb i
theorem Two.swap {w : World} {Ka Kb : Nat → Prop} {a b : Nat} {Da Db : DocV} (h : Two w Ka Kb a b Da Db) : Two w Kb Ka b a Db Da := ⟨h.snd, h.fst, fun i hi e k => h.apart i hi k e⟩
theorem Two.below {w w' : World} {Ka Kb : Nat → Prop} {a b : Nat} {Da Db : DocV} (h : Two w Ka Kb a b Da Db) (hb : Below w.heap.size w w') : Two w' (fun i => Ka i ∧ i < w.heap.size) (fun i => Kb i ∧ i < w.heap.size) a b Da Db :=
  ⟨h.fst.bound.below hb, h.snd.bound.below hb, fun i hi e k => h.apart i e.2 e.1 k.1⟩
/-- The first one has done something. -/
theorem Two.step {w w' : World} {Ka Kb : Nat → Prop} {a b : Nat} {Da Db D' : DocV} (h : Two w Ka Kb a b Da Db) (hD : DocA w' (fun i => Ka i ∨ w.heap.size ≤ i) a D') (ho : Only Ka w w') : Two w' (fun i => Ka i ∨ w.heap.size ≤ i) (fun i => Kb i ∧ i < w.heap.size) a b D' Db := by
  refine ⟨hD, h.snd.other ho (fun i hi e k => h.apart i hi e k), fun i hi e k => ?_⟩
  rcases e with e | e
  · exact h.apart i k.2 e k.1
  · omega
/-- What two answers. -/
def TwoQ (w : World) (e : Ending) (w' : World) : Prop :=
  ∃ (Ka Kb : Nat → Prop) (a b : Nat), e = .returned (.tuple #[.pointer (some ⟨a, 0, none⟩), .pointer (some ⟨b, 0, none⟩), .agg #[.int .i64 1, .int .i64 1], .bool true]) ∧ Two w' Ka Kb a b (hand1 1 []) (hand1 2 []) ∧ Below w.heap.size w w' ∧ (∀ i, Ka i ∨ Kb i → w.heap.size ≤ i)
theorem results_ttct {P : Program} {fn : Func} {p0 p1 p u : Tmp} {ty : TypeId} (h : fn.results = #[.tmp p0, .tmp p1, .cell p ty, .tmp u]) (tmps : Array Value) (w : World) (g : Nat) (t : TypeId) (cs : Array Value) (d : TypeDesc)
    (hp : tmps.getD p undef = .pointer (some ⟨g, 0, none⟩)) (hg : Blk w g t cs)
    (hu : P.underlying ty = some d) (hd : (match d with | .struct _ | .array _ _ => true | _ => false) = true) (hi : (P.info? ty).map (·.size) = some cs.size) :
    (results fn tmps).run P w = .ok (.tuple #[tmps.getD p0 undef, tmps.getD p1 undef, .agg cs, tmps.getD u undef]) w := by
  have hp' : tmps[p]?.getD undef = .pointer (some ⟨g, 0, none⟩) := by simpa using hp
  simp [results, h, hp', asAddr, run_loadVar_row w g t ty cs (0, 0) d hg hu hd hi]
set_option maxRecDepth 100000 in
set_option maxHeartbeats 4000000 in
theorem two_any (w : World) : Calls Tryz.prog 4 #[] w (TwoQ w) := by
  obtain ⟨W0, hW0⟩ : ∃ W0, W0 = w.alloc (.cells #[.int .i64 0, .int .i64 0] 24) := ⟨_, rfl⟩
  have hb0 : Below w.heap.size w W0 := by rw [hW0]; exact (Below.refl _ _).alloc (Nat.le_refl _) _
  have hR0 : Blk W0 w.heap.size 24 #[.int .i64 0, .int .i64 0] := by rw [hW0]; exact Blk.new _ _ _
  have H0 := Lib.hid (And.intro hb0 hR0)
  have HW0 := Lib.hid hW0
  clear hb0 hR0 hW0
  go_enter Tryz.func4, Tryz.ntmps4
  go_upto_region 1 with (fail)
  rw [← HW0.out]
  go_upto_region 4 with (go_at_call 10; (with_reducible refine (docNew_any 1 W0 (by decide) (by decide)).mono ?_); (rintro e w1 ⟨a, rfl, hD1, hb1⟩); (have H1 := Lib.hid (And.intro (show DocA w1 (fun i => W0.heap.size ≤ i) a (hand0 []) from hD1) hb1)); clear hD1 hb1)
  go_upto_region 5 with (go_at_call 11; (with_reducible refine (step_make _ a w1 H1.out.1).mono ?_); (rintro e w2 ⟨rfl, hD2, ho2⟩); (have H2 := Lib.hid (And.intro hD2 ho2)); clear hD2 ho2)
  obtain ⟨W2, hW2⟩ : ∃ W2, W2 = w2.alloc (.cells #[.int .i64 1, .int .i64 1] 24) := ⟨_, rfl⟩
  rw [← hW2]
  have hbl2 : Below w2.heap.size w2 W2 := by rw [hW2]; exact (Below.refl _ _).alloc (Nat.le_refl _) _
  have hN2 : Blk W2 w2.heap.size 24 #[.int .i64 1, .int .i64 1] := by rw [hW2]; exact Blk.new _ _ _
  have hz2 : W2.heap.size = w2.heap.size + 1 := by rw [hW2]; simp
  have HD2 := Lib.hid (H2.out.1.bound.below hbl2)
  have HN2 := Lib.hid (And.intro hN2 (And.intro hbl2 hz2))
  clear hbl2 hN2 hz2 hW2
  go_upto_region 6 with (go_at_call 12; (with_reducible refine (step_putN _ a W2 HD2.out).mono ?_); (rintro e w3 ⟨rfl, hD3, ho3⟩); (have H3 := Lib.hid (And.intro hD3 ho3)); clear hD3 ho3)
  go_upto_region 7 with (go_at_call 6; (with_reducible refine (step_commit0 _ a w3 H3.out.1.bound).mono ?_); (rintro e w4 ⟨r1, r2, rfl, hD4, ho4⟩); (have H4 := Lib.hid (And.intro hD4 ho4)); clear hD4 ho4)
  obtain ⟨W4, hW4⟩ : ∃ W4, W4 = w4.alloc (.cells #[.int .i64 r1, .int .i64 r2] 33) := ⟨_, rfl⟩
  rw [← hW4]
  have hbl4 : Below w4.heap.size w4 W4 := by rw [hW4]; exact (Below.refl _ _).alloc (Nat.le_refl _) _
  have HD4 := Lib.hid (And.intro (H4.out.1.bound.below hbl4) hbl4)
  clear hbl4 hW4
  go_upto_region 8 with (go_at_call 13; (with_reducible refine (step_fork _ a W4 HD4.out.1).mono ?_); (rintro e w5 ⟨b, rfl, hD5, hb5⟩); (have H5 := Lib.hid (And.intro hD5 hb5)); clear hD5 hb5)
  have hn3 : Blk w3 w2.heap.size 24 #[.int .i64 1, .int .i64 1] := HN2.out.1.only H3.out.2 (fun e => by have := e.2; omega)
  have hn4 : Blk w4 w2.heap.size 24 #[.int .i64 1, .int .i64 1] := hn3.only H4.out.2 (fun e => by
    have hz := HN2.out.2.2
    rcases e.1 with e | e
    · have := e.2; omega
    · omega)
  have hn5 : Blk w5 w2.heap.size 24 #[.int .i64 1, .int .i64 1] := (hn4.below HD4.out.2 hn4.lt).below H5.out.2 (by have := hn4.lt; have := HD4.out.2.size; omega)
  have hb1 : Below w.heap.size w w1 := H0.out.1.trans (H1.out.2.mono H0.out.1.size)
  have hw0 : w.heap.size < W0.heap.size := H0.out.2.lt
  have hl1 : W0.heap.size ≤ w1.heap.size := H1.out.2.size
  have hl2 : w1.heap.size ≤ w2.heap.size := H2.out.2.size
  have hl3 : W2.heap.size ≤ w3.heap.size := H3.out.2.size
  have hl4 : w3.heap.size ≤ w4.heap.size := H4.out.2.size
  have hl5 : w4.heap.size ≤ W4.heap.size := HD4.out.2.size
  have hl6 : W4.heap.size ≤ w5.heap.size := H5.out.2.size
  have hz2 := HN2.out.2.2
  have hr5 : Blk w5 w.heap.size 24 #[.int .i64 0, .int .i64 0] := ((((((H0.out.2.below H1.out.2 hw0).only H2.out.2 (fun e => by have e : W0.heap.size ≤ w.heap.size := e; omega)).below HN2.out.2.1 (by omega)).only H3.out.2 (fun e => by rcases e.1 with e | e <;> omega)).only H4.out.2 (fun e => by rcases e.1 with e | e; rcases e.1 with e | e <;> omega; omega)).below HD4.out.2 (by omega)).below H5.out.2 (by omega)
  have hT : Two w5 (fun i => ((((((W0.heap.size ≤ i ∨ w1.heap.size ≤ i) ∧ i < w2.heap.size) ∨ W2.heap.size ≤ i) ∧ i < w3.heap.size) ∨ w3.heap.size ≤ i) ∧ i < w4.heap.size) ∧ i < W4.heap.size) (fun i => W4.heap.size ≤ i) a b (hand1 1 []) (hand1 2 []) :=
    ⟨HD4.out.1.bound.below H5.out.2, H5.out.1, fun i hi e k => by have k : W4.heap.size ≤ i := k; have := e.2; omega⟩
  have hbw : Below w.heap.size w w5 := by
    have h2 : Below w.heap.size w w2 := hb1.trans (H2.out.2.below hb1.size (fun k hk e => by have e : W0.heap.size ≤ k := e; omega))
    have h3 : Below w.heap.size w W2 := h2.trans (HN2.out.2.1.mono h2.size)
    have h4 : Below w.heap.size w w3 := h3.trans (H3.out.2.below h3.size (fun k hk e => by rcases e.1 with e | e <;> omega))
    have h5 : Below w.heap.size w w4 := h4.trans (H4.out.2.below h4.size (fun k hk e => by rcases e.1 with e | e; rcases e.1 with e | e <;> omega; omega))
    have h6 : Below w.heap.size w W4 := h5.trans (HD4.out.2.mono h5.size)
    exact h6.trans (H5.out.2.mono h6.size)
  have HT := Lib.hid (And.intro hT (And.intro hbw (And.intro hw0 hl1)))
  have HTT := Lib.hid (And.intro hl1 (And.intro hl2 (And.intro hz2 (And.intro hl3 (And.intro hl4 hl5)))))
  have HNR := Lib.hid (And.intro hn5 (And.intro hr5 (show w2.heap.size ≠ w.heap.size by omega)))
  have HCS := Lib.hid (show ∀ W, W = w5.drew ∨ W = (w5.drew.setCell ⟨w.heap.size, 0, none⟩ (.int .i64 1)).setCell ⟨w.heap.size, 1, none⟩ (.int .i64 1) → W.cell? ⟨w2.heap.size, 0, none⟩ = some (.int .i64 1) ∧ W.cell? ⟨w2.heap.size, 1, none⟩ = some (.int .i64 1) from fun W hW => by
    rcases hW with rfl | rfl
    · exact ⟨hn5.cell 0, hn5.cell 1⟩
    · have := (show Blk w5.drew _ _ _ from hn5).only (onlyS2 w5.drew w.heap.size (.int .i64 1) (.int .i64 1) 0 1) (fun e => HNR.out.2.2 e)
      exact ⟨this.cell 0, this.cell 1⟩)
  have p0 : w5.cell? ⟨w2.heap.size, 0, none⟩ = some (.int .i64 1) := hn5.cell 0
  have p1 : w5.cell? ⟨w2.heap.size, 1, none⟩ = some (.int .i64 1) := hn5.cell 1
  have z0 := hr5.frozen
  have i0 := hr5.cell 0
  have i1 := hr5.cell 1
  simp only [List.getElem?_toArray, List.getElem?_cons_zero, List.getElem?_cons_succ] at i0 i1
  clear hn3 hn4 hn5 hb1 hw0 hl1 hl2 hl3 hl4 hl5 hl6 hz2 hr5 hT hbw
  go_region_held3 (fun W => W.cell? ⟨w2.heap.size, 0, none⟩ = some (.int .i64 1) ∧ W.cell? ⟨w2.heap.size, 1, none⟩ = some (.int .i64 1)) (first | (with_reducible exact HCS.out _ (.inl rfl)) | (exact HCS.out _ (.inr rfl)) | go_keep) (first | fail)
  all_goals
    clear p0 p1 z0 i0 i1
    go_wp2_with fail
    have hoS := onlyS2 w5 w.heap.size (.int .i64 1) (.int .i64 1) 0 1
    refine bodyPost_ret (results_ttct Tryz.results4 _ _ w.heap.size _ _ _ rfl (show Blk ((w5.setCell ⟨w.heap.size, 0, none⟩ (.int .i64 1)).setCell ⟨w.heap.size, 1, none⟩ (.int .i64 1)).drew w.heap.size 24 #[.int .i64 1, .int .i64 1] from blkS2 (.int .i64 1) (.int .i64 1) HNR.out.2.1) Tryz.underlying24 rfl (by kernel_rfl)) rfl ?_
    obtain ⟨hT, hbw, hw0, hl1⟩ := HT.out
    obtain ⟨x1, x2, x3, x4, x5, x6⟩ := HTT.out
    have hnK : ∀ i, i < w5.heap.size → i = w.heap.size → ¬ (((((((W0.heap.size ≤ i ∨ w1.heap.size ≤ i) ∧ i < w2.heap.size) ∨ W2.heap.size ≤ i) ∧ i < w3.heap.size) ∨ w3.heap.size ≤ i) ∧ i < w4.heap.size) ∧ i < W4.heap.size) := fun i _ e k => by omega
    refine ⟨_, _, a, b, rfl, ⟨(hT.fst.other hoS.drew hnK), (hT.snd.other hoS.drew (fun i _ e k => by have e : i = w.heap.size := e; have k : W4.heap.size ≤ i := k; omega)), fun i hi e k => hT.apart i e.2 e.1 k.1⟩, hbw.trans ((hoS.drew).below hbw.size (fun k hk e => by have e : k = w.heap.size := e; omega)), fun i e => ?_⟩
    rcases e with e | e
    · have e := e.1; omega
    · have e : W4.heap.size ≤ i := e.1
      omega
end Go.Proofs.YteknflimfdkhoaaGreat
