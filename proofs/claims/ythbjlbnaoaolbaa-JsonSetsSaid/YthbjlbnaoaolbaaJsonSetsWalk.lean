/- JsonSets: the walk. -/
import Derived.Test.YthbjlbnaoaolbaaApply1
import Derived.Test.YthbjlbnaoaolbaaSame
namespace Go.Proofs.Ythbjlbnaoaolbaa
open Go.RowKit
set_option linter.unusedVariables false
set_option linter.unusedSimpArgs false

/-- A path that came in. -/
def IsSteps (W : World) (v : Value) (p : List St) : Prop := ∃ A c, v = .slice A p.length c ∧ SlAt W A (stCells p) ∧ p.length ≤ maxLen ∧ p.length ≤ c
/-- A value that came in. -/
def IsVal (W : World) (x : Value) (v : JV) : Prop := x = .agg v.cells.toArray ∧ v.Fit

def factV : JV := ⟨5, 0, ⟨#[]⟩, 0, 0⟩
def factX : JV := ⟨2, 1, ⟨#[]⟩, 0, 0⟩
def factP : List St := [⟨⟨#[97]⟩, 0⟩]
theorem factX_fit : factX.Fit := ⟨by unfold I64 factX; decide, by unfold I64 factX; decide, by decide, by unfold I64 factX; decide, by unfold I64 factX; decide⟩
theorem factV_fit : factV.Fit := ⟨by unfold I64 factV; decide, by unfold I64 factV; decide, by decide, by unfold I64 factV; decide, by unfold I64 factV; decide⟩
def zeroV : JV := ⟨0, 0, ⟨#[]⟩, 0, 0⟩
theorem zeroV_fit : zeroV.Fit := ⟨by unfold I64 zeroV; decide, by unfold I64 zeroV; decide, by decide, by unfold I64 zeroV; decide, by unfold I64 zeroV; decide⟩
theorem zTree_eq : zTree = (PT.bare zeroV).value := rfl
theorem toList_nil : (⟨#[]⟩ : ByteArray).toList = [] := by rw [ByteArray.toList_eq]
theorem toList_a : (⟨#[97]⟩ : ByteArray).toList = [97] := by rw [ByteArray.toList_eq]
theorem factV_formed : (JT.leaf factV).formed = true := by
  rw [JT.formed_iff]
  refine ⟨?_, by simp [JT.leaf, JT.kids]⟩
  rw [JT.leaf, JT.top_node]
  simp [factV, JV.head, JV.ok, idOk, keysOk, keysFrom, toList_nil]
theorem factX_formed : (JT.leaf factX).formed = true := by
  rw [JT.formed_iff]
  refine ⟨?_, by simp [JT.leaf, JT.kids]⟩
  rw [JT.leaf, JT.top_node]
  simp [factX, JV.head, JV.ok, JV.bare, toList_nil]
theorem fact_check : checkV (JT.leaf factV) = .nilIface := by
  unfold checkV
  rw [if_pos (by simp [JT.leaf, JT.size, JT.sizeL]), if_pos factV_formed]
theorem fact_pat : patR 1 factX (JT.leaf factV) factP = .ok (.node factV [⟨#[97]⟩] [JT.leaf factX]) := by
  unfold patR
  rw [if_neg (by rw [factX_formed]; simp [factP, longB]; decide), if_neg (by simp [factP])]
  have : JT.pat 1 (JT.leaf factX) (JT.leaf factV) factP = some (.node factV [⟨#[97]⟩] [JT.leaf factX]) := by
    simp only [factP, JT.pat]
    unfold JT.pat1
    simp [JT.idx, idxO, JT.leaf, JT.val, JT.keys, JT.kids, isMapStep, factV, toList_a, plc, insAt]
  rw [this]
  simp [JT.size, JT.sizeL, JT.leaf]

/-- What a patch that sets gave: it is there; and what was there may be set again. -/
theorem set_ok {v : JV} {t u : JT} {p : List St} (h : patR 1 v t p = .ok u) (hc : checkV t = .nilIface) :
    checkV u = .nilIface ∧ u.get p = some (JT.leaf v) ∧ ∀ y, t.get p = some y → y.val.k ≤ 3 → patR 1 y.val u p = .ok t := by
  obtain ⟨hf, hs⟩ := checkV_ok hc
  unfold patR at h
  split at h
  · cases h
  · rename_i h1
    split at h
    · cases h
    · rename_i h2
      split at h
      · cases h
      · rename_i u' hp
        split at h
        · rename_i h3
          injection h with h
          subst h
          have hx : (JT.leaf v).formed = true := by
            cases hx : (JT.leaf v).formed with
            | true => rfl
            | false => exact absurd (.inr (.inr (.inl hx))) h1
          have hl : p.any longB = false := by
            cases hx : p.any longB with
            | false => rfl
            | true => exact absurd (.inr (.inr (.inr hx))) h1
          have hk : ∀ s ∈ p, s.key.size ≤ 20 := by
            intro s hs
            have := List.any_eq_false.1 hl s hs
            unfold longB at this
            simp at this
            omega
          obtain ⟨g1, g2⟩ := JT.pat_set hx p t u' hf hk hp
          refine ⟨by unfold checkV; rw [if_pos h3, if_pos g1], g2, fun y hy hyk => ?_⟩
          have hyf := JT.get_formed hf p hy
          have hyl := JT.plain_leaf hyf hyk
          have hb := JT.pat_back p t u' hf hy hp
          rw [hyl] at hb hyf
          simp only [JT.leaf, JT.val] at hb hyf
          unfold patR
          have hyf' : (JT.leaf y.val).formed = true := hyf
          have hb' : JT.pat 1 (JT.leaf y.val) u' p = some t := hb
          rw [if_neg (by rw [hyf', hl]; simp), if_neg h2, hb']
          simp only
          rw [if_pos hs]
        · cases h
theorem calls_at {P : Program} {f : FuncId} {args : Array Value} {Q : Ending → World → Prop} {w : World} (F : World → Prop) (hF : F w) (h : ∀ w1, F w1 → Calls P f args w1 Q) : Calls P f args w Q := h w hF
theorem SlAt.of_blk {w : World} {g : Nat} {t : TypeId} {cs : Array Value} (h : Blk w g t cs) : SlAt w (some ⟨g, 0, none⟩) cs.toList :=
  .inr ⟨g, 0, rfl, fun j u hu => by rw [Nat.zero_add, h.cell]; simpa using hu⟩
/-- What stays known: the arguments' boxes. -/
structure Boxes (w : World) (T : PT) (v : JV) (W : World) : Prop where
  bel : Below w.heap.size w W
  t : Blk W w.heap.size 29 #[.int .i64 T.val.k, .int .i64 T.val.n, .string T.val.s, .int .i64 T.val.o, .int .i64 T.val.p, .slice T.kA T.keys.length T.kc, .slice T.cA T.kids.length T.cc]
  v : Blk W (w.heap.size + 1) 25 #[.int .i64 v.k, .int .i64 v.n, .string v.s, .int .i64 v.o, .int .i64 v.p]
theorem Boxes.below {w W W' : World} {T : PT} {v : JV} (h : Boxes w T v W) (hb : Below W.heap.size W W') : Boxes w T v W' :=
  ⟨h.bel.trans (hb.mono h.bel.size), h.t.below hb h.t.lt, h.v.below hb h.v.lt⟩

set_option maxRecDepth 100000 in
set_option maxHeartbeats 4000000 in
theorem jsonSets_walk (w : World) (tv : Value) (T : PT) (hT : IsTree w tv T) (pv : Value) (p : List St) (hp : IsSteps w pv p) (vv : Value) (v : JV) (hv : IsVal w vv v) :
    Calls Try.prog 3 #[tv, pv, vv] w fun e w' => e = .returned (.bool true) ∧ Below w.heap.size w w' := by
  obtain ⟨rfl, hT⟩ := hT
  obtain ⟨A, c, rfl, hA, hl, hcap⟩ := hp
  obtain ⟨rfl, hv⟩ := hv
  have HH := Lib.hid (And.intro hT (And.intro hA (And.intro hl (And.intro hcap hv))))
  clear hT hA hl hcap hv
  unfold PT.value PT.cells JV.cells
  go_enter Try.func3, Try.ntmps3
  go_wp2_with fail
  refine calls_at (fun W => Boxes w T v W ∧ Blk W (w.heap.size + 2) 36 (stCells factP).toArray ∧ Blk W (w.heap.size + 3) 38 (patchCells 1 (some ⟨w.heap.size + 2, 0, none⟩) 1 1 factX).toArray) ⟨⟨(((Below.refl _ _).alloc (Nat.le_refl _) _ |>.alloc (by simp) _).alloc (by simp; omega) _).alloc (by simp; omega) _, (((Blk.new _ _ _).alloc _).alloc _).alloc _, ((Blk.newer _ _ _ (by simp)).alloc _).alloc _⟩, (Blk.newer _ _ _ (by simp)).alloc _, Blk.newer _ _ _ (by simp)⟩ ?_
  rintro W1 ⟨hBx, hst, hpa⟩
  have hf := apply_set1 (PT.bare factV) (some ⟨w.heap.size + 2, 0, none⟩) (some ⟨w.heap.size + 3, 0, none⟩) 1 1 factX factX_fit factP W1 (PT.bare_in W1 factV_fit) (SlAt.of_blk hst) (by decide) (by decide) (SlAt.of_blk hpa)
  refine hf.mono ?_
  have HB1 := Lib.hid hBx
  clear hf hst hpa hBx
  rintro e W2 ⟨hb2, hr⟩
  rw [PT.bare_tree, fact_check, fact_pat] at hr
  obtain ⟨F, hF, rfl⟩ : ∃ F : PT, F.kids.length = 1 ∧ e = .returned (.tuple #[F.value, .nilIface]) := by
    rcases hr with ⟨h, _⟩ | ⟨_, F, h1, h2, _⟩
    · exact absurd rfl h
    · refine ⟨F, ?_, h2⟩
      have := congrArg (fun t => t.kids.length) h1
      simp only [PT.tree_kids, List.length_map] at this
      rw [this]; rfl
  have HB2 := Lib.hid (HB1.out.below hb2)
  clear hr hb2
  rw [PT.value_eq, hF]
  clear hF
  have hbw2 : w.heap.size < W2.heap.size := HB2.out.t.lt
  have hvw2 : w.heap.size + 1 < W2.heap.size := HB2.out.v.lt
  have c0 : W2.cell? ⟨w.heap.size, 0, none⟩ = some (.int .i64 T.val.k) := HB2.out.t.cell 0
  have c1 : W2.cell? ⟨w.heap.size, 1, none⟩ = some (.int .i64 T.val.n) := HB2.out.t.cell 1
  have c2 : W2.cell? ⟨w.heap.size, 2, none⟩ = some (.string T.val.s) := HB2.out.t.cell 2
  have c3 : W2.cell? ⟨w.heap.size, 3, none⟩ = some (.int .i64 T.val.o) := HB2.out.t.cell 3
  have c4 : W2.cell? ⟨w.heap.size, 4, none⟩ = some (.int .i64 T.val.p) := HB2.out.t.cell 4
  have c5 : W2.cell? ⟨w.heap.size, 5, none⟩ = some (.slice T.kA T.keys.length T.kc) := HB2.out.t.cell 5
  have c6 : W2.cell? ⟨w.heap.size, 6, none⟩ = some (.slice T.cA T.kids.length T.cc) := HB2.out.t.cell 6
  go_wp2_with fail
  refine calls_at (fun W => Boxes w T v W) (HB2.out.below ((Below.refl _ _).alloc (Nat.le_refl _) _)) ?_
  clear c0 c1 c2 c3 c4 c5 c6 hbw2 hvw2
  rintro W3 hB3
  have HB3 := Lib.hid hB3
  refine (get_any T A c p W3 (HH.out.1.below hB3.bel) (HH.out.2.1.below hB3.bel) HH.out.2.2.1).mono ?_
  clear hB3
  rintro e W4 ⟨hb4, hg⟩
  have HB4 := Lib.hid (HB3.out.below hb4)
  obtain ⟨S, ev, rfl, hSf, hev, hget⟩ : ∃ (S : PT) (ev : Value), e = .returned (.tuple #[S.value, ev]) ∧ S.val.Fit ∧ (ev = .nilIface ∨ ∃ n, ev = .iface 65 (.int .i64 n)) ∧ (ev = .nilIface → T.tree.get p = some S.tree) := by
    rcases hg with ⟨h1, rfl⟩ | ⟨_, ⟨_, rfl⟩ | ⟨S, h1, rfl, h2, _⟩⟩
    · refine ⟨PT.bare zeroV, checkV T.tree, by rw [zTree_eq], zeroV_fit, ?_, fun h => absurd h h1⟩
      rcases checkV_cases T.tree with h | ⟨n, h⟩
      · exact absurd h h1
      · exact .inr ⟨n, h⟩
    · exact ⟨PT.bare zeroV, _, by rw [zTree_eq], zeroV_fit, .inr ⟨6, rfl⟩, fun h => by cases h⟩
    · exact ⟨S, _, rfl, h2.slot.fit, .inl rfl, fun _ => h1⟩
  have HS := Lib.hid (And.intro hSf (And.intro hev hget))
  clear hg hb4 hSf hev hget
  rw [PT.value_eq]
  have hbw4 : w.heap.size < W4.heap.size := HB4.out.t.lt
  have hvw4 : w.heap.size + 1 < W4.heap.size := HB4.out.v.lt
  have c0 : W4.cell? ⟨w.heap.size, 0, none⟩ = some (.int .i64 T.val.k) := HB4.out.t.cell 0
  have c1 : W4.cell? ⟨w.heap.size, 1, none⟩ = some (.int .i64 T.val.n) := HB4.out.t.cell 1
  have c2 : W4.cell? ⟨w.heap.size, 2, none⟩ = some (.string T.val.s) := HB4.out.t.cell 2
  have c3 : W4.cell? ⟨w.heap.size, 3, none⟩ = some (.int .i64 T.val.o) := HB4.out.t.cell 3
  have c4 : W4.cell? ⟨w.heap.size, 4, none⟩ = some (.int .i64 T.val.p) := HB4.out.t.cell 4
  have c5 : W4.cell? ⟨w.heap.size, 5, none⟩ = some (.slice T.kA T.keys.length T.kc) := HB4.out.t.cell 5
  have c6 : W4.cell? ⟨w.heap.size, 6, none⟩ = some (.slice T.cA T.kids.length T.cc) := HB4.out.t.cell 6
  have d0 : W4.cell? ⟨w.heap.size + 1, 0, none⟩ = some (.int .i64 v.k) := HB4.out.v.cell 0
  have d1 : W4.cell? ⟨w.heap.size + 1, 1, none⟩ = some (.int .i64 v.n) := HB4.out.v.cell 1
  have d2 : W4.cell? ⟨w.heap.size + 1, 2, none⟩ = some (.string v.s) := HB4.out.v.cell 2
  have d3 : W4.cell? ⟨w.heap.size + 1, 3, none⟩ = some (.int .i64 v.o) := HB4.out.v.cell 3
  have d4 : W4.cell? ⟨w.heap.size + 1, 4, none⟩ = some (.int .i64 v.p) := HB4.out.v.cell 4
  go_wp2_with fail
  refine calls_at (fun W => Boxes w T v W ∧ Blk W W4.heap.size 29 #[.int .i64 S.val.k, .int .i64 S.val.n, .string S.val.s, .int .i64 S.val.o, .int .i64 S.val.p, .slice S.kA S.keys.length S.kc, .slice S.cA S.kids.length S.cc] ∧ Blk W (W4.heap.size + 1) 38 (patchCells 1 A p.length c v).toArray) ⟨HB4.out.below (((Below.refl _ _).alloc (Nat.le_refl _) _).alloc (by simp) _), (Blk.new _ _ _).alloc _, Blk.newer _ _ _ (by simp)⟩ ?_
  clear c0 c1 c2 c3 c4 c5 c6 d0 d1 d2 d3 d4 hbw4 hvw4
  rintro W5 ⟨hB5, hS5, hpa⟩
  have HB5 := Lib.hid (And.intro hB5 hS5)
  refine (apply_set1 T A (some ⟨W4.heap.size + 1, 0, none⟩) c 1 v HH.out.2.2.2.2 p W5 (HH.out.1.below hB5.bel) (HH.out.2.1.below hB5.bel) HH.out.2.2.1 HH.out.2.2.2.1 (SlAt.of_blk hpa)).mono ?_
  clear hB5 hS5 hpa
  rintro e W6 ⟨hb6, hr⟩
  have HB6 := Lib.hid (And.intro (HB5.out.1.below hb6) (HB5.out.2.below hb6 HB5.out.2.lt))
  have hcase : (∃ n, e = .returned (.tuple #[zTree, .iface 65 (.int .i64 n)])) ∨ (checkV T.tree = .nilIface ∧ ∃ U : PT, patR 1 v T.tree p = .ok U.tree ∧ e = .returned (.tuple #[U.value, .nilIface]) ∧ OwnJ 9 29 W6 U) := by
    rcases hr with ⟨h1, rfl⟩ | ⟨h1, h2⟩
    · rcases checkV_cases T.tree with h | ⟨n, h⟩
      · exact absurd h h1
      · exact .inl ⟨n, by rw [h]⟩
    · cases hp : patR 1 v T.tree p with
      | error n => rw [hp] at h2; exact .inl ⟨n, h2⟩
      | ok u =>
        rw [hp] at h2
        obtain ⟨U, rfl, h3, h4, _⟩ := h2
        exact .inr ⟨h1, U, rfl, h3, h4⟩
  clear hr hb6
  rcases hcase with ⟨n, rfl⟩ | ⟨hck, U, hpU, rfl, hoU⟩
  · unfold zTree
    go_wp2_with fail
    go_ret
    exact ⟨rfl, HB6.out.1.bel.trans ((Below.refl _ _).alloc HB6.out.1.bel.size _)⟩
  · have HU := Lib.hid (And.intro hck (And.intro hpU hoU))
    clear hck hpU hoU
    rw [PT.value_eq]
    have hbw6 : w.heap.size < W6.heap.size := HB6.out.1.t.lt
    have hvw6 : w.heap.size + 1 < W6.heap.size := HB6.out.1.v.lt
    go_wp2_with fail
    refine calls_at (fun W => Boxes w T v W ∧ Blk W W4.heap.size 29 #[.int .i64 S.val.k, .int .i64 S.val.n, .string S.val.s, .int .i64 S.val.o, .int .i64 S.val.p, .slice S.kA S.keys.length S.kc, .slice S.cA S.kids.length S.cc] ∧ Blk W W6.heap.size 29 #[.int .i64 U.val.k, .int .i64 U.val.n, .string U.val.s, .int .i64 U.val.o, .int .i64 U.val.p, .slice U.kA U.keys.length U.kc, .slice U.cA U.kids.length U.cc] ∧ InJ W U) ⟨HB6.out.1.below ((Below.refl _ _).alloc (Nat.le_refl _) _), HB6.out.2.alloc _, Blk.new _ _ _, HU.out.2.2.inJ.alloc _⟩ ?_
    clear hbw6 hvw6
    rintro W7 ⟨hB7, hS7, hU7, hi7⟩
    have HB7 := Lib.hid (And.intro hB7 (And.intro hS7 (And.intro hU7 hi7)))
    refine (get_any U A c p W7 hi7 (HH.out.2.1.below hB7.bel) HH.out.2.2.1).mono ?_
    clear hB7 hS7 hU7 hi7
    rintro e W8 ⟨hb8, hg⟩
    obtain ⟨s1, s2, s3⟩ := set_ok HU.out.2.1 HU.out.1
    obtain ⟨N, rfl, hNv, hNk⟩ : ∃ N : PT, e = .returned (.tuple #[N.value, .nilIface]) ∧ N.val = v ∧ N.kids.length = 0 := by
      rcases hg with ⟨h1, _⟩ | ⟨_, ⟨h1, _⟩ | ⟨N, h1, h2, _⟩⟩
      · exact absurd s1 h1
      · rw [s2] at h1; cases h1
      · rw [s2] at h1
        injection h1 with h1
        refine ⟨N, h2, ?_, ?_⟩
        · have := congrArg JT.val h1; rw [PT.tree_val] at this; rw [← this]; rfl
        · have := congrArg (fun t => t.kids.length) h1; simp only [PT.tree_kids, List.length_map] at this; rw [← this]; rfl
    have HB8 := Lib.hid (And.intro (HB7.out.1.below hb8) (And.intro (HB7.out.2.1.below hb8 HB7.out.2.1.lt) (And.intro (HB7.out.2.2.1.below hb8 HB7.out.2.2.1.lt) (HB7.out.2.2.2.below hb8))))
    have HSS := Lib.hid (And.intro s1 s3)
    clear hg hb8 s1 s2 s3
    rw [PT.value_eq, hNv, hNk]
    clear hNv hNk
    have hbw8 : w.heap.size < W8.heap.size := HB8.out.1.t.lt
    have hvw8 : w.heap.size + 1 < W8.heap.size := HB8.out.1.v.lt
    have hsw8 : W4.heap.size < W8.heap.size := HB8.out.2.1.lt
    have huw8 : W6.heap.size < W8.heap.size := HB8.out.2.2.1.lt
    have d0 : W8.cell? ⟨w.heap.size + 1, 0, none⟩ = some (.int .i64 v.k) := HB8.out.1.v.cell 0
    have d1 : W8.cell? ⟨w.heap.size + 1, 1, none⟩ = some (.int .i64 v.n) := HB8.out.1.v.cell 1
    have d2 : W8.cell? ⟨w.heap.size + 1, 2, none⟩ = some (.string v.s) := HB8.out.1.v.cell 2
    have d3 : W8.cell? ⟨w.heap.size + 1, 3, none⟩ = some (.int .i64 v.o) := HB8.out.1.v.cell 3
    have d4 : W8.cell? ⟨w.heap.size + 1, 4, none⟩ = some (.int .i64 v.p) := HB8.out.1.v.cell 4
    have p0 : W8.cell? ⟨W4.heap.size, 0, none⟩ = some (.int .i64 S.val.k) := HB8.out.2.1.cell 0
    have p1 : W8.cell? ⟨W4.heap.size, 1, none⟩ = some (.int .i64 S.val.n) := HB8.out.2.1.cell 1
    have p2 : W8.cell? ⟨W4.heap.size, 2, none⟩ = some (.string S.val.s) := HB8.out.2.1.cell 2
    have p3 : W8.cell? ⟨W4.heap.size, 3, none⟩ = some (.int .i64 S.val.o) := HB8.out.2.1.cell 3
    have p4 : W8.cell? ⟨W4.heap.size, 4, none⟩ = some (.int .i64 S.val.p) := HB8.out.2.1.cell 4
    have p5 : W8.cell? ⟨W4.heap.size, 5, none⟩ = some (.slice S.kA S.keys.length S.kc) := HB8.out.2.1.cell 5
    have p6 : W8.cell? ⟨W4.heap.size, 6, none⟩ = some (.slice S.cA S.kids.length S.cc) := HB8.out.2.1.cell 6
    have u0 : W8.cell? ⟨W6.heap.size, 0, none⟩ = some (.int .i64 U.val.k) := HB8.out.2.2.1.cell 0
    have u1 : W8.cell? ⟨W6.heap.size, 1, none⟩ = some (.int .i64 U.val.n) := HB8.out.2.2.1.cell 1
    have u2 : W8.cell? ⟨W6.heap.size, 2, none⟩ = some (.string U.val.s) := HB8.out.2.2.1.cell 2
    have u3 : W8.cell? ⟨W6.heap.size, 3, none⟩ = some (.int .i64 U.val.o) := HB8.out.2.2.1.cell 3
    have u4 : W8.cell? ⟨W6.heap.size, 4, none⟩ = some (.int .i64 U.val.p) := HB8.out.2.2.1.cell 4
    have u5 : W8.cell? ⟨W6.heap.size, 5, none⟩ = some (.slice U.kA U.keys.length U.kc) := HB8.out.2.2.1.cell 5
    have u6 : W8.cell? ⟨W6.heap.size, 6, none⟩ = some (.slice U.cA U.kids.length U.cc) := HB8.out.2.2.1.cell 6
    rcases HS.out.2.1 with rfl | ⟨n, rfl⟩
    case inr =>
      go_wp2_with fail
      go_ret
      exact ⟨rfl, HB8.out.1.bel.trans ((Below.refl _ _).alloc HB8.out.1.bel.size _)⟩
    case inl =>
      by_cases hk : S.val.k ≤ 3
      case neg =>
        go_wp2_with fail
        go_ret
        exact ⟨rfl, HB8.out.1.bel.trans ((Below.refl _ _).alloc HB8.out.1.bel.size _)⟩
      case pos =>
        have HK := Lib.hid hk
        have hk' : ¬ 3 < S.val.k := by omega
        clear hk
        go_wp2_with fail
        refine calls_at (fun W => Boxes w T v W ∧ InJ W U ∧ Blk W (W8.heap.size + 1) 38 (patchCells 1 A p.length c S.val).toArray) ⟨HB8.out.1.below (((Below.refl _ _).alloc (Nat.le_refl _) _).alloc (by simp) _), (HB8.out.2.2.2.alloc _).alloc _, Blk.newer _ _ _ (by simp)⟩ ?_
        clear d0 d1 d2 d3 d4 p0 p1 p2 p3 p4 p5 p6 u0 u1 u2 u3 u4 u5 u6 hbw8 hvw8 hsw8 huw8 hk'
        rintro W9 ⟨hB9, hU9, hpa⟩
        have HB9 := Lib.hid hB9
        have hSf : S.val.Fit := HS.out.1
        refine (apply_set1 U A (some ⟨W8.heap.size + 1, 0, none⟩) c 1 S.val hSf p W9 hU9 (HH.out.2.1.below hB9.bel) HH.out.2.2.1 HH.out.2.2.2.1 (SlAt.of_blk hpa)).mono ?_
        clear hB9 hU9 hpa hSf
        rintro e W10 ⟨hb10, hr⟩
        have hpR : patR 1 S.val U.tree p = .ok T.tree := by
          have := HSS.out.2 S.tree (HS.out.2.2 trivial) (by rw [PT.tree_val]; exact HK.out)
          rwa [PT.tree_val] at this
        rw [hpR] at hr
        obtain ⟨B, hBt, rfl, hBo⟩ : ∃ B : PT, B.tree = T.tree ∧ e = .returned (.tuple #[B.value, .nilIface]) ∧ OwnJ 9 29 W10 B := by
          rcases hr with ⟨h1, _⟩ | ⟨_, B, h1, h2, h3, _⟩
          · exact absurd HSS.out.1 h1
          · exact ⟨B, h1, h2, h3⟩
        have HB10 := Lib.hid (And.intro (HB9.out.below hb10) (And.intro hBt hBo))
        clear hr hb10 hpR hBt hBo
        rw [PT.value_eq]
        have hbw10 : w.heap.size < W10.heap.size := HB10.out.1.t.lt
        have c0 : W10.cell? ⟨w.heap.size, 0, none⟩ = some (.int .i64 T.val.k) := HB10.out.1.t.cell 0
        have c1 : W10.cell? ⟨w.heap.size, 1, none⟩ = some (.int .i64 T.val.n) := HB10.out.1.t.cell 1
        have c2 : W10.cell? ⟨w.heap.size, 2, none⟩ = some (.string T.val.s) := HB10.out.1.t.cell 2
        have c3 : W10.cell? ⟨w.heap.size, 3, none⟩ = some (.int .i64 T.val.o) := HB10.out.1.t.cell 3
        have c4 : W10.cell? ⟨w.heap.size, 4, none⟩ = some (.int .i64 T.val.p) := HB10.out.1.t.cell 4
        have c5 : W10.cell? ⟨w.heap.size, 5, none⟩ = some (.slice T.kA T.keys.length T.kc) := HB10.out.1.t.cell 5
        have c6 : W10.cell? ⟨w.heap.size, 6, none⟩ = some (.slice T.cA T.kids.length T.cc) := HB10.out.1.t.cell 6
        go_wp2_with fail
        refine calls_at (fun W => Below w.heap.size w W ∧ InJ W B) ⟨HB10.out.1.bel.trans ((Below.refl _ _).alloc HB10.out.1.bel.size _), HB10.out.2.2.inJ.alloc _⟩ ?_
        rintro W11 ⟨hb11, hi11⟩
        have hs := same_any B T W11 hi11 (HH.out.1.below hb11) HB10.out.2.1 W11 (Below.refl _ _)
        rw [PT.value_eq, PT.value_eq] at hs
        refine hs.mono ?_
        clear hs
        rintro e W12 ⟨rfl, hb12⟩
        have HB12 := Lib.hid (hb11.trans (hb12.mono hb11.size))
        clear hb11 hi11 hb12 c0 c1 c2 c3 c4 c5 c6 hbw10
        go_wp2_with fail
        go_ret
        exact ⟨rfl, HB12.out⟩
end Go.Proofs.Ythbjlbnaoaolbaa
