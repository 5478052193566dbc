/- bookref3.Paths: the contract. -/
import Derived.Test.YtljemaapicaioaaDoorPaths
namespace Go.Proofs.YtljemaapicaioaaDoor
open Go.RowKit
set_option linter.unusedVariables false
set_option linter.unusedSimpArgs false

/-- What Paths gives. -/
def RPathsQ (S : Nat → Prop) (w : World) (ps : List (List St)) (e : Ending) (w' : World) : Prop :=
  ∃ B c l, e = .returned (.slice B (List.length l) c) ∧ List.map SP.p l = ps ∧ SlAt w' B (List.map SP.cell l) ∧ PathsIn w' S l ∧ Below w.heap.size w w'

def ownS (S : Nat → Prop) (OA : Option Addr) (b : Nat) : Prop := S b ∨ (Value.slice OA 0 0).ownBlock = some b
theorem ownB (OA : Option Addr) (n c : Nat) : (Value.slice OA n c).ownBlock = (Value.slice OA 0 0).ownBlock := by cases OA <;> rfl
/-- The boxes, and what there is of the answer. -/
structure OutR (S : Nat → Prop) (w : World) (x : JV) (T : PT) (OA : Option Addr) (oc : Nat) (l : List SP) (W : World) : Prop where
  bel : Below w.heap.size w W
  t : Blk W w.heap.size 47 #[.int .i64 T.val.k, .int .i64 T.val.n, .string T.val.s, .int .i64 T.val.o, .int .i64 T.val.p, .slice T.kA T.keys.length T.kc, .slice T.cA T.kids.length T.cc]
  x : Blk W (w.heap.size + 1) 43 #[.int .i64 x.k, .int .i64 x.n, .string x.s, .int .i64 x.o, .int .i64 x.p]
  own : W.ownsRow 0 54 1 (.slice OA l.length oc) l.length (l.map SP.cell)
  low : ∀ k, (Value.slice OA 0 0).ownBlock = some k → w.heap.size + 2 ≤ k
  ins : PathsIn W (ownS S OA) l
theorem OutR.below {S : Nat → Prop} {w : World} {x : JV} {T : PT} {OA : Option Addr} {oc : Nat} {l : List SP} {W W' : World} (h : OutR S w x T OA oc l W) (hb : Below W.heap.size W W') : OutR S w x T OA oc l W' :=
  ⟨h.bel.trans (hb.mono h.bel.size), h.t.below hb h.t.lt, h.x.below hb h.x.lt, owns_below h.own hb, h.low, h.ins.below hb⟩

/-- One or more paths more. -/
theorem OutR.grow {S : Nat → Prop} {w : World} {x : JV} {T : PT} {OA OA' : Option Addr} {oc oc' : Nat} {l m : List SP} {W W' : World} (h : OutR S w x T OA oc l W) (hS : ∀ b, S b → b < w.heap.size) (hm : PathsIn W (ownS S OA) m)
    (ho : W'.ownsRow 0 54 1 (.slice OA' (l.length + m.length) oc') (l.length + m.length) (l.map SP.cell ++ m.map SP.cell)) (hg : W.grownBy W' (Value.slice OA l.length oc).ownBlock) (hA : (OA' = OA ∧ oc' = oc) ∨ OA' = some ⟨W.heap.size, 0, none⟩) :
    OutR S w x T OA' oc' (l ++ m) W' := by
  have hO := Only.of_grown hg
  rw [ownB] at hO
  have hlow := h.low
  have hn : ∀ k, (Value.slice OA 0 0).ownBlock = some k → k ≠ w.heap.size ∧ k ≠ w.heap.size + 1 := fun k hk => by have := h.low k hk; omega
  have hsz := h.x.lt
  have hT : ∀ b, b < W.heap.size → ownS S OA' b → ownS S OA b := by
    intro b hb g
    rcases g with g | g
    · exact .inl g
    · rcases hA with ⟨rfl, _⟩ | rfl
      · exact .inr g
      · simp [Value.ownBlock] at g; omega
  have hO' : Only (ownS S OA) W W' := hO.mono (fun k _ g => .inr g)
  refine ⟨h.bel.trans (grown_below hg h.bel.size (fun k hk => by rw [ownB] at hk; have := h.low k hk; omega)), h.t.only hO (fun g => (hn _ g).1 rfl), h.x.only hO (fun g => (hn _ g).2 rfl), ?_, ?_, ?_⟩
  · rw [List.length_append, List.map_append]; exact ho
  · intro k hk
    rcases hA with ⟨rfl, _⟩ | rfl
    · exact h.low k hk
    · simp [Value.ownBlock] at hk; omega
  · exact (h.ins.turn hO' hT).append (hm.turn hO' hT)

set_option maxRecDepth 100000 in
set_option maxHeartbeats 8000000 in
theorem rpaths_any (x : JV) : ∀ (T : PT) (W0 : World) (hT : InJ W0 T) (hf : T.tree.formed = true) (S : Nat → Prop) (A : Option Addr) (c : Nat) (p : List St) (w : World) (hb : Below W0.heap.size W0 w) (hS : ∀ b, S b → b < w.heap.size) (hA : SlN w S A (stCells p)) (hl : p.length + T.tree.size ≤ 1000),
    Calls Tryd.prog 20 #[T.value, .agg #[.int .i64 x.k, .int .i64 x.n, .string x.s, .int .i64 x.o, .int .i64 x.p], .slice A p.length c] w (RPathsQ S w (T.tree.paths x p)) := by
  intro T
  refine PT.ind (P := fun T => ∀ (W0 : World) (hT : InJ W0 T) (hf : T.tree.formed = true) (S : Nat → Prop) (A : Option Addr) (c : Nat) (p : List St) (w : World) (hb : Below W0.heap.size W0 w) (hS : ∀ b, S b → b < w.heap.size) (hA : SlN w S A (stCells p)) (hl : p.length + T.tree.size ≤ 1000),
    Calls Tryd.prog 20 #[T.value, .agg #[.int .i64 x.k, .int .i64 x.n, .string x.s, .int .i64 x.o, .int .i64 x.p], .slice A p.length c] w (RPathsQ S w (T.tree.paths x p))) ?_ T
  clear T
  intro v kA kc keys cA cc kids ih W0 hT hf S A c p w hb hS hA hl
  have hsl := hT.slot
  have hpe : (PT.node v kA kc keys cA cc kids).tree.paths x p = hitP x v p ++ JT.pathsL x v keys 0 (kids.map PT.tree) p := by
    rw [JT.paths_eq, PT.tree_val, PT.tree_keys, PT.tree_kids]; rfl
  have hsz : (PT.node v kA kc keys cA cc kids).tree.size = 1 + JT.sizeL (kids.map PT.tree) := by rw [JT.size_eq, PT.tree_kids]; rfl
  have hkl : v.k = 5 → keys.length = kids.length := by
    intro h5
    have h1 := ((JT.formed_iff _).1 hf).1
    unfold JT.top at h1
    rw [PT.tree_val, PT.tree_keys, PT.tree_kids] at h1
    simp only [PT.val, PT.keys, PT.kids, h5, if_true] at h1
    simp at h1
    exact h1.2.1
  have hcl : kids.length ≤ 9223372036854775807 := Nat.le_trans hsl.clen (by decide)
  have hfk : ∀ k ∈ kids, k.tree.formed = true := fun k hk => ((JT.formed_iff _).1 hf).2 k.tree (by rw [PT.tree_kids]; exact List.mem_map.2 ⟨k, hk, rfl⟩)
  have HI := Lib.hid (fun (i : Nat) (k : PT) (h1 : kids[i]? = some k) => ih k (List.mem_of_getElem? h1) W0 (hT.kids k (List.mem_of_getElem? h1)) (hfk k (List.mem_of_getElem? h1)))
  have HP := Lib.hid hpe
  have HS := Lib.hid (And.intro hsl (And.intro hb (And.intro hS (And.intro hA (And.intro hl (And.intro hsz hkl))))))
  rw [PT.value_eq]
  simp only [PT.val, PT.keys, PT.kids, PT.kA, PT.kc, PT.cA, PT.cc]
  have hq : ∀ w, (binOp .eql 43 (.agg #[.int .i64 v.k, .int .i64 v.n, .string v.s, .int .i64 v.o, .int .i64 v.p]) (.agg #[.int .i64 x.k, .int .i64 x.n, .string x.s, .int .i64 x.o, .int .i64 x.p])).run Tryd.prog w = .ok (.bool (v.same x)) w := run_eql_val v x
  have hpl : p.length ≤ 1000 := by omega
  have HW1 := Lib.hid (show ∀ (W : World), Below ((w.alloc (.cells #[.int .i64 v.k, .int .i64 v.n, .string v.s, .int .i64 v.o, .int .i64 v.p, .slice kA keys.length kc, .slice cA kids.length cc] 47)).alloc (.cells #[.int .i64 x.k, .int .i64 x.n, .string x.s, .int .i64 x.o, .int .i64 x.p] 43)).heap.size ((w.alloc (.cells #[.int .i64 v.k, .int .i64 v.n, .string v.s, .int .i64 v.o, .int .i64 v.p, .slice kA keys.length kc, .slice cA kids.length cc] 47)).alloc (.cells #[.int .i64 x.k, .int .i64 x.n, .string x.s, .int .i64 x.o, .int .i64 x.p] 43)) W → OutR S w x (.node v kA kc keys cA cc kids) none 0 [] W from by
    intro W hW
    obtain ⟨h1, h2, h3, h4⟩ := boxes2 hW
    exact ⟨h1, h2, h3, World.ownsRow_nil _ _ _ _, by simp [Value.ownBlock], by intro s hs; simp at hs⟩)
  clear ih hsl hpe hsz hkl hfk hT hf hb hS hA hl
  obtain ⟨r, hr⟩ : ∃ r, v.same x = r := ⟨_, rfl⟩
  rw [hr] at hq
  have HR := Lib.hid hr
  clear hr
  cases r with
  | true =>
    obtain ⟨A', c', w', hr, ho, hg, hA'⟩ := run_append_sl (P := Tryd.prog) (((w.alloc (.cells #[.int .i64 v.k, .int .i64 v.n, .string v.s, .int .i64 v.o, .int .i64 v.p, .slice kA keys.length kc, .slice cA kids.length cc] 47)).alloc (.cells #[.int .i64 x.k, .int .i64 x.n, .string x.s, .int .i64 x.o, .int .i64 x.p] 43)).alloc (.cells #[.slice A p.length c] 54)) 50 50 54 Tryd.underlying50 infoPath rfl (by decide) none 0 0 [] (World.ownsRow_nil _ _ _ _) (some ⟨w.heap.size + 1 + 1, 0, none⟩) 1 1 [.slice A p.length c] rfl (SlAt.of_blk (Blk.newer _ _ _ (by simp))) (by intro u hu; simp at hu; rw [hu]; rfl) (by simp only [maxLen]; omega) (by omega)
    have hr' : ∀ ty, (Builtin.append_ #[50, 50] ty #[.slice none 0 0, .slice (some ⟨w.heap.size + 1 + 1, 0, none⟩) 1 1]).run Tryd.prog (((w.alloc (.cells #[.int .i64 v.k, .int .i64 v.n, .string v.s, .int .i64 v.o, .int .i64 v.p, .slice kA keys.length kc, .slice cA kids.length cc] 47)).alloc (.cells #[.int .i64 x.k, .int .i64 x.n, .string x.s, .int .i64 x.o, .int .i64 x.p] 43)).alloc (.cells #[.slice A p.length c] 54)) = .ok (.slice A' 1 c') w' := fun _ => hr
    have hO1 := HW1.out _ ((Below.refl _ _).alloc (Nat.le_refl _) (.cells #[.slice A p.length c] 54))
    have hO2 := hO1.grow (m := [⟨A, c, p⟩]) HS.out.2.2.1 (by
      intro s hs
      simp at hs
      subst hs
      refine ⟨(HS.out.2.2.2.1.below hO1.bel).weak ?_, hpl⟩
      rintro b (g | g)
      · exact g
      · simp [Value.ownBlock] at g) ho hg hA'
    have HO := Lib.hid hO2
    have HR' := Lib.hid hr'
    clear hr hr' ho hg hA' hO1 hO2
    go_enter Tryd.func20, Tryd.ntmps20
    go_wp2_with (at_builtin; refine Lib.wpList_append_run _ rfl _ _ _ _ rfl _ _ rfl rfl _ _ (HR'.out _) ?_)
    clear HR' hq
    refine wp_at (fun W => ∃ OA oc l, (Value.slice A' 1 c' = .slice OA (List.length l) oc) ∧ OutR S w x (.node v kA kc keys cA cc kids) OA oc l W ∧ List.map SP.p l = hitP x v p) ⟨A', c', [⟨A, c, p⟩], rfl, HO.out, by simp [hitP, HR.out]⟩ ?_
    clear HO
    rintro W1 ⟨OA0, oc0, l0, hv0, hO0, hp0⟩
    have HV := Lib.hid hv0
    clear hv0
    have HSt := Lib.hid (And.intro hO0 hp0)
    clear hO0 hp0
    go_loopw [7, 8] (fun ov iv wr => ∃ (i : Nat) (OA : Option Addr) (oc : Nat) (l : List SP), iv = .int .i64 i ∧ ov = .slice OA (List.length l) oc ∧ i ≤ kids.length ∧ OutR S w x (.node v kA kc keys cA cc kids) OA oc l wr ∧ List.map SP.p l = hitP x v p ++ JT.pathsL x v keys 0 ((kids.map PT.tree).take i) p) (fun _ iv _ => kids.length - (intOf iv).toNat)
    case atStart => exact ⟨0, OA0, oc0, l0, rfl, HV.out, by omega, HSt.out.1, by rw [HSt.out.2]; simp [JT.pathsL]⟩
    case round =>
      obtain ⟨i, OA, oc, l, rfl, rfl, hi, hO, hp⟩ := hrel
      have t6 : wr.cell? ⟨w.heap.size, 6, none⟩ = some (.slice cA kids.length cc) := hO.t.cell 6
      have t0 : wr.cell? ⟨w.heap.size, 0, none⟩ = some (.int .i64 v.k) := hO.t.cell 0
      have hltw := hO.t.lt
      by_cases hlt : i < kids.length
      · have hlti : (i : Int) < (kids.length : Int) := by omega
        obtain ⟨K, hK⟩ : ∃ K, kids[i]? = some K := ⟨_, List.getElem?_eq_getElem hlt⟩
        have HX := Lib.hid (And.intro hO (And.intro hp hK))
        by_cases h5 : v.k = 5
        · obtain ⟨y, hy⟩ : ∃ y, keys[i]? = some y := ⟨_, List.getElem?_eq_getElem (by rw [HS.out.2.2.2.2.2.2 h5]; exact hlt)⟩
          have hkl := HS.out.2.2.2.2.2.2 h5
          obtain ⟨bk, off, hkA, hcy⟩ := (HS.out.1.keys.below (HS.out.2.1.trans (hO.bel.mono HS.out.2.1.size))).at_ (j := i) (u := .string y) (by simp only [PT.keys]; simp [hy])
          simp only [PT.kA] at hkA
          have t5 : wr.cell? ⟨w.heap.size, 5, none⟩ = some (.slice kA keys.length kc) := hO.t.cell 5
          rw [hkA, hkl] at t5
          have hbk : bk < wr.heap.size := cell_lt hcy
          have H5 := Lib.hid (And.intro h5 hy)
          clear hO hp hK hkA hy hkl
          rw [h5] at t0
          clear h5
          obtain ⟨hOa, hSa⟩ := (⟨HX.out.1.below ((Below.refl _ wr).alloc (Nat.le_refl _) (.cells #[.string y, .int .i64 0] 56)), Blk.new _ _ _⟩ : OutR S w x (.node v kA kc keys cA cc kids) OA oc l (wr.alloc (.cells #[.string y, .int .i64 0] 56)) ∧ Blk (wr.alloc (.cells #[.string y, .int .i64 0] 56)) wr.heap.size 56 #[.string y, .int .i64 0])
          have hAa : SlN (wr.alloc (.cells #[.string y, .int .i64 0] 56)) S A (stCells p) := HS.out.2.2.2.1.below hOa.bel
          obtain ⟨PA, pc, Wb, hr1, ho1, hg1, hA1⟩ := run_append_sl (P := Tryd.prog) (wr.alloc (.cells #[.string y, .int .i64 0] 56)) 54 54 56 Tryd.underlying54 infoStep' rfl (by decide) none 0 0 [] (World.ownsRow_nil _ _ _ _) A p.length c (stCells p) (stCells_len p) hAa.sl (st_one p) (by simp only [maxLen]; omega) (by omega)
          rw [Nat.zero_add] at hr1 ho1
          rw [List.nil_append] at ho1
          have hr1' : ∀ ty, (Builtin.append_ #[54, 54] ty #[.slice none 0 0, .slice A p.length c]).run Tryd.prog (wr.alloc (.cells #[.string y, .int .i64 0] 56)) = .ok (.slice PA p.length pc) Wb := fun _ => hr1
          have hb1 : Below (wr.alloc (.cells #[.string y, .int .i64 0] 56)).heap.size (wr.alloc (.cells #[.string y, .int .i64 0] 56)) Wb := grown_below hg1 (Nat.le_refl _) (by simp [Value.ownBlock])
          have hlowP : ∀ k, (Value.slice PA p.length pc).ownBlock = some k → (wr.alloc (.cells #[.string y, .int .i64 0] 56)).heap.size ≤ k := by
            intro k hk
            rcases hA1 with ⟨h, _⟩ | h
            · rw [h] at hk; cases hk
            · rw [h] at hk
              injection hk with hk
              exact Nat.le_of_eq hk
          have hSb := hSa.below hb1 hSa.lt
          have g0 : Wb.cell? ⟨wr.heap.size, 0, none⟩ = some (.string y) := hSb.cell 0
          have g1 : Wb.cell? ⟨wr.heap.size, 1, none⟩ = some (.int .i64 0) := hSb.cell 1
          have H1 := Lib.hid (And.intro hOa (And.intro ho1 (And.intro hb1 hlowP)))
          have HR1 := Lib.hid hr1'
          clear hOa hSa hAa hr1 hr1' ho1 hg1 hA1 hb1 hlowP hSb
          obtain ⟨PA2, pc2, Wc, hr2, ho2, hg2, hA2⟩ := run_append_sl (P := Tryd.prog) (Wb.alloc (.cells #[.string y, .int .i64 0] 56)) 54 54 56 Tryd.underlying54 infoStep' rfl (by decide) PA p.length pc (stCells p) (H1.out.2.1.alloc _) (some ⟨Wb.heap.size, 0, none⟩) 1 1 [.string y, .int .i64 0] rfl (SlAt.of_blk (Blk.new _ _ _)) (by intro u hu; simp at hu; rcases hu with rfl | rfl <;> rfl) (by simp only [maxLen]; omega) (by omega)
          have hr2' : ∀ ty, (Builtin.append_ #[54, 54] ty #[.slice PA p.length pc, .slice (some ⟨Wb.heap.size, 0, none⟩) 1 1]).run Tryd.prog (Wb.alloc (.cells #[.string y, .int .i64 0] 56)) = .ok (.slice PA2 (p.length + 1) pc2) Wc := fun _ => hr2
          have hba : Below (wr.alloc (.cells #[.string y, .int .i64 0] 56)).heap.size (wr.alloc (.cells #[.string y, .int .i64 0] 56)) (Wb.alloc (.cells #[.string y, .int .i64 0] 56)) := H1.out.2.2.1.trans ((Below.refl _ _).alloc H1.out.2.2.1.size _)
          have hbc : Below (wr.alloc (.cells #[.string y, .int .i64 0] 56)).heap.size (wr.alloc (.cells #[.string y, .int .i64 0] 56)) Wc := hba.trans (grown_below hg2 hba.size (fun k hk => H1.out.2.2.2 k hk))
          have hstep : stCells p ++ [Value.string y, Value.int .i64 0] = stCells (p ++ [stepAt v keys i]) := by rw [stCells_append]; simp [stCells, St.cells, stepAt, H5.out.1, H5.out.2]
          rw [hstep] at ho2
          have hnewP : ∀ a, PA2 = some a → (wr.alloc (.cells #[.string y, .int .i64 0] 56)).heap.size ≤ a.block := by
            intro a ha
            rcases hA2 with ⟨h1, _⟩ | h1
            · exact H1.out.2.2.2 a.block (by rw [← h1, ha]; rfl)
            · rw [ha] at h1
              injection h1 with h1
              rw [h1]
              have := hba.size
              simp at this ⊢
              have h2 := H1.out.2.2.1.size
              omega
          have hOc := H1.out.1.below hbc
          have hpSl : SlN Wc (ownS S OA) PA2 (stCells (p ++ [stepAt v keys i])) := SlN.of_new (SlAt.of_owns ho2) (by
            intro a ha g
            have h1 := hnewP a ha
            rcases g with g | g
            · have := HS.out.2.2.1 _ g
              have := H1.out.1.bel.size
              omega
            · have := (H1.out.1.own.lt a.block (by rw [ownB]; exact g)).2
              omega)
          have hSc : ∀ b, ownS S OA b → b < Wc.heap.size := by
            intro b g
            rcases g with g | g
            · have := HS.out.2.2.1 _ g
              have := hOc.bel.size
              omega
            · exact (hOc.own.lt b (by rw [ownB]; exact g)).2
          have hWc : Below W0.heap.size W0 Wc := HS.out.2.1.trans (hOc.bel.mono HS.out.2.1.size)
          have htl : (kids.map PT.tree)[i]? = some K.tree := by rw [List.getElem?_map, HX.out.2.2]; rfl
          have hts := JT.sizeL_take_succ htl
          have htl2 := JT.sizeL_take_le (kids.map PT.tree) (i + 1)
          have hKl : (p ++ [stepAt v keys i]).length + K.tree.size ≤ 1000 := by
            have h1 := HS.out.2.2.2.2.1
            have h2 := HS.out.2.2.2.2.2.1
            simp only [List.length_append, List.length_cons, List.length_nil]
            omega
          have HC := HI.out i K HX.out.2.2 (ownS S OA) PA2 pc2 (p ++ [stepAt v keys i]) { Wc with drawn := Wc.drawn + 1 } hWc.drew (fun b g => hSc b g) (hpSl.below (Below.refl _ Wc).drew) hKl
          rw [show (p ++ [stepAt v keys i]).length = p.length + 1 from by simp] at HC
          have HCC := Lib.hid HC
          obtain ⟨bk, ok, hcA, p0, p1, p2, p3, p4, p5, p6⟩ := kid_cells (HS.out.1.kids.below hWc) HX.out.2.2
          simp only [PT.cA] at hcA
          have c6 : Wc.cell? ⟨w.heap.size, 6, none⟩ = some (.slice cA kids.length cc) := hOc.t.cell 6
          rw [hcA] at c6
          have x0 : Wc.cell? ⟨w.heap.size + 1, 0, none⟩ = some (.int .i64 x.k) := hOc.x.cell 0
          have x1 : Wc.cell? ⟨w.heap.size + 1, 1, none⟩ = some (.int .i64 x.n) := hOc.x.cell 1
          have x2 : Wc.cell? ⟨w.heap.size + 1, 2, none⟩ = some (.string x.s) := hOc.x.cell 2
          have x3 : Wc.cell? ⟨w.heap.size + 1, 3, none⟩ = some (.int .i64 x.o) := hOc.x.cell 3
          have x4 : Wc.cell? ⟨w.heap.size + 1, 4, none⟩ = some (.int .i64 x.p) := hOc.x.cell 4
          have H2 := Lib.hid (And.intro hOc (And.intro hSc (And.intro hts htl2)))
          have HR2 := Lib.hid hr2'
          have HT := Lib.hid htl
          have hltb : wr.heap.size < Wb.heap.size := by have := H1.out.2.2.1.size; simp at this; omega
          clear hr2 hr2' ho2 hg2 hA2 hba hbc hstep hnewP hOc hpSl hSc hWc htl hts htl2 hKl HC hcA
          go_wp2_with (at_builtin; first | refine Lib.wpList_append_run (o := ⟨some 40, _, _, _, _, _⟩) _ rfl _ _ _ _ rfl _ _ rfl rfl _ _ (HR1.out _) ?_ | refine Lib.wpList_append_run (o := ⟨some 44, _, _, _, _, _⟩) _ rfl _ _ _ _ rfl _ _ rfl rfl _ _ (HR2.out _) ?_)
          clear HR1 HR2 g0 g1 hltb t0 t5 t6 hltw hcy hbk
          clear hlti
          go_region_law (first
            | (refine step_append_run (o := ⟨some 54, _, _, _, _, _⟩) rfl _ _ _ _ rfl _ _ rfl rfl (HR3.out _) ?_)
            | (go_simp
               go_at_call 20
               refine HCC.out.mono ?_
               rintro e Wd ⟨B, bc, l2, rfl, hl2, hB2, hin2, hb2⟩
               have hb2' : Below Wc.heap.size Wc Wd := ⟨hb2.os, hb2.tape, hb2.output, hb2.size, hb2.block⟩
               have hOd := H2.out.1.below hb2'
               have hll : l.length ≤ 1001 := by
                 have h1 := congrArg List.length HX.out.2.1
                 simp only [List.length_map, List.length_append] at h1
                 have h2 := hitP_len x v p
                 have h3 := JT.pathsL_len x v keys p ((kids.map PT.tree).take i) 0
                 have h4 := JT.sizeL_take_le (kids.map PT.tree) i
                 have h5 := HS.out.2.2.2.2.1
                 have h6 := HS.out.2.2.2.2.2.1
                 omega
               have hl2l : l2.length ≤ 1000 := by
                 have h1 := congrArg List.length hl2
                 simp only [List.length_map] at h1
                 have h2 := JT.paths_len x K.tree (p ++ [stepAt v keys i])
                 have h3 := H2.out.2.2.1
                 have h4 := H2.out.2.2.2
                 have h5 := HS.out.2.2.2.2.1
                 have h6 := HS.out.2.2.2.2.2.1
                 omega
               obtain ⟨OA', oc', We, hr3, ho3, hg3, hA3⟩ := run_append_sl (P := Tryd.prog) Wd 50 50 54 Tryd.underlying50 infoPath rfl (by decide) OA l.length oc (l.map SP.cell) hOd.own B l2.length bc (l2.map SP.cell) (by simp) hB2 (sp_one l2) (by simp only [maxLen]; omega) (by omega)
               have hr3' : ∀ ty, (Builtin.append_ #[50, 50] ty #[.slice OA l.length oc, .slice B l2.length bc]).run Tryd.prog Wd = .ok (.slice OA' (l.length + l2.length) oc') We := fun _ => hr3
               have hOe := hOd.grow HS.out.2.2.1 hin2 ho3 hg3 hA3
               have HE := Lib.hid (And.intro hOe hl2)
               have HR3 := Lib.hid hr3'
               have hlen : (l ++ l2).length = l.length + l2.length := List.length_append
               have HLN := Lib.hid hlen
               clear hr3 hr3' ho3 hg3 hA3 hOd hOe hl2 hB2 hin2 hb2 hb2' hlen))
          all_goals
            go_wp2_with fail
            clear p0 p1 p2 p3 p4 p5 p6 c6 x0 x1 x2 x3 x4 HCC
            clear HR3
            go_roundw
            case rel =>
              refine ⟨i + 1, OA', oc', l ++ l2, by go_num, by rw [HLN.out], by omega, HE.out.1, ?_⟩
              rw [List.map_append, HX.out.2.1, HE.out.2, JT.pathsL_take x v keys p HT.out, List.append_assoc]
            case measure => simp [intOf] <;> omega
        · have h5b : (v.k == 5) = false := by simpa using h5
          have H5 := Lib.hid h5
          clear hO hp hK h5
          obtain ⟨hOa, hSa⟩ := (⟨HX.out.1.below ((Below.refl _ wr).alloc (Nat.le_refl _) (.cells #[.string ⟨#[]⟩, .int .i64 i] 56)), Blk.new _ _ _⟩ : OutR S w x (.node v kA kc keys cA cc kids) OA oc l (wr.alloc (.cells #[.string ⟨#[]⟩, .int .i64 i] 56)) ∧ Blk (wr.alloc (.cells #[.string ⟨#[]⟩, .int .i64 i] 56)) wr.heap.size 56 #[.string ⟨#[]⟩, .int .i64 i])
          have hAa : SlN (wr.alloc (.cells #[.string ⟨#[]⟩, .int .i64 i] 56)) S A (stCells p) := HS.out.2.2.2.1.below hOa.bel
          obtain ⟨PA, pc, Wb, hr1, ho1, hg1, hA1⟩ := run_append_sl (P := Tryd.prog) (wr.alloc (.cells #[.string ⟨#[]⟩, .int .i64 i] 56)) 54 54 56 Tryd.underlying54 infoStep' rfl (by decide) none 0 0 [] (World.ownsRow_nil _ _ _ _) A p.length c (stCells p) (stCells_len p) hAa.sl (st_one p) (by simp only [maxLen]; omega) (by omega)
          rw [Nat.zero_add] at hr1 ho1
          rw [List.nil_append] at ho1
          have hr1' : ∀ ty, (Builtin.append_ #[54, 54] ty #[.slice none 0 0, .slice A p.length c]).run Tryd.prog (wr.alloc (.cells #[.string ⟨#[]⟩, .int .i64 i] 56)) = .ok (.slice PA p.length pc) Wb := fun _ => hr1
          have hb1 : Below (wr.alloc (.cells #[.string ⟨#[]⟩, .int .i64 i] 56)).heap.size (wr.alloc (.cells #[.string ⟨#[]⟩, .int .i64 i] 56)) Wb := grown_below hg1 (Nat.le_refl _) (by simp [Value.ownBlock])
          have hlowP : ∀ k, (Value.slice PA p.length pc).ownBlock = some k → (wr.alloc (.cells #[.string ⟨#[]⟩, .int .i64 i] 56)).heap.size ≤ k := by
            intro k hk
            rcases hA1 with ⟨h, _⟩ | h
            · rw [h] at hk; cases hk
            · rw [h] at hk
              injection hk with hk
              exact Nat.le_of_eq hk
          have hSb := hSa.below hb1 hSa.lt
          have g0 : Wb.cell? ⟨wr.heap.size, 0, none⟩ = some (.string ⟨#[]⟩) := hSb.cell 0
          have g1 : Wb.cell? ⟨wr.heap.size, 1, none⟩ = some (.int .i64 i) := hSb.cell 1
          have H1 := Lib.hid (And.intro hOa (And.intro ho1 (And.intro hb1 hlowP)))
          have HR1 := Lib.hid hr1'
          clear hOa hSa hAa hr1 hr1' ho1 hg1 hA1 hb1 hlowP hSb
          obtain ⟨PA2, pc2, Wc, hr2, ho2, hg2, hA2⟩ := run_append_sl (P := Tryd.prog) (Wb.alloc (.cells #[.string ⟨#[]⟩, .int .i64 i] 56)) 54 54 56 Tryd.underlying54 infoStep' rfl (by decide) PA p.length pc (stCells p) (H1.out.2.1.alloc _) (some ⟨Wb.heap.size, 0, none⟩) 1 1 [.string ⟨#[]⟩, .int .i64 i] rfl (SlAt.of_blk (Blk.new _ _ _)) (by intro u hu; simp at hu; rcases hu with rfl | rfl <;> rfl) (by simp only [maxLen]; omega) (by omega)
          have hr2' : ∀ ty, (Builtin.append_ #[54, 54] ty #[.slice PA p.length pc, .slice (some ⟨Wb.heap.size, 0, none⟩) 1 1]).run Tryd.prog (Wb.alloc (.cells #[.string ⟨#[]⟩, .int .i64 i] 56)) = .ok (.slice PA2 (p.length + 1) pc2) Wc := fun _ => hr2
          have hba : Below (wr.alloc (.cells #[.string ⟨#[]⟩, .int .i64 i] 56)).heap.size (wr.alloc (.cells #[.string ⟨#[]⟩, .int .i64 i] 56)) (Wb.alloc (.cells #[.string ⟨#[]⟩, .int .i64 i] 56)) := H1.out.2.2.1.trans ((Below.refl _ _).alloc H1.out.2.2.1.size _)
          have hbc : Below (wr.alloc (.cells #[.string ⟨#[]⟩, .int .i64 i] 56)).heap.size (wr.alloc (.cells #[.string ⟨#[]⟩, .int .i64 i] 56)) Wc := hba.trans (grown_below hg2 hba.size (fun k hk => H1.out.2.2.2 k hk))
          have hstep : stCells p ++ [Value.string ⟨#[]⟩, Value.int .i64 i] = stCells (p ++ [stepAt v keys i]) := by rw [stCells_append]; simp [stCells, St.cells, stepAt, H5.out]
          rw [hstep] at ho2
          have hnewP : ∀ a, PA2 = some a → (wr.alloc (.cells #[.string ⟨#[]⟩, .int .i64 i] 56)).heap.size ≤ a.block := by
            intro a ha
            rcases hA2 with ⟨h1, _⟩ | h1
            · exact H1.out.2.2.2 a.block (by rw [← h1, ha]; rfl)
            · rw [ha] at h1
              injection h1 with h1
              rw [h1]
              have := hba.size
              simp at this ⊢
              have h2 := H1.out.2.2.1.size
              omega
          have hOc := H1.out.1.below hbc
          have hpSl : SlN Wc (ownS S OA) PA2 (stCells (p ++ [stepAt v keys i])) := SlN.of_new (SlAt.of_owns ho2) (by
            intro a ha g
            have h1 := hnewP a ha
            rcases g with g | g
            · have := HS.out.2.2.1 _ g
              have := H1.out.1.bel.size
              omega
            · have := (H1.out.1.own.lt a.block (by rw [ownB]; exact g)).2
              omega)
          have hSc : ∀ b, ownS S OA b → b < Wc.heap.size := by
            intro b g
            rcases g with g | g
            · have := HS.out.2.2.1 _ g
              have := hOc.bel.size
              omega
            · exact (hOc.own.lt b (by rw [ownB]; exact g)).2
          have hWc : Below W0.heap.size W0 Wc := HS.out.2.1.trans (hOc.bel.mono HS.out.2.1.size)
          have htl : (kids.map PT.tree)[i]? = some K.tree := by rw [List.getElem?_map, HX.out.2.2]; rfl
          have hts := JT.sizeL_take_succ htl
          have htl2 := JT.sizeL_take_le (kids.map PT.tree) (i + 1)
          have hKl : (p ++ [stepAt v keys i]).length + K.tree.size ≤ 1000 := by
            have h1 := HS.out.2.2.2.2.1
            have h2 := HS.out.2.2.2.2.2.1
            simp only [List.length_append, List.length_cons, List.length_nil]
            omega
          have HC := HI.out i K HX.out.2.2 (ownS S OA) PA2 pc2 (p ++ [stepAt v keys i]) { Wc with drawn := Wc.drawn + 1 } hWc.drew (fun b g => hSc b g) (hpSl.below (Below.refl _ Wc).drew) hKl
          rw [show (p ++ [stepAt v keys i]).length = p.length + 1 from by simp] at HC
          have HCC := Lib.hid HC
          obtain ⟨bk, ok, hcA, p0, p1, p2, p3, p4, p5, p6⟩ := kid_cells (HS.out.1.kids.below hWc) HX.out.2.2
          simp only [PT.cA] at hcA
          have c6 : Wc.cell? ⟨w.heap.size, 6, none⟩ = some (.slice cA kids.length cc) := hOc.t.cell 6
          rw [hcA] at c6
          have x0 : Wc.cell? ⟨w.heap.size + 1, 0, none⟩ = some (.int .i64 x.k) := hOc.x.cell 0
          have x1 : Wc.cell? ⟨w.heap.size + 1, 1, none⟩ = some (.int .i64 x.n) := hOc.x.cell 1
          have x2 : Wc.cell? ⟨w.heap.size + 1, 2, none⟩ = some (.string x.s) := hOc.x.cell 2
          have x3 : Wc.cell? ⟨w.heap.size + 1, 3, none⟩ = some (.int .i64 x.o) := hOc.x.cell 3
          have x4 : Wc.cell? ⟨w.heap.size + 1, 4, none⟩ = some (.int .i64 x.p) := hOc.x.cell 4
          have H2 := Lib.hid (And.intro hOc (And.intro hSc (And.intro hts htl2)))
          have HR2 := Lib.hid hr2'
          have HT := Lib.hid htl
          have hltb : wr.heap.size < Wb.heap.size := by have := H1.out.2.2.1.size; simp at this; omega
          clear hr2 hr2' ho2 hg2 hA2 hba hbc hstep hnewP hOc hpSl hSc hWc htl hts htl2 hKl HC hcA
          go_wp2_with (at_builtin; first | refine Lib.wpList_append_run (o := ⟨some 40, _, _, _, _, _⟩) _ rfl _ _ _ _ rfl _ _ rfl rfl _ _ (HR1.out _) ?_ | refine Lib.wpList_append_run (o := ⟨some 44, _, _, _, _, _⟩) _ rfl _ _ _ _ rfl _ _ rfl rfl _ _ (HR2.out _) ?_)
          clear HR1 HR2 g0 g1 hltb t0 t6 hltw h5b
          clear hlti
          go_region_law (first
            | (refine step_append_run (o := ⟨some 54, _, _, _, _, _⟩) rfl _ _ _ _ rfl _ _ rfl rfl (HR3.out _) ?_)
            | (go_simp
               go_at_call 20
               refine HCC.out.mono ?_
               rintro e Wd ⟨B, bc, l2, rfl, hl2, hB2, hin2, hb2⟩
               have hb2' : Below Wc.heap.size Wc Wd := ⟨hb2.os, hb2.tape, hb2.output, hb2.size, hb2.block⟩
               have hOd := H2.out.1.below hb2'
               have hll : l.length ≤ 1001 := by
                 have h1 := congrArg List.length HX.out.2.1
                 simp only [List.length_map, List.length_append] at h1
                 have h2 := hitP_len x v p
                 have h3 := JT.pathsL_len x v keys p ((kids.map PT.tree).take i) 0
                 have h4 := JT.sizeL_take_le (kids.map PT.tree) i
                 have h5 := HS.out.2.2.2.2.1
                 have h6 := HS.out.2.2.2.2.2.1
                 omega
               have hl2l : l2.length ≤ 1000 := by
                 have h1 := congrArg List.length hl2
                 simp only [List.length_map] at h1
                 have h2 := JT.paths_len x K.tree (p ++ [stepAt v keys i])
                 have h3 := H2.out.2.2.1
                 have h4 := H2.out.2.2.2
                 have h5 := HS.out.2.2.2.2.1
                 have h6 := HS.out.2.2.2.2.2.1
                 omega
               obtain ⟨OA', oc', We, hr3, ho3, hg3, hA3⟩ := run_append_sl (P := Tryd.prog) Wd 50 50 54 Tryd.underlying50 infoPath rfl (by decide) OA l.length oc (l.map SP.cell) hOd.own B l2.length bc (l2.map SP.cell) (by simp) hB2 (sp_one l2) (by simp only [maxLen]; omega) (by omega)
               have hr3' : ∀ ty, (Builtin.append_ #[50, 50] ty #[.slice OA l.length oc, .slice B l2.length bc]).run Tryd.prog Wd = .ok (.slice OA' (l.length + l2.length) oc') We := fun _ => hr3
               have hOe := hOd.grow HS.out.2.2.1 hin2 ho3 hg3 hA3
               have HE := Lib.hid (And.intro hOe hl2)
               have HR3 := Lib.hid hr3'
               have hlen : (l ++ l2).length = l.length + l2.length := List.length_append
               have HLN := Lib.hid hlen
               clear hr3 hr3' ho3 hg3 hA3 hOd hOe hl2 hB2 hin2 hb2 hb2' hlen))
          all_goals
            go_wp2_with fail
            clear p0 p1 p2 p3 p4 p5 p6 c6 x0 x1 x2 x3 x4 HCC
            clear HR3
            go_roundw
            case rel =>
              refine ⟨i + 1, OA', oc', l ++ l2, by go_num, by rw [HLN.out], by omega, HE.out.1, ?_⟩
              rw [List.map_append, HX.out.2.1, HE.out.2, JT.pathsL_take x v keys p HT.out, List.append_assoc]
            case measure => simp [intOf] <;> omega
      · have hlti : ¬ (i : Int) < (kids.length : Int) := by omega
        have HX := Lib.hid (And.intro hO hp)
        clear hO hp
        go_wp2_with fail
        go_ret
        refine ⟨OA, oc, l, rfl, ?_, SlAt.of_owns HX.out.1.own, HX.out.1.ins.weak (fun b g => .inl g), HX.out.1.bel⟩
        rw [HP.out, HX.out.2, List.take_of_length_le (by simp; omega)]
  | false =>
    go_enter Tryd.func20, Tryd.ntmps20
    go_wp2_with fail
    clear hq
    refine wp_at (fun W => ∃ OA oc l, (Value.slice none 0 0 = .slice OA (List.length l) oc) ∧ OutR S w x (.node v kA kc keys cA cc kids) OA oc l W ∧ List.map SP.p l = hitP x v p) ⟨none, 0, [], rfl, HW1.out _ (Below.refl _ _), by simp [hitP, HR.out]⟩ ?_
    rintro W1 ⟨OA0, oc0, l0, hv0, hO0, hp0⟩
    have HV := Lib.hid hv0
    clear hv0
    have HSt := Lib.hid (And.intro hO0 hp0)
    clear hO0 hp0
    go_loopw [7, 8] (fun ov iv wr => ∃ (i : Nat) (OA : Option Addr) (oc : Nat) (l : List SP), iv = .int .i64 i ∧ ov = .slice OA (List.length l) oc ∧ i ≤ kids.length ∧ OutR S w x (.node v kA kc keys cA cc kids) OA oc l wr ∧ List.map SP.p l = hitP x v p ++ JT.pathsL x v keys 0 ((kids.map PT.tree).take i) p) (fun _ iv _ => kids.length - (intOf iv).toNat)
    case atStart => exact ⟨0, OA0, oc0, l0, rfl, HV.out, by omega, HSt.out.1, by rw [HSt.out.2]; simp [JT.pathsL]⟩
    case round =>
      obtain ⟨i, OA, oc, l, rfl, rfl, hi, hO, hp⟩ := hrel
      have t6 : wr.cell? ⟨w.heap.size, 6, none⟩ = some (.slice cA kids.length cc) := hO.t.cell 6
      have t0 : wr.cell? ⟨w.heap.size, 0, none⟩ = some (.int .i64 v.k) := hO.t.cell 0
      have hltw := hO.t.lt
      by_cases hlt : i < kids.length
      · have hlti : (i : Int) < (kids.length : Int) := by omega
        obtain ⟨K, hK⟩ : ∃ K, kids[i]? = some K := ⟨_, List.getElem?_eq_getElem hlt⟩
        have HX := Lib.hid (And.intro hO (And.intro hp hK))
        by_cases h5 : v.k = 5
        · obtain ⟨y, hy⟩ : ∃ y, keys[i]? = some y := ⟨_, List.getElem?_eq_getElem (by rw [HS.out.2.2.2.2.2.2 h5]; exact hlt)⟩
          have hkl := HS.out.2.2.2.2.2.2 h5
          obtain ⟨bk, off, hkA, hcy⟩ := (HS.out.1.keys.below (HS.out.2.1.trans (hO.bel.mono HS.out.2.1.size))).at_ (j := i) (u := .string y) (by simp only [PT.keys]; simp [hy])
          simp only [PT.kA] at hkA
          have t5 : wr.cell? ⟨w.heap.size, 5, none⟩ = some (.slice kA keys.length kc) := hO.t.cell 5
          rw [hkA, hkl] at t5
          have hbk : bk < wr.heap.size := cell_lt hcy
          have H5 := Lib.hid (And.intro h5 hy)
          clear hO hp hK hkA hy hkl
          rw [h5] at t0
          clear h5
          obtain ⟨hOa, hSa⟩ := (⟨HX.out.1.below ((Below.refl _ wr).alloc (Nat.le_refl _) (.cells #[.string y, .int .i64 0] 56)), Blk.new _ _ _⟩ : OutR S w x (.node v kA kc keys cA cc kids) OA oc l (wr.alloc (.cells #[.string y, .int .i64 0] 56)) ∧ Blk (wr.alloc (.cells #[.string y, .int .i64 0] 56)) wr.heap.size 56 #[.string y, .int .i64 0])
          have hAa : SlN (wr.alloc (.cells #[.string y, .int .i64 0] 56)) S A (stCells p) := HS.out.2.2.2.1.below hOa.bel
          obtain ⟨PA, pc, Wb, hr1, ho1, hg1, hA1⟩ := run_append_sl (P := Tryd.prog) (wr.alloc (.cells #[.string y, .int .i64 0] 56)) 54 54 56 Tryd.underlying54 infoStep' rfl (by decide) none 0 0 [] (World.ownsRow_nil _ _ _ _) A p.length c (stCells p) (stCells_len p) hAa.sl (st_one p) (by simp only [maxLen]; omega) (by omega)
          rw [Nat.zero_add] at hr1 ho1
          rw [List.nil_append] at ho1
          have hr1' : ∀ ty, (Builtin.append_ #[54, 54] ty #[.slice none 0 0, .slice A p.length c]).run Tryd.prog (wr.alloc (.cells #[.string y, .int .i64 0] 56)) = .ok (.slice PA p.length pc) Wb := fun _ => hr1
          have hb1 : Below (wr.alloc (.cells #[.string y, .int .i64 0] 56)).heap.size (wr.alloc (.cells #[.string y, .int .i64 0] 56)) Wb := grown_below hg1 (Nat.le_refl _) (by simp [Value.ownBlock])
          have hlowP : ∀ k, (Value.slice PA p.length pc).ownBlock = some k → (wr.alloc (.cells #[.string y, .int .i64 0] 56)).heap.size ≤ k := by
            intro k hk
            rcases hA1 with ⟨h, _⟩ | h
            · rw [h] at hk; cases hk
            · rw [h] at hk
              injection hk with hk
              exact Nat.le_of_eq hk
          have hSb := hSa.below hb1 hSa.lt
          have g0 : Wb.cell? ⟨wr.heap.size, 0, none⟩ = some (.string y) := hSb.cell 0
          have g1 : Wb.cell? ⟨wr.heap.size, 1, none⟩ = some (.int .i64 0) := hSb.cell 1
          have H1 := Lib.hid (And.intro hOa (And.intro ho1 (And.intro hb1 hlowP)))
          have HR1 := Lib.hid hr1'
          clear hOa hSa hAa hr1 hr1' ho1 hg1 hA1 hb1 hlowP hSb
          obtain ⟨PA2, pc2, Wc, hr2, ho2, hg2, hA2⟩ := run_append_sl (P := Tryd.prog) (Wb.alloc (.cells #[.string y, .int .i64 0] 56)) 54 54 56 Tryd.underlying54 infoStep' rfl (by decide) PA p.length pc (stCells p) (H1.out.2.1.alloc _) (some ⟨Wb.heap.size, 0, none⟩) 1 1 [.string y, .int .i64 0] rfl (SlAt.of_blk (Blk.new _ _ _)) (by intro u hu; simp at hu; rcases hu with rfl | rfl <;> rfl) (by simp only [maxLen]; omega) (by omega)
          have hr2' : ∀ ty, (Builtin.append_ #[54, 54] ty #[.slice PA p.length pc, .slice (some ⟨Wb.heap.size, 0, none⟩) 1 1]).run Tryd.prog (Wb.alloc (.cells #[.string y, .int .i64 0] 56)) = .ok (.slice PA2 (p.length + 1) pc2) Wc := fun _ => hr2
          have hba : Below (wr.alloc (.cells #[.string y, .int .i64 0] 56)).heap.size (wr.alloc (.cells #[.string y, .int .i64 0] 56)) (Wb.alloc (.cells #[.string y, .int .i64 0] 56)) := H1.out.2.2.1.trans ((Below.refl _ _).alloc H1.out.2.2.1.size _)
          have hbc : Below (wr.alloc (.cells #[.string y, .int .i64 0] 56)).heap.size (wr.alloc (.cells #[.string y, .int .i64 0] 56)) Wc := hba.trans (grown_below hg2 hba.size (fun k hk => H1.out.2.2.2 k hk))
          have hstep : stCells p ++ [Value.string y, Value.int .i64 0] = stCells (p ++ [stepAt v keys i]) := by rw [stCells_append]; simp [stCells, St.cells, stepAt, H5.out.1, H5.out.2]
          rw [hstep] at ho2
          have hnewP : ∀ a, PA2 = some a → (wr.alloc (.cells #[.string y, .int .i64 0] 56)).heap.size ≤ a.block := by
            intro a ha
            rcases hA2 with ⟨h1, _⟩ | h1
            · exact H1.out.2.2.2 a.block (by rw [← h1, ha]; rfl)
            · rw [ha] at h1
              injection h1 with h1
              rw [h1]
              have := hba.size
              simp at this ⊢
              have h2 := H1.out.2.2.1.size
              omega
          have hOc := H1.out.1.below hbc
          have hpSl : SlN Wc (ownS S OA) PA2 (stCells (p ++ [stepAt v keys i])) := SlN.of_new (SlAt.of_owns ho2) (by
            intro a ha g
            have h1 := hnewP a ha
            rcases g with g | g
            · have := HS.out.2.2.1 _ g
              have := H1.out.1.bel.size
              omega
            · have := (H1.out.1.own.lt a.block (by rw [ownB]; exact g)).2
              omega)
          have hSc : ∀ b, ownS S OA b → b < Wc.heap.size := by
            intro b g
            rcases g with g | g
            · have := HS.out.2.2.1 _ g
              have := hOc.bel.size
              omega
            · exact (hOc.own.lt b (by rw [ownB]; exact g)).2
          have hWc : Below W0.heap.size W0 Wc := HS.out.2.1.trans (hOc.bel.mono HS.out.2.1.size)
          have htl : (kids.map PT.tree)[i]? = some K.tree := by rw [List.getElem?_map, HX.out.2.2]; rfl
          have hts := JT.sizeL_take_succ htl
          have htl2 := JT.sizeL_take_le (kids.map PT.tree) (i + 1)
          have hKl : (p ++ [stepAt v keys i]).length + K.tree.size ≤ 1000 := by
            have h1 := HS.out.2.2.2.2.1
            have h2 := HS.out.2.2.2.2.2.1
            simp only [List.length_append, List.length_cons, List.length_nil]
            omega
          have HC := HI.out i K HX.out.2.2 (ownS S OA) PA2 pc2 (p ++ [stepAt v keys i]) { Wc with drawn := Wc.drawn + 1 } hWc.drew (fun b g => hSc b g) (hpSl.below (Below.refl _ Wc).drew) hKl
          rw [show (p ++ [stepAt v keys i]).length = p.length + 1 from by simp] at HC
          have HCC := Lib.hid HC
          obtain ⟨bk, ok, hcA, p0, p1, p2, p3, p4, p5, p6⟩ := kid_cells (HS.out.1.kids.below hWc) HX.out.2.2
          simp only [PT.cA] at hcA
          have c6 : Wc.cell? ⟨w.heap.size, 6, none⟩ = some (.slice cA kids.length cc) := hOc.t.cell 6
          rw [hcA] at c6
          have x0 : Wc.cell? ⟨w.heap.size + 1, 0, none⟩ = some (.int .i64 x.k) := hOc.x.cell 0
          have x1 : Wc.cell? ⟨w.heap.size + 1, 1, none⟩ = some (.int .i64 x.n) := hOc.x.cell 1
          have x2 : Wc.cell? ⟨w.heap.size + 1, 2, none⟩ = some (.string x.s) := hOc.x.cell 2
          have x3 : Wc.cell? ⟨w.heap.size + 1, 3, none⟩ = some (.int .i64 x.o) := hOc.x.cell 3
          have x4 : Wc.cell? ⟨w.heap.size + 1, 4, none⟩ = some (.int .i64 x.p) := hOc.x.cell 4
          have H2 := Lib.hid (And.intro hOc (And.intro hSc (And.intro hts htl2)))
          have HR2 := Lib.hid hr2'
          have HT := Lib.hid htl
          have hltb : wr.heap.size < Wb.heap.size := by have := H1.out.2.2.1.size; simp at this; omega
          clear hr2 hr2' ho2 hg2 hA2 hba hbc hstep hnewP hOc hpSl hSc hWc htl hts htl2 hKl HC hcA
          go_wp2_with (at_builtin; first | refine Lib.wpList_append_run (o := ⟨some 40, _, _, _, _, _⟩) _ rfl _ _ _ _ rfl _ _ rfl rfl _ _ (HR1.out _) ?_ | refine Lib.wpList_append_run (o := ⟨some 44, _, _, _, _, _⟩) _ rfl _ _ _ _ rfl _ _ rfl rfl _ _ (HR2.out _) ?_)
          clear HR1 HR2 g0 g1 hltb t0 t5 t6 hltw hcy hbk
          clear hlti
          go_region_law (first
            | (refine step_append_run (o := ⟨some 54, _, _, _, _, _⟩) rfl _ _ _ _ rfl _ _ rfl rfl (HR3.out _) ?_)
            | (go_simp
               go_at_call 20
               refine HCC.out.mono ?_
               rintro e Wd ⟨B, bc, l2, rfl, hl2, hB2, hin2, hb2⟩
               have hb2' : Below Wc.heap.size Wc Wd := ⟨hb2.os, hb2.tape, hb2.output, hb2.size, hb2.block⟩
               have hOd := H2.out.1.below hb2'
               have hll : l.length ≤ 1001 := by
                 have h1 := congrArg List.length HX.out.2.1
                 simp only [List.length_map, List.length_append] at h1
                 have h2 := hitP_len x v p
                 have h3 := JT.pathsL_len x v keys p ((kids.map PT.tree).take i) 0
                 have h4 := JT.sizeL_take_le (kids.map PT.tree) i
                 have h5 := HS.out.2.2.2.2.1
                 have h6 := HS.out.2.2.2.2.2.1
                 omega
               have hl2l : l2.length ≤ 1000 := by
                 have h1 := congrArg List.length hl2
                 simp only [List.length_map] at h1
                 have h2 := JT.paths_len x K.tree (p ++ [stepAt v keys i])
                 have h3 := H2.out.2.2.1
                 have h4 := H2.out.2.2.2
                 have h5 := HS.out.2.2.2.2.1
                 have h6 := HS.out.2.2.2.2.2.1
                 omega
               obtain ⟨OA', oc', We, hr3, ho3, hg3, hA3⟩ := run_append_sl (P := Tryd.prog) Wd 50 50 54 Tryd.underlying50 infoPath rfl (by decide) OA l.length oc (l.map SP.cell) hOd.own B l2.length bc (l2.map SP.cell) (by simp) hB2 (sp_one l2) (by simp only [maxLen]; omega) (by omega)
               have hr3' : ∀ ty, (Builtin.append_ #[50, 50] ty #[.slice OA l.length oc, .slice B l2.length bc]).run Tryd.prog Wd = .ok (.slice OA' (l.length + l2.length) oc') We := fun _ => hr3
               have hOe := hOd.grow HS.out.2.2.1 hin2 ho3 hg3 hA3
               have HE := Lib.hid (And.intro hOe hl2)
               have HR3 := Lib.hid hr3'
               have hlen : (l ++ l2).length = l.length + l2.length := List.length_append
               have HLN := Lib.hid hlen
               clear hr3 hr3' ho3 hg3 hA3 hOd hOe hl2 hB2 hin2 hb2 hb2' hlen))
          all_goals
            go_wp2_with fail
            clear p0 p1 p2 p3 p4 p5 p6 c6 x0 x1 x2 x3 x4 HCC
            clear HR3
            go_roundw
            case rel =>
              refine ⟨i + 1, OA', oc', l ++ l2, by go_num, by rw [HLN.out], by omega, HE.out.1, ?_⟩
              rw [List.map_append, HX.out.2.1, HE.out.2, JT.pathsL_take x v keys p HT.out, List.append_assoc]
            case measure => simp [intOf] <;> omega
        · have h5b : (v.k == 5) = false := by simpa using h5
          have H5 := Lib.hid h5
          clear hO hp hK h5
          obtain ⟨hOa, hSa⟩ := (⟨HX.out.1.below ((Below.refl _ wr).alloc (Nat.le_refl _) (.cells #[.string ⟨#[]⟩, .int .i64 i] 56)), Blk.new _ _ _⟩ : OutR S w x (.node v kA kc keys cA cc kids) OA oc l (wr.alloc (.cells #[.string ⟨#[]⟩, .int .i64 i] 56)) ∧ Blk (wr.alloc (.cells #[.string ⟨#[]⟩, .int .i64 i] 56)) wr.heap.size 56 #[.string ⟨#[]⟩, .int .i64 i])
          have hAa : SlN (wr.alloc (.cells #[.string ⟨#[]⟩, .int .i64 i] 56)) S A (stCells p) := HS.out.2.2.2.1.below hOa.bel
          obtain ⟨PA, pc, Wb, hr1, ho1, hg1, hA1⟩ := run_append_sl (P := Tryd.prog) (wr.alloc (.cells #[.string ⟨#[]⟩, .int .i64 i] 56)) 54 54 56 Tryd.underlying54 infoStep' rfl (by decide) none 0 0 [] (World.ownsRow_nil _ _ _ _) A p.length c (stCells p) (stCells_len p) hAa.sl (st_one p) (by simp only [maxLen]; omega) (by omega)
          rw [Nat.zero_add] at hr1 ho1
          rw [List.nil_append] at ho1
          have hr1' : ∀ ty, (Builtin.append_ #[54, 54] ty #[.slice none 0 0, .slice A p.length c]).run Tryd.prog (wr.alloc (.cells #[.string ⟨#[]⟩, .int .i64 i] 56)) = .ok (.slice PA p.length pc) Wb := fun _ => hr1
          have hb1 : Below (wr.alloc (.cells #[.string ⟨#[]⟩, .int .i64 i] 56)).heap.size (wr.alloc (.cells #[.string ⟨#[]⟩, .int .i64 i] 56)) Wb := grown_below hg1 (Nat.le_refl _) (by simp [Value.ownBlock])
          have hlowP : ∀ k, (Value.slice PA p.length pc).ownBlock = some k → (wr.alloc (.cells #[.string ⟨#[]⟩, .int .i64 i] 56)).heap.size ≤ k := by
            intro k hk
            rcases hA1 with ⟨h, _⟩ | h
            · rw [h] at hk; cases hk
            · rw [h] at hk
              injection hk with hk
              exact Nat.le_of_eq hk
          have hSb := hSa.below hb1 hSa.lt
          have g0 : Wb.cell? ⟨wr.heap.size, 0, none⟩ = some (.string ⟨#[]⟩) := hSb.cell 0
          have g1 : Wb.cell? ⟨wr.heap.size, 1, none⟩ = some (.int .i64 i) := hSb.cell 1
          have H1 := Lib.hid (And.intro hOa (And.intro ho1 (And.intro hb1 hlowP)))
          have HR1 := Lib.hid hr1'
          clear hOa hSa hAa hr1 hr1' ho1 hg1 hA1 hb1 hlowP hSb
          obtain ⟨PA2, pc2, Wc, hr2, ho2, hg2, hA2⟩ := run_append_sl (P := Tryd.prog) (Wb.alloc (.cells #[.string ⟨#[]⟩, .int .i64 i] 56)) 54 54 56 Tryd.underlying54 infoStep' rfl (by decide) PA p.length pc (stCells p) (H1.out.2.1.alloc _) (some ⟨Wb.heap.size, 0, none⟩) 1 1 [.string ⟨#[]⟩, .int .i64 i] rfl (SlAt.of_blk (Blk.new _ _ _)) (by intro u hu; simp at hu; rcases hu with rfl | rfl <;> rfl) (by simp only [maxLen]; omega) (by omega)
          have hr2' : ∀ ty, (Builtin.append_ #[54, 54] ty #[.slice PA p.length pc, .slice (some ⟨Wb.heap.size, 0, none⟩) 1 1]).run Tryd.prog (Wb.alloc (.cells #[.string ⟨#[]⟩, .int .i64 i] 56)) = .ok (.slice PA2 (p.length + 1) pc2) Wc := fun _ => hr2
          have hba : Below (wr.alloc (.cells #[.string ⟨#[]⟩, .int .i64 i] 56)).heap.size (wr.alloc (.cells #[.string ⟨#[]⟩, .int .i64 i] 56)) (Wb.alloc (.cells #[.string ⟨#[]⟩, .int .i64 i] 56)) := H1.out.2.2.1.trans ((Below.refl _ _).alloc H1.out.2.2.1.size _)
          have hbc : Below (wr.alloc (.cells #[.string ⟨#[]⟩, .int .i64 i] 56)).heap.size (wr.alloc (.cells #[.string ⟨#[]⟩, .int .i64 i] 56)) Wc := hba.trans (grown_below hg2 hba.size (fun k hk => H1.out.2.2.2 k hk))
          have hstep : stCells p ++ [Value.string ⟨#[]⟩, Value.int .i64 i] = stCells (p ++ [stepAt v keys i]) := by rw [stCells_append]; simp [stCells, St.cells, stepAt, H5.out]
          rw [hstep] at ho2
          have hnewP : ∀ a, PA2 = some a → (wr.alloc (.cells #[.string ⟨#[]⟩, .int .i64 i] 56)).heap.size ≤ a.block := by
            intro a ha
            rcases hA2 with ⟨h1, _⟩ | h1
            · exact H1.out.2.2.2 a.block (by rw [← h1, ha]; rfl)
            · rw [ha] at h1
              injection h1 with h1
              rw [h1]
              have := hba.size
              simp at this ⊢
              have h2 := H1.out.2.2.1.size
              omega
          have hOc := H1.out.1.below hbc
          have hpSl : SlN Wc (ownS S OA) PA2 (stCells (p ++ [stepAt v keys i])) := SlN.of_new (SlAt.of_owns ho2) (by
            intro a ha g
            have h1 := hnewP a ha
            rcases g with g | g
            · have := HS.out.2.2.1 _ g
              have := H1.out.1.bel.size
              omega
            · have := (H1.out.1.own.lt a.block (by rw [ownB]; exact g)).2
              omega)
          have hSc : ∀ b, ownS S OA b → b < Wc.heap.size := by
            intro b g
            rcases g with g | g
            · have := HS.out.2.2.1 _ g
              have := hOc.bel.size
              omega
            · exact (hOc.own.lt b (by rw [ownB]; exact g)).2
          have hWc : Below W0.heap.size W0 Wc := HS.out.2.1.trans (hOc.bel.mono HS.out.2.1.size)
          have htl : (kids.map PT.tree)[i]? = some K.tree := by rw [List.getElem?_map, HX.out.2.2]; rfl
          have hts := JT.sizeL_take_succ htl
          have htl2 := JT.sizeL_take_le (kids.map PT.tree) (i + 1)
          have hKl : (p ++ [stepAt v keys i]).length + K.tree.size ≤ 1000 := by
            have h1 := HS.out.2.2.2.2.1
            have h2 := HS.out.2.2.2.2.2.1
            simp only [List.length_append, List.length_cons, List.length_nil]
            omega
          have HC := HI.out i K HX.out.2.2 (ownS S OA) PA2 pc2 (p ++ [stepAt v keys i]) { Wc with drawn := Wc.drawn + 1 } hWc.drew (fun b g => hSc b g) (hpSl.below (Below.refl _ Wc).drew) hKl
          rw [show (p ++ [stepAt v keys i]).length = p.length + 1 from by simp] at HC
          have HCC := Lib.hid HC
          obtain ⟨bk, ok, hcA, p0, p1, p2, p3, p4, p5, p6⟩ := kid_cells (HS.out.1.kids.below hWc) HX.out.2.2
          simp only [PT.cA] at hcA
          have c6 : Wc.cell? ⟨w.heap.size, 6, none⟩ = some (.slice cA kids.length cc) := hOc.t.cell 6
          rw [hcA] at c6
          have x0 : Wc.cell? ⟨w.heap.size + 1, 0, none⟩ = some (.int .i64 x.k) := hOc.x.cell 0
          have x1 : Wc.cell? ⟨w.heap.size + 1, 1, none⟩ = some (.int .i64 x.n) := hOc.x.cell 1
          have x2 : Wc.cell? ⟨w.heap.size + 1, 2, none⟩ = some (.string x.s) := hOc.x.cell 2
          have x3 : Wc.cell? ⟨w.heap.size + 1, 3, none⟩ = some (.int .i64 x.o) := hOc.x.cell 3
          have x4 : Wc.cell? ⟨w.heap.size + 1, 4, none⟩ = some (.int .i64 x.p) := hOc.x.cell 4
          have H2 := Lib.hid (And.intro hOc (And.intro hSc (And.intro hts htl2)))
          have HR2 := Lib.hid hr2'
          have HT := Lib.hid htl
          have hltb : wr.heap.size < Wb.heap.size := by have := H1.out.2.2.1.size; simp at this; omega
          clear hr2 hr2' ho2 hg2 hA2 hba hbc hstep hnewP hOc hpSl hSc hWc htl hts htl2 hKl HC hcA
          go_wp2_with (at_builtin; first | refine Lib.wpList_append_run (o := ⟨some 40, _, _, _, _, _⟩) _ rfl _ _ _ _ rfl _ _ rfl rfl _ _ (HR1.out _) ?_ | refine Lib.wpList_append_run (o := ⟨some 44, _, _, _, _, _⟩) _ rfl _ _ _ _ rfl _ _ rfl rfl _ _ (HR2.out _) ?_)
          clear HR1 HR2 g0 g1 hltb t0 t6 hltw h5b
          clear hlti
          go_region_law (first
            | (refine step_append_run (o := ⟨some 54, _, _, _, _, _⟩) rfl _ _ _ _ rfl _ _ rfl rfl (HR3.out _) ?_)
            | (go_simp
               go_at_call 20
               refine HCC.out.mono ?_
               rintro e Wd ⟨B, bc, l2, rfl, hl2, hB2, hin2, hb2⟩
               have hb2' : Below Wc.heap.size Wc Wd := ⟨hb2.os, hb2.tape, hb2.output, hb2.size, hb2.block⟩
               have hOd := H2.out.1.below hb2'
               have hll : l.length ≤ 1001 := by
                 have h1 := congrArg List.length HX.out.2.1
                 simp only [List.length_map, List.length_append] at h1
                 have h2 := hitP_len x v p
                 have h3 := JT.pathsL_len x v keys p ((kids.map PT.tree).take i) 0
                 have h4 := JT.sizeL_take_le (kids.map PT.tree) i
                 have h5 := HS.out.2.2.2.2.1
                 have h6 := HS.out.2.2.2.2.2.1
                 omega
               have hl2l : l2.length ≤ 1000 := by
                 have h1 := congrArg List.length hl2
                 simp only [List.length_map] at h1
                 have h2 := JT.paths_len x K.tree (p ++ [stepAt v keys i])
                 have h3 := H2.out.2.2.1
                 have h4 := H2.out.2.2.2
                 have h5 := HS.out.2.2.2.2.1
                 have h6 := HS.out.2.2.2.2.2.1
                 omega
               obtain ⟨OA', oc', We, hr3, ho3, hg3, hA3⟩ := run_append_sl (P := Tryd.prog) Wd 50 50 54 Tryd.underlying50 infoPath rfl (by decide) OA l.length oc (l.map SP.cell) hOd.own B l2.length bc (l2.map SP.cell) (by simp) hB2 (sp_one l2) (by simp only [maxLen]; omega) (by omega)
               have hr3' : ∀ ty, (Builtin.append_ #[50, 50] ty #[.slice OA l.length oc, .slice B l2.length bc]).run Tryd.prog Wd = .ok (.slice OA' (l.length + l2.length) oc') We := fun _ => hr3
               have hOe := hOd.grow HS.out.2.2.1 hin2 ho3 hg3 hA3
               have HE := Lib.hid (And.intro hOe hl2)
               have HR3 := Lib.hid hr3'
               have hlen : (l ++ l2).length = l.length + l2.length := List.length_append
               have HLN := Lib.hid hlen
               clear hr3 hr3' ho3 hg3 hA3 hOd hOe hl2 hB2 hin2 hb2 hb2' hlen))
          all_goals
            go_wp2_with fail
            clear p0 p1 p2 p3 p4 p5 p6 c6 x0 x1 x2 x3 x4 HCC
            clear HR3
            go_roundw
            case rel =>
              refine ⟨i + 1, OA', oc', l ++ l2, by go_num, by rw [HLN.out], by omega, HE.out.1, ?_⟩
              rw [List.map_append, HX.out.2.1, HE.out.2, JT.pathsL_take x v keys p HT.out, List.append_assoc]
            case measure => simp [intOf] <;> omega
      · have hlti : ¬ (i : Int) < (kids.length : Int) := by omega
        have HX := Lib.hid (And.intro hO hp)
        clear hO hp
        go_wp2_with fail
        go_ret
        refine ⟨OA, oc, l, rfl, ?_, SlAt.of_owns HX.out.1.own, HX.out.1.ins.weak (fun b g => .inl g), HX.out.1.bel⟩
        rw [HP.out, HX.out.2, List.take_of_length_le (by simp; omega)]
end Go.Proofs.YtljemaapicaioaaDoor
