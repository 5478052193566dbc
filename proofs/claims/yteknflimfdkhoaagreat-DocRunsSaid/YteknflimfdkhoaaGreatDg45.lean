/- doc.Doc.behind, where an index is good and all elements have a value: a contract. state.State.Elem: a contract. -/
import Derived.Test.YteknflimfdkhoaaGreatDg44
import Derived.Test.YteknflimfdkhoaaGreatDg32
import Derived.Test.YteknflimfdkhoaaGreatDg31
namespace Go.Proofs.YteknflimfdkhoaaGreat
open Go.RowKit Go.Maps Go.Sort
set_option linter.unusedVariables false
set_option linter.unusedSimpArgs false

/-- An op as it is handed in. -/
def rawOp (o : OpV) : OpV := { o with elem := (0, 0), ins := false }
/-- The list of an object in a state, where each element has a value. -/
structure ListIs (s : Sta) (obj : Int × Int) (l : List (Int × Int)) : Prop where
  ex : ∃ F, F ≤ 1000 ∧ doneE s obj F [(0, 0)] ∧ elemsF s obj F [(0, 0)] = l
  kind : s.kinds obj = some 6
  val : ∀ n ∈ l, HasV s obj n
theorem indexed_is (B sb kb vb ib lb N : Nat) (s : Sta) (obj : Int × Int) (at_ more : Int) (l : List (Int × Int)) (w : World) (H : StM w B sb kb vb ib lb N s) (hob : I2 obj) (hl : ListIs s obj l) (hN : N ≤ 100000) (h0 : 0 ≤ at_) (h1 : at_ < (l.length : Int) + more) (hm : 0 ≤ more ∧ more ≤ 1) :
    Calls Tryz.prog 26 #[.pointer (some ⟨sb, 0, none⟩), .agg #[.int .i64 obj.1, .int .i64 obj.2], .int .i64 at_, .int .i64 more] w (IndexQ w l) := by
  obtain ⟨F, hF, hd, he⟩ := hl.ex
  exact indexed_ok B sb kb vb ib lb N F s obj at_ more l w H hob hd hF (by rw [he]; exact hl.val) hN he hl.kind h0 h1 hm
set_option maxRecDepth 100000 in
set_option maxHeartbeats 4000000 in
theorem behind_ok (K : Nat → Prop) (db i : Nat) (D : DocV) (o : OpV) (l : List (Int × Int)) (w : World) (H : DocA w K db D) (hf : o.Fit) (hin : o.ins = true) (hl : ListIs D.state o.obj l) (hi : i ≤ l.length) (hl1 : l.length ≤ 1000) (he : (i = 0 ∧ o.elem = (0, 0)) ∨ ∃ j, i = j + 1 ∧ l[j]? = some o.elem) :
    Calls Tryz.prog 14 #[.pointer (some ⟨db, 0, none⟩), .agg #[.int .i64 o.kind, .int .i64 o.obj.1, .int .i64 o.obj.2, .string o.key, .int .i64 0, .int .i64 0, .bool false, .int .i64 o.val.k, .int .i64 o.val.n, .string o.val.s, .int .i64 o.val.o, .int .i64 o.val.p, .slice none 0 0], .int .i64 (i : Int), .nilIface] w (AddQ w K db D (addV D o (fun _ => none) [])) := by
  obtain ⟨W0, hW0⟩ : ∃ W0, W0 = (w.alloc (.cells #[.int .i64 o.kind, .int .i64 o.obj.1, .int .i64 o.obj.2, .string o.key, .int .i64 0, .int .i64 0, .bool false, .int .i64 o.val.k, .int .i64 o.val.n, .string o.val.s, .int .i64 o.val.o, .int .i64 o.val.p, .slice none 0 0] 51)).alloc (.cells #[.int .i64 0, .int .i64 0] 24) := ⟨_, rfl⟩
  have hB0 : OkB w (rawOp o) W0 := by
    refine ⟨by rw [hW0]; exact ((Below.refl _ _).alloc (Nat.le_refl _) _).alloc (by simp) _, ?_, ?_⟩
    · rw [hW0]; exact (Blk.new w _ _).alloc _
    · rw [hW0]; exact Blk.newer _ _ _ (by simp)
  have HH := Lib.hid (And.intro H (And.intro hf (And.intro hin (And.intro hl he))))
  have HB0 := Lib.hid hB0
  have HD0 := Lib.hid (H.bound.below hB0.bel)
  have HW0 := Lib.hid hW0
  have hi1 : (i : Int) ≤ 1000 := by omega
  clear H hf hB0 hW0 hl he hin
  go_enter Tryz.func14, Tryz.ntmps14
  go_upto_region 2 with (first
    | (go_at_call 23; rw [← HW0.out]; (with_reducible refine (docState_any _ db D W0 HD0.out).mono ?_); (rintro e w1 ⟨B, sb, kb, vb, ib, lb, N, rfl, hS, hN, hB1, hb1⟩); (have H1 := Lib.hid (And.intro hS (And.intro hN (And.intro (HB0.out.new hb1) (HD0.out.below hb1))))); (clear hS hB1 hb1)))
  have o1 : w1.cell? ⟨w.heap.size, 1, none⟩ = some (.int .i64 o.obj.1) := H1.out.2.2.1.op.cell 1
  have o2 : w1.cell? ⟨w.heap.size, 2, none⟩ = some (.int .i64 o.obj.2) := H1.out.2.2.1.op.cell 2
  go_upto_region 7 with (go_at_call 26; (with_reducible refine (indexed_is B sb kb vb ib lb N D.state o.obj i 1 l w1 H1.out.1 HH.out.2.1.obj HH.out.2.2.2.1 H1.out.2.1 (by omega) (by omega) ⟨by omega, by omega⟩).mono ?_); (rintro e w2 ⟨A, c, rfl, hs2, hb2, hi2, hlo2⟩); (have H2 := Lib.hid (And.intro hs2 (And.intro (H1.out.2.2.1.new hb2) (And.intro (H1.out.2.2.2.below hb2) (And.intro hlo2 hb2))))); (clear hs2 hb2 hi2 hlo2))
  clear o1 o2
  have hB2 := H2.out.2.1
  have z6 := hB2.op.frozen 6
  have x6 : w2.cell? ⟨w.heap.size, 6, none⟩ = some (.bool false) := hB2.op.cell 6
  obtain ⟨W3, hW3⟩ : ∃ W3, W3 = w2.setCell ⟨w.heap.size, 6, none⟩ (.bool true) := ⟨_, rfl⟩
  have ho3 : Only (fun i => i = w.heap.size) w2 W3 := by rw [hW3]; exact Only.setCell (S := fun k => k = w.heap.size) (Only.refl _ w2) (p := ⟨w.heap.size, 6, none⟩) rfl _
  have hb3 : Blk W3 w.heap.size 51 #[.int .i64 o.kind, .int .i64 o.obj.1, .int .i64 o.obj.2, .string o.key, .int .i64 0, .int .i64 0, .bool true, .int .i64 o.val.k, .int .i64 o.val.n, .string o.val.s, .int .i64 o.val.o, .int .i64 o.val.p, .slice none 0 0] := by
    rw [hW3]
    have := hB2.op.set_ 6 (.bool true)
    simpa [rawOp] using this
  have hi3 : Blk W3 (w.heap.size + 1) 24 #[.int .i64 0, .int .i64 0] := hB2.id.only ho3 (fun e => by have e : w.heap.size + 1 = w.heap.size := e; omega)
  have hbel3 : Below w.heap.size w W3 := hB2.bel.trans (ho3.below hB2.bel.size (fun k hk e => by have e : k = w.heap.size := e; omega))
  have H3 := Lib.hid (And.intro ho3 (And.intro hb3 (And.intro hi3 hbel3)))
  clear hB2 ho3 hb3 hi3 hbel3
  go_upto_region 8 with (fail)
  rw [← hW3]
  clear hW3 z6 x6
  obtain ⟨gb, hgb⟩ : ∃ gb, decide ((0 : Int) < (i : Int)) = gb := ⟨_, rfl⟩
  have HG := Lib.hid hgb
  go_upto_if 33 with (fail)
  clear hgb
  go_cut [11] from 34 to 39 (fun s11 wx => s11 = .slice A l.length c ∧ OkB w o wx ∧ Only (fun k => k = w.heap.size) w2 wx)
  case first =>
    rcases HH.out.2.2.2.2 with ⟨h0, he⟩ | ⟨j, hj, he⟩
    · obtain rfl : gb = false := by rw [← HG.out]; exact decide_eq_false (by omega)
      go_wp2_with fail
      go_meet
      refine ⟨rfl, ⟨H3.out.2.2.2, ?_, H3.out.2.2.1⟩, H3.out.1⟩
      rw [he, HH.out.2.2.1]
      exact H3.out.2.1
    · obtain rfl : gb = true := by rw [← HG.out]; exact decide_eq_true (by omega)
      have hjl : j < l.length := by omega
      obtain ⟨b, off, r, ha, hr, hx, hy⟩ := H2.out.1.ref hjl
      have hre : r = o.elem := by rw [he] at hr; exact (Option.some.inj hr).symm
      have hbne : b ≠ w.heap.size := fun e => by
        have h1 := H2.out.2.2.2.1 b (by rw [ha]; simp [blkOf])
        have h2 := H1.out.2.2.1.op.lt
        omega
      have hcb : ∀ k, W3.cell? ⟨b, k, none⟩ = w2.cell? ⟨b, k, none⟩ := fun k => World.cell?_of_block (a := ⟨b, k, none⟩) (by
        by_cases hlt : b < w2.heap.size
        · exact H3.out.1.block b hlt hbne
        · exact absurd (cell_lt hx) hlt)
      have y0 : W3.cell? ⟨b, off + j * 2, none⟩ = some (.int .i64 o.elem.1) := by rw [hcb, hx, hre]
      have y1 : W3.cell? ⟨b, off + j * 2 + 1, none⟩ = some (.int .i64 o.elem.2) := by rw [hcb, hy, hre]
      have hs1 : IntKind.i64.wrap ((i : Int) - 1) = (j : Int) := by rw [IntKind.wrap_i64]; omega
      have hs2 : wrap64 ((i : Int) - 1) = (j : Int) := by unfold wrap64; omega
      have hs3 : (i : Int) - 1 = (j : Int) := by omega
      have z4 := H3.out.2.1.frozen 4
      have z5 := H3.out.2.1.frozen 5
      have x4 : W3.cell? ⟨w.heap.size, 4, none⟩ = some (.int .i64 0) := H3.out.2.1.cell 4
      have x5 : W3.cell? ⟨w.heap.size, 5, none⟩ = some (.int .i64 0) := H3.out.2.1.cell 5
      subst ha
      clear hx hy hr hre hcb he hj
      go_wp2_with fail
      go_meet
      have ho : Only (fun k => k = w.heap.size) W3 ((W3.setCell ⟨w.heap.size, 4, none⟩ (.int .i64 o.elem.1)).setCell ⟨w.heap.size, 5, none⟩ (.int .i64 o.elem.2)) := Only.setCell (S := fun k => k = w.heap.size) (Only.setCell (S := fun k => k = w.heap.size) (Only.refl _ W3) (p := ⟨w.heap.size, 4, none⟩) rfl _) (p := ⟨w.heap.size, 5, none⟩) rfl _
      refine ⟨rfl, ⟨H3.out.2.2.2.trans (ho.below H3.out.2.2.2.size (fun k hk e => by have e : k = w.heap.size := e; omega)), ?_, H3.out.2.2.1.only ho (fun e => by have e : w.heap.size + 1 = w.heap.size := e; omega)⟩, H3.out.1.trans ho⟩
      rw [HH.out.2.2.1]
      have := (H3.out.2.1.set_ 4 (.int .i64 o.elem.1)).set_ 5 (.int .i64 o.elem.2)
      simpa using this
  case rest =>
  obtain ⟨rfl, hB5, ho5⟩ := hcut
  have HD5 := Lib.hid ((H2.out.2.2.1.other ho5 (fun k hk e k2 => by have e : k = w.heap.size := e; have := k2.2; omega)).mono (K' := fun i => K i ∧ i < w.heap.size) (fun k _ h => h.1))
  have HB5 := Lib.hid hB5
  have HAD := Lib.hid (show Calls Tryz.prog 33 #[.pointer (some ⟨db, 0, none⟩), .agg #[.int .i64 o.kind, .int .i64 o.obj.1, .int .i64 o.obj.2, .string o.key, .int .i64 o.elem.1, .int .i64 o.elem.2, .bool o.ins, .int .i64 o.val.k, .int .i64 o.val.n, .string o.val.s, .int .i64 o.val.o, .int .i64 o.val.p, .slice none 0 0], .agg #[.int .i64 0, .int .i64 0, .string ⟨#[]⟩, .int .i64 0, .int .i64 0, .slice none 0 0, .slice none 0 0]] wc (AddQ wc (fun i => K i ∧ i < w.heap.size) db D (addV D o (fun _ => none) [])) from docAdd_any (fun i => K i ∧ i < w.heap.size) db D o ((0, 0), ⟨#[]⟩, (0, 0)) (fun _ => none) [] none none 0 0 wc HD5.out HH.out.2.1 (.inl rfl) (.inl rfl) (fun n hn => (by cases hn)) (Nat.zero_le _))
  have c0 : wc.cell? ⟨w.heap.size, 0, none⟩ = some (.int .i64 o.kind) := hB5.op.cell 0
  have c1 : wc.cell? ⟨w.heap.size, 1, none⟩ = some (.int .i64 o.obj.1) := hB5.op.cell 1
  have c2 : wc.cell? ⟨w.heap.size, 2, none⟩ = some (.int .i64 o.obj.2) := hB5.op.cell 2
  have c3 : wc.cell? ⟨w.heap.size, 3, none⟩ = some (.string o.key) := hB5.op.cell 3
  have c4 : wc.cell? ⟨w.heap.size, 4, none⟩ = some (.int .i64 o.elem.1) := hB5.op.cell 4
  have c5 : wc.cell? ⟨w.heap.size, 5, none⟩ = some (.int .i64 o.elem.2) := hB5.op.cell 5
  have c6 : wc.cell? ⟨w.heap.size, 6, none⟩ = some (.bool o.ins) := hB5.op.cell 6
  have c7 : wc.cell? ⟨w.heap.size, 7, none⟩ = some (.int .i64 o.val.k) := hB5.op.cell 7
  have c8 : wc.cell? ⟨w.heap.size, 8, none⟩ = some (.int .i64 o.val.n) := hB5.op.cell 8
  have c9 : wc.cell? ⟨w.heap.size, 9, none⟩ = some (.string o.val.s) := hB5.op.cell 9
  have c10 : wc.cell? ⟨w.heap.size, 10, none⟩ = some (.int .i64 o.val.o) := hB5.op.cell 10
  have c11 : wc.cell? ⟨w.heap.size, 11, none⟩ = some (.int .i64 o.val.p) := hB5.op.cell 11
  have c12 : wc.cell? ⟨w.heap.size, 12, none⟩ = some (.slice none 0 0) := hB5.op.cell 12
  clear hB5 ho5
  go_wp2_with (go_at_call 33; (with_reducible refine HAD.out.mono ?_); (rintro e w6 ⟨rfl, hD6, ho6⟩); (have hR4 := (HB5.out.far ho6).2); (have HR4 := Lib.hid hR4); (have z0 := hR4.frozen); (have i0 := hR4.cell 0); (have i1 := hR4.cell 1); (simp only [List.getElem?_toArray, List.getElem?_cons_zero, List.getElem?_cons_succ] at i0 i1); (have HA := Lib.hid (show AddQ wc (fun i => K i ∧ i < w.heap.size) db D (addV D o (fun _ => none) []) _ w6 from ⟨rfl, hD6, ho6⟩)); (clear hD6 ho6 hR4 c0 c1 c2 c3 c4 c5 c6 c7 c8 c9 c10 c11 c12))
  refine bodyPost_ret (results_rowd2 Tryz.results14 _ _ (w.heap.size + 1) _ _ _ rfl (blkS2 _ _ HR4.out) Tryz.underlying24 rfl (by kernel_rfl)) rfl ?_
  exact onKey_end HB5.out.bel HB5.out.id.lt HA.out _ _
end Go.Proofs.YteknflimfdkhoaaGreat
namespace Go.Proofs.YteknflimfdkhoaaGreat
open Go.RowKit Go.Maps Go.Sort
set_option linter.unusedVariables false
set_option linter.unusedSimpArgs false

set_option maxRecDepth 100000 in
set_option maxHeartbeats 1000000 in
theorem stElem_any (B sb kb vb ib lb N : Nat) (s : Sta) (obj el : Int × Int) (w : World) (H : StM w B sb kb vb ib lb N s) (hx : whOk (obj, ⟨#[]⟩, el)) (hN : N ≤ 100000) :
    Calls Tryz.prog 27 #[.pointer (some ⟨sb, 0, none⟩), .agg #[.int .i64 obj.1, .int .i64 obj.2], .agg #[.int .i64 el.1, .int .i64 el.2]] w (AtQ w s (obj, ⟨#[]⟩, el) N) := by
  obtain ⟨W1, hW1⟩ : ∃ W1, W1 = ((w.alloc (.cells #[.int .i64 obj.1, .int .i64 obj.2] 24)).alloc (.cells #[.int .i64 el.1, .int .i64 el.2] 24)).alloc (.cells #[.int .i64 0, .int .i64 0, .string ⟨#[]⟩, .int .i64 0, .int .i64 0, .slice none 0 0, .slice none 0 0] 83) := ⟨_, rfl⟩
  have hb1 : Below w.heap.size w W1 := by rw [hW1]; exact (((Below.refl _ _).alloc (Nat.le_refl _) _).alloc (by simp) _).alloc (by simp; omega) _
  have hr1 : Blk W1 (w.heap.size + 1 + 1) 83 #[.int .i64 0, .int .i64 0, .string ⟨#[]⟩, .int .i64 0, .int .i64 0, .slice none 0 0, .slice none 0 0] := by rw [hW1]; exact Blk.newer _ _ _ (by simp)
  have HK := Lib.hid (stAt_any B sb kb vb ib lb N s (obj, ⟨#[]⟩, el) W1 (H.below hb1) hx hN)
  have HW := Lib.hid hW1
  have HB := Lib.hid (And.intro hb1 hr1)
  clear H hx hW1 hb1 hr1
  go_enter Tryz.func27, Tryz.ntmps27
  go_wp2_with (go_at_call 56; rw [← HW.out]; (with_reducible refine HK.out.mono ?_); (rintro e w2 ⟨ids, A1, A2, c1, c2, rfl, h2, h3, h4, h5, h6, h7⟩); (have hr2 := HB.out.2.below h6 HB.out.2.lt); (have r0 := hr2.cell 0); (have r1 := hr2.cell 1); (have r2 := hr2.cell 2); (have r3 := hr2.cell 3); (have r4 := hr2.cell 4); (have r5 := hr2.cell 5); (have r6 := hr2.cell 6); (have zr := hr2.frozen); (simp only [List.getElem?_toArray, List.getElem?_cons_zero, List.getElem?_cons_succ] at r0 r1 r2 r3 r4 r5 r6); (have HE := Lib.hid (And.intro h2 (And.intro h3 (And.intro h4 (And.intro h5 (And.intro h6 (And.intro hr2 h7))))))); clear h2 h3 h4 h5 h6 hr2 h7)
  refine bodyPost_ret (results_cell_row Tryz.results27 _ _ (w.heap.size + 1 + 1) _ _ _ _ rfl (blkS7 (.int .i64 obj.1) (.int .i64 obj.2) (.string ⟨#[]⟩) (.int .i64 el.1) (.int .i64 el.2) (.slice A1 ids.length c1) (.slice A2 ids.length c2) HE.out.2.2.2.2.2.1) Tryz.underlying83 rfl (by kernel_rfl)) rfl ?_
  have hz : w.heap.size + 3 = W1.heap.size := by rw [HW.out]; simp
  have ho7 := onlyS7 w2 (w.heap.size + 1 + 1) (.int .i64 obj.1) (.int .i64 obj.2) (.string ⟨#[]⟩) (.int .i64 el.1) (.int .i64 el.2) (.slice A1 ids.length c1) (.slice A2 ids.length c2) 0 1 2 3 4 5 6
  have hbel : Below w.heap.size w w2 := HB.out.1.trans (HE.out.2.2.2.2.1.mono HB.out.1.size)
  refine ⟨ids, A1, A2, c1, c2, rfl, HE.out.1, HE.out.2.1.only ho7 ?_, HE.out.2.2.1.only ho7 ?_, HE.out.2.2.2.1, hbel.trans (ho7.below hbel.size (fun k hk e => by have e : k = w.heap.size + 1 + 1 := e; omega)), ?_⟩
  · intro b off s ha e
    have h := HE.out.2.2.2.2.2.2 _ (.inl ha)
    have e : b = w.heap.size + 1 + 1 := e
    have h : W1.heap.size ≤ b := h
    omega
  · intro b off s ha e
    have h := HE.out.2.2.2.2.2.2 _ (.inr ha)
    have e : b = w.heap.size + 1 + 1 := e
    have h : W1.heap.size ≤ b := h
    omega
  · intro a ha
    have h := HE.out.2.2.2.2.2.2 a ha
    omega
end Go.Proofs.YteknflimfdkhoaaGreat
