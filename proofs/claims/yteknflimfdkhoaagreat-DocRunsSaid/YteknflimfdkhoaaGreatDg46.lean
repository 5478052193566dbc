/- doc.Doc.Len and doc.Doc.At of a list, where all elements have a value: contracts. doc.Doc.Insert, where an index is good and all elements have a value: a contract. -/
import Derived.Test.YteknflimfdkhoaaGreatDg45
import Derived.Test.YteknflimfdkhoaaGreatDg32
namespace Go.Proofs.YteknflimfdkhoaaGreat
open Go.RowKit Go.Maps Go.Sort
set_option linter.unusedVariables false
set_option linter.unusedSimpArgs false

set_option maxRecDepth 100000 in
set_option maxHeartbeats 4000000 in
theorem docLen_ok (K : Nat → Prop) (db : Nat) (D : DocV) (obj : Int × Int) (l : List (Int × Int)) (w : World) (H : DocA w K db D) (hob : I2 obj) (hl : ListIs D.state obj l) :
    Calls Tryz.prog 8 #[.pointer (some ⟨db, 0, none⟩), .agg #[.int .i64 obj.1, .int .i64 obj.2]] w fun e w' => e = .returned (.tuple #[.int .i64 l.length, .nilIface]) ∧ Below w.heap.size w w' := by
  obtain ⟨W0, hW0⟩ : ∃ W0, W0 = w.alloc (.cells #[.int .i64 obj.1, .int .i64 obj.2] 24) := ⟨_, rfl⟩
  have hb0 : Below w.heap.size w W0 := by rw [hW0]; exact (Below.refl _ _).alloc (Nat.le_refl _) _
  have hI0 : Blk W0 w.heap.size 24 #[.int .i64 obj.1, .int .i64 obj.2] := by rw [hW0]; exact Blk.new _ _ _
  have HD0 := Lib.hid (And.intro (H.below hb0) (And.intro hob hl))
  have HB0 := Lib.hid (And.intro hb0 hI0)
  have HW0 := Lib.hid hW0
  clear H hob hl hb0 hI0 hW0
  go_enter Tryz.func8, Tryz.ntmps8
  go_upto_region 2 with (first
    | (go_at_call 23; rw [← HW0.out]; (with_reducible refine (docState_any _ db D W0 HD0.out.1).mono ?_); (rintro e w1 ⟨B, sb, kb, vb, ib, lb, N, rfl, hS, hN, hB1, hb1⟩); (have H1 := Lib.hid (And.intro hS (And.intro hN (And.intro hb1 (HB0.out.2.below hb1 HB0.out.2.lt))))); (clear hS hB1 hb1)))
  have hS : ∀ W, Below w1.heap.size w1 W → W.cell? ⟨sb, 0, none⟩ = some (.map (some kb)) ∧ W.cell? ⟨w.heap.size, 0, none⟩ = some (.int .i64 obj.1) ∧ W.cell? ⟨w.heap.size, 1, none⟩ = some (.int .i64 obj.2) ∧
      (Instr.lookup 71 (.map (some kb)) (.agg #[.int .i64 obj.1, .int .i64 obj.2]) false).run Tryz.prog W = .ok (.int .i64 6) W := fun W hW => by
    have h2 := H1.out.1.below hW
    have hN2 := H1.out.2.2.2.below hW H1.out.2.2.2.lt
    refine ⟨h2.blk.cell 0, hN2.cell 0, hN2.cell 1, ?_⟩
    obtain ⟨Dk, k1, k2, k3⟩ := h2.ks
    have := run_look pairId k1 Tryz.underlying71 (zeroInt W) HD0.out.2.1
    rw [k2 _ HD0.out.2.1, HD0.out.2.2.kind] at this
    exact this
  have HKS := Lib.hid hS
  obtain ⟨p1, p2, p3, p4⟩ := hS w1 (Below.refl _ _)
  have r2 : w1.drew.cell? ⟨w.heap.size, 0, none⟩ = some (.int .i64 obj.1) := p2
  have r3 : w1.drew.cell? ⟨w.heap.size, 1, none⟩ = some (.int .i64 obj.2) := p3
  have HSE := Lib.hid (show Calls Tryz.prog 25 #[.pointer (some ⟨sb, 0, none⟩), .agg #[.int .i64 obj.1, .int .i64 obj.2]] w1.drew (SeenQ w1.drew l) from by
    obtain ⟨F, hF, hd, he⟩ := HD0.out.2.2.ex
    have h := seen_any B sb kb vb ib lb N F D.state obj w1.drew (H1.out.1.below (Below.refl _ _).drew) HD0.out.2.1 hd hF (by rw [he]; exact HD0.out.2.2.val) H1.out.2.1
    rw [he] at h
    exact h)
  have hll : l.length ≤ 1000 := by
    obtain ⟨F, hF, hd, he⟩ := HD0.out.2.2.ex
    rw [← he]
    exact Nat.le_trans (elemsF_len D.state obj F _) hF
  clear hS
  go_region_held3 (fun w' => w'.cell? ⟨sb, 0, none⟩ = some (.map (some kb)) ∧ w'.cell? ⟨w.heap.size, 0, none⟩ = some (.int .i64 obj.1) ∧ w'.cell? ⟨w.heap.size, 1, none⟩ = some (.int .i64 obj.2) ∧ (Instr.lookup 71 (.map (some kb)) (.agg #[.int .i64 obj.1, .int .i64 obj.2]) false).run Tryz.prog w' = .ok (.int .i64 6) w')
    (first | (with_reducible exact HKS.out _ (Below.refl _ w1).drew) | go_keep) (first | fail)
  all_goals
    go_wp2_with (go_at_call 25; (with_reducible refine HSE.out.mono ?_); (rintro e w2 ⟨A, c, rfl, hs2, hb2, hi2, hlo2⟩); (have H2 := Lib.hid hb2); clear hs2 hb2 hi2 hlo2)
    go_ret2
    exact ⟨rfl, HB0.out.1.trans ((H1.out.2.2.1.trans (((Below.refl w1.heap.size w1).drew.trans H2.out).mono H1.out.2.2.1.size)).mono HB0.out.1.size)⟩
/-- What At answers. -/
def AtV (w : World) (D : DocV) (obj el : Int × Int) (e : Ending) (w' : World) : Prop :=
  Below w.heap.size w w' ∧ ∃ (ids : List (Int × Int)) (A : Option Addr) (c : Nat), IdsOf (D.state.mv (obj, ⟨#[]⟩, el)) ids ∧ e = .returned (.tuple #[.slice A ids.length c, .nilIface]) ∧ SlAt w' A (valsCells (D.state.mv (obj, ⟨#[]⟩, el)) ids)
set_option maxRecDepth 100000 in
set_option maxHeartbeats 4000000 in
theorem docAt_ok (K : Nat → Prop) (db i : Nat) (D : DocV) (obj el : Int × Int) (l : List (Int × Int)) (w : World) (H : DocA w K db D) (hob : I2 obj) (hl : ListIs D.state obj l) (hi : l[i]? = some el) :
    Calls Tryz.prog 9 #[.pointer (some ⟨db, 0, none⟩), .agg #[.int .i64 obj.1, .int .i64 obj.2], .int .i64 (i : Int)] w (AtV w D obj el) := by
  obtain ⟨W0, hW0⟩ : ∃ W0, W0 = w.alloc (.cells #[.int .i64 obj.1, .int .i64 obj.2] 24) := ⟨_, rfl⟩
  have hb0 : Below w.heap.size w W0 := by rw [hW0]; exact (Below.refl _ _).alloc (Nat.le_refl _) _
  have hI0 : Blk W0 w.heap.size 24 #[.int .i64 obj.1, .int .i64 obj.2] := by rw [hW0]; exact Blk.new _ _ _
  have hil := (List.getElem?_eq_some_iff.1 hi).1
  have hll : l.length ≤ 1000 := by
    obtain ⟨F, hF, hd, he⟩ := hl.ex
    rw [← he]
    exact Nat.le_trans (elemsF_len D.state obj F _) hF
  have hi1 : (i : Int) ≤ 1000 := by omega
  have HD0 := Lib.hid (And.intro (H.below hb0) (And.intro hob (And.intro hl hi)))
  have HB0 := Lib.hid (And.intro hb0 hI0)
  have HW0 := Lib.hid hW0
  clear H hob hl hb0 hI0 hW0 hi
  go_enter Tryz.func9, Tryz.ntmps9
  go_upto_region 2 with (first
    | (go_at_call 23; rw [← HW0.out]; (with_reducible refine (docState_any _ db D W0 HD0.out.1).mono ?_); (rintro e w1 ⟨B, sb, kb, vb, ib, lb, N, rfl, hS, hN, hB1, hb1⟩); (have H1 := Lib.hid (And.intro hS (And.intro hN (And.intro hb1 (HB0.out.2.below hb1 HB0.out.2.lt))))); (clear hS hB1 hb1)))
  have o0 : w1.cell? ⟨w.heap.size, 0, none⟩ = some (.int .i64 obj.1) := H1.out.2.2.2.cell 0
  have o1 : w1.cell? ⟨w.heap.size, 1, none⟩ = some (.int .i64 obj.2) := H1.out.2.2.2.cell 1
  go_upto_region 3 with (go_at_call 26; (with_reducible refine (indexed_is B sb kb vb ib lb N D.state obj i 0 l w1 H1.out.1 HD0.out.2.1 HD0.out.2.2.1 H1.out.2.1 (by omega) (by omega) ⟨by omega, by omega⟩).mono ?_); (rintro e w2 ⟨A, c, rfl, hs2, hb2, hi2, hlo2⟩); (have H2 := Lib.hid (And.intro hs2 (And.intro hb2 (And.intro hi2 (H1.out.2.2.2.below hb2 H1.out.2.2.2.lt))))); (clear hs2 hb2 hi2 hlo2))
  clear o0 o1
  obtain ⟨b, off, r, ha, hr, hx, hy⟩ := H2.out.1.ref hil
  have hre : r = el := by have := HD0.out.2.2.2; rw [this] at hr; exact (Option.some.inj hr).symm
  subst hre
  have hri : I2 r := H2.out.2.2.1 r (List.mem_of_getElem? hr)
  have HS2 := Lib.hid (And.intro (H1.out.1.below H2.out.2.1) (And.intro hri H2.out.2.1))
  have HE2 := Lib.hid (show ∀ W, Below w2.heap.size w2 W → Calls Tryz.prog 27 #[.pointer (some ⟨sb, 0, none⟩), .agg #[.int .i64 obj.1, .int .i64 obj.2], .agg #[.int .i64 r.1, .int .i64 r.2]] W (AtQ W D.state (obj, ⟨#[]⟩, r) N) from fun W hW => stElem_any B sb kb vb ib lb N D.state obj r W ((H1.out.1.below H2.out.2.1).below hW) ⟨HD0.out.2.1, Nat.zero_le _, hri⟩ H1.out.2.1)
  have p0 : w2.cell? ⟨w.heap.size, 0, none⟩ = some (.int .i64 obj.1) := H2.out.2.2.2.cell 0
  have p1 : w2.cell? ⟨w.heap.size, 1, none⟩ = some (.int .i64 obj.2) := H2.out.2.2.2.cell 1
  have hfl : ∀ (W : World) (n1 n2 m1 m2 : Nat) (a1 a2 : Option Addr), (Instr.field 83 (.agg #[.int .i64 obj.1, .int .i64 obj.2, .string ⟨#[]⟩, .int .i64 r.1, .int .i64 r.2, .slice a1 n1 m1, .slice a2 n2 m2]) 3).run Tryz.prog W = .ok (.slice a1 n1 m1) W := fun W n1 n2 m1 m2 a1 a2 => by kernel_rfl
  subst ha
  clear hri hr
  have HKP := Lib.hid (show ∀ w', Below w2.heap.size w2 w' → w'.cell? ⟨w.heap.size, 0, none⟩ = some (.int .i64 obj.1) ∧ w'.cell? ⟨w.heap.size, 1, none⟩ = some (.int .i64 obj.2) ∧ w'.cell? ⟨b, off + i * 2, none⟩ = some (.int .i64 r.1) ∧ w'.cell? ⟨b, off + i * 2 + 1, none⟩ = some (.int .i64 r.2) from fun w' hW => by
    have hN2 := H2.out.2.2.2.below hW H2.out.2.2.2.lt
    have hb : w'.heap[b]? = w2.heap[b]? := hW.block b (cell_lt hx)
    exact ⟨hN2.cell 0, hN2.cell 1, (World.cell?_of_block (a := ⟨b, off + i * 2, none⟩) hb).trans hx, (World.cell?_of_block (a := ⟨b, off + i * 2 + 1, none⟩) hb).trans hy⟩)
  go_upto_region 5 with (fail)
  go_region_held3 (fun w' => w'.cell? ⟨w.heap.size, 0, none⟩ = some (.int .i64 obj.1) ∧ w'.cell? ⟨w.heap.size, 1, none⟩ = some (.int .i64 obj.2) ∧ w'.cell? ⟨b, off + i * 2, none⟩ = some (.int .i64 r.1) ∧ w'.cell? ⟨b, off + i * 2 + 1, none⟩ = some (.int .i64 r.2)) (first | (with_reducible exact HKP.out _ (Below.refl _ w2).drew) | (with_reducible exact HKP.out _ HBE.out) | go_keep) (first
    | (go_simp
       go_at_call 27
       (with_reducible refine (HE2.out w2.drew (Below.refl _ w2).drew).mono ?_)
       (rintro e w3 ⟨ids, A1, A2, c1, c2, rfl, h2, h3, h4, h5, h6, h7⟩)
       have HBE := Lib.hid (show Below w2.heap.size w2 w3 from (Below.refl w2.heap.size w2).drew.trans h6)
       have HE := Lib.hid (And.intro h2 (And.intro h3 HBE.out))
       clear h2 h3 h4 h5 h6 h7))
  all_goals
    go_wp2_with fail
    go_ret2
    exact ⟨HB0.out.1.trans (((H1.out.2.2.1.trans (H2.out.2.1.mono H1.out.2.2.1.size)).trans (HE.out.2.2.mono (Nat.le_trans H1.out.2.2.1.size H2.out.2.1.size))).mono HB0.out.1.size), ids, A1, c1, HE.out.1, rfl, HE.out.2.1⟩
end Go.Proofs.YteknflimfdkhoaaGreat
namespace Go.Proofs.YteknflimfdkhoaaGreat
open Go.RowKit Go.Maps Go.Sort
set_option linter.unusedVariables false
set_option linter.unusedSimpArgs false

/-- The op of Insert. -/
def insO (obj el : Int × Int) (v : JV) : OpV := { kind := 1, obj := obj, key := ⟨#[]⟩, elem := el, ins := true, val := v, preds := [] }
theorem insO_fit {obj el : Int × Int} {v : JV} (h1 : I2 obj) (h2 : I2 el) (h3 : v.Fit) : (insO obj el v).Fit := ⟨i64_k.2.2, h1, Nat.zero_le _, h2, h3, fun p hp => (by cases hp), Nat.zero_le _⟩
/-- What Insert answers. -/
def DInsQ (w : World) (K : Nat → Prop) (db : Nat) (D : DocV) (r : Int × (Int × Int) × List OpV) (e : Ending) (w' : World) : Prop := e = .returned (errC r.1) ∧ DocA w' (fun i => K i ∨ w.heap.size ≤ i) db { D with pend := r.2.2 } ∧ Only K w w'
set_option maxRecDepth 100000 in
set_option maxHeartbeats 4000000 in
theorem docInsert_ok (K : Nat → Prop) (db n : Nat) (D : DocV) (obj el : Int × Int) (v : JV) (l : List (Int × Int)) (w : World) (H : DocA w K db D) (hob : I2 obj) (hel : I2 el) (hv : v.Fit) (hpe : plainE v = 0) (hl : ListIs D.state obj l) (hn : n ≤ l.length) (hl1 : l.length ≤ 1000) (he : (n = 0 ∧ el = (0, 0)) ∨ ∃ j, n = j + 1 ∧ l[j]? = some el) :
    Calls Tryz.prog 5 #[.pointer (some ⟨db, 0, none⟩), .agg #[.int .i64 obj.1, .int .i64 obj.2], .int .i64 (n : Int), .agg #[.int .i64 v.k, .int .i64 v.n, .string v.s, .int .i64 v.o, .int .i64 v.p]] w (DInsQ w K db D (addV D (insO obj el v) (fun _ => none) [])) := by
  obtain ⟨r, hr⟩ : ∃ r, addV D (insO obj el v) (fun _ => none) [] = r := ⟨_, rfl⟩
  rw [hr]
  obtain ⟨W0, hW0⟩ : ∃ W0, W0 = (w.alloc (.cells #[.int .i64 obj.1, .int .i64 obj.2] 24)).alloc (.cells #[.int .i64 v.k, .int .i64 v.n, .string v.s, .int .i64 v.o, .int .i64 v.p] 31) := ⟨_, rfl⟩
  have hb0 : Below w.heap.size w W0 := by rw [hW0]; exact ((Below.refl _ _).alloc (Nat.le_refl _) _).alloc (by simp) _
  have hI0 : Blk W0 w.heap.size 24 #[.int .i64 obj.1, .int .i64 obj.2] := by rw [hW0]; exact (Blk.new w _ _).alloc _
  have hV0 : Blk W0 (w.heap.size + 1) 31 #[.int .i64 v.k, .int .i64 v.n, .string v.s, .int .i64 v.o, .int .i64 v.p] := by rw [hW0]; exact Blk.newer _ _ _ (by simp)
  have HD0 := Lib.hid (H.bound.below hb0)
  have HF := Lib.hid (And.intro (insO_fit hob hel hv) (And.intro hl he))
  have HS := Lib.hid (show ∀ W, Only (fun i => K i ∧ i < w.heap.size) W0 W → (W.cell? ⟨w.heap.size, 0, none⟩ = some (.int .i64 obj.1) ∧ W.cell? ⟨w.heap.size, 1, none⟩ = some (.int .i64 obj.2) ∧ W.cell? ⟨w.heap.size + 1, 0, none⟩ = some (.int .i64 v.k) ∧ W.cell? ⟨w.heap.size + 1, 1, none⟩ = some (.int .i64 v.n) ∧ W.cell? ⟨w.heap.size + 1, 2, none⟩ = some (.string v.s) ∧ W.cell? ⟨w.heap.size + 1, 3, none⟩ = some (.int .i64 v.o) ∧ W.cell? ⟨w.heap.size + 1, 4, none⟩ = some (.int .i64 v.p)) from fun W hW => by
    have hI := hI0.only hW (fun e => by have := e.2; omega)
    have hV := hV0.only hW (fun e => by have := e.2; omega)
    exact ⟨hI.cell 0, hI.cell 1, hV.cell 0, hV.cell 1, hV.cell 2, hV.cell 3, hV.cell 4⟩)
  have HT := Lib.hid (show ∀ W W2 g c0 c1, Only (fun i => K i ∧ i < w.heap.size) W0 W → W0.heap.size ≤ g → W2 = ((W.setCell ⟨g, 0, none⟩ c0).setCell ⟨g, 1, none⟩ c1) → (W2.cell? ⟨w.heap.size, 0, none⟩ = some (.int .i64 obj.1) ∧ W2.cell? ⟨w.heap.size, 1, none⟩ = some (.int .i64 obj.2) ∧ W2.cell? ⟨w.heap.size + 1, 0, none⟩ = some (.int .i64 v.k) ∧ W2.cell? ⟨w.heap.size + 1, 1, none⟩ = some (.int .i64 v.n) ∧ W2.cell? ⟨w.heap.size + 1, 2, none⟩ = some (.string v.s) ∧ W2.cell? ⟨w.heap.size + 1, 3, none⟩ = some (.int .i64 v.o) ∧ W2.cell? ⟨w.heap.size + 1, 4, none⟩ = some (.int .i64 v.p)) from fun W W2 g c0 c1 hW hg e => by
    subst e
    have hl := hV0.lt
    have ho := onlyS2 W g c0 c1 0 1
    have hI := (hI0.only hW (fun e => by have := e.2; omega)).only ho (fun e => by have e : w.heap.size = g := e; omega)
    have hV := (hV0.only hW (fun e => by have := e.2; omega)).only ho (fun e => by have e : w.heap.size + 1 = g := e; omega)
    exact ⟨hI.cell 0, hI.cell 1, hV.cell 0, hV.cell 1, hV.cell 2, hV.cell 3, hV.cell 4⟩)
  have HB0 := Lib.hid hb0
  have HW0 := Lib.hid hW0
  have HPE := Lib.hid hpe
  have HOK := Lib.hid (show ∀ W, Below W0.heap.size W0 W → Calls Tryz.prog 14 #[.pointer (some ⟨db, 0, none⟩), .agg #[.int .i64 1, .int .i64 obj.1, .int .i64 obj.2, .string ⟨#[]⟩, .int .i64 0, .int .i64 0, .bool false, .int .i64 v.k, .int .i64 v.n, .string v.s, .int .i64 v.o, .int .i64 v.p, .slice none 0 0], .int .i64 (n : Int), .nilIface] W (AddQ W (fun i => K i ∧ i < w.heap.size) db D r) from fun W hW => by rw [← hr]; exact behind_ok _ db n D (insO obj el v) l W (HD0.out.below hW) HF.out.1 rfl HF.out.2.1 hn hl1 HF.out.2.2)
  obtain ⟨p0, p1, p2, p3, p4, p5, p6⟩ := HS.out W0 (Only.refl _ _)
  have hnb : (n : Int) ≤ 1000 := by omega
  clear H hob hel hv hb0 hI0 hV0 hW0 hpe hl he hr hn hl1
  go_enter Tryz.func5, Tryz.ntmps5
  go_upto_region 1 with (fail)
  rw [← HW0.out]
  go_region_held3 (fun w' => w'.cell? ⟨w.heap.size, 0, none⟩ = some (.int .i64 obj.1) ∧ w'.cell? ⟨w.heap.size, 1, none⟩ = some (.int .i64 obj.2) ∧ w'.cell? ⟨w.heap.size + 1, 0, none⟩ = some (.int .i64 v.k) ∧ w'.cell? ⟨w.heap.size + 1, 1, none⟩ = some (.int .i64 v.n) ∧ w'.cell? ⟨w.heap.size + 1, 2, none⟩ = some (.string v.s) ∧ w'.cell? ⟨w.heap.size + 1, 3, none⟩ = some (.int .i64 v.o) ∧ w'.cell? ⟨w.heap.size + 1, 4, none⟩ = some (.int .i64 v.p))
    (first | (with_reducible exact HS.out _ (Only.refl _ W0).drew) | (with_reducible exact HS.out _ ((Only.refl _ W0).alloc _).drew) | (with_reducible exact HS.out _ hoW1) | (with_reducible exact HS.out _ (hoW1.alloc _)) | (with_reducible exact HS.out _ hoW2) | (with_reducible exact HS.out _ (hoW2.alloc _)) | (with_reducible exact HT.out _ _ _ _ _ hoW2 HB1.out.size rfl) | (with_reducible exact HT.out _ _ _ _ _ hoW2 (Nat.le_refl _) rfl) | go_keep) (first
    | (go_simp
       go_at_call 15
       (with_reducible refine (docPlain_any v W0.drew).mono ?_)
       (rintro e w1 ⟨rfl, hb1⟩)
       rw [HPE.out, errC_zero]
       have hb1 : Below W0.heap.size W0 w1 := (Below.refl W0.heap.size W0).drew.trans hb1
       have hoW1 : Only (fun i => K i ∧ i < w.heap.size) W0 w1 := Only.of_below hb1
       have HB1 := Lib.hid hb1
       have HBA := Lib.hid (hb1.alloc hb1.size (.cells #[.int .i64 0, .int .i64 0] 24))
       clear hb1)
    | (go_simp
       go_at_call 15
       (with_reducible refine (docPlain_any v (W0.alloc (.cells #[.int .i64 0, .int .i64 0] 24)).drew).mono ?_)
       (rintro e w1 ⟨rfl, hb1⟩)
       rw [HPE.out, errC_zero]
       have hbx : Blk w1 W0.heap.size 24 #[.int .i64 0, .int .i64 0] := (show Blk (W0.alloc (.cells #[.int .i64 0, .int .i64 0] 24)).drew W0.heap.size _ _ from Blk.new W0 _ _).below hb1 (by simp)
       have hb1 : Below W0.heap.size W0 w1 := ((Below.refl W0.heap.size W0).alloc (Nat.le_refl _) (.cells #[.int .i64 0, .int .i64 0] 24)).drew.trans (hb1.mono (by simp))
       have hoW1 : Only (fun i => K i ∧ i < w.heap.size) W0 w1 := Only.of_below hb1
       have HBX := Lib.hid hbx
       have HB1 := Lib.hid hb1
       clear hb1 hbx)
    | (go_simp
       go_at_call 14
       (with_reducible refine (HOK.out _ HBA.out).mono ?_)
       (rintro e w2 ⟨rfl, hD2, ho2⟩)
       have hoW2 : Only (fun i => K i ∧ i < w.heap.size) W0 w2 := (hoW1.alloc _).chain ho2 (fun i hi e => e)
       have hR4 : Blk w2 w1.heap.size 24 #[.int .i64 0, .int .i64 0] := (Blk.new w1 _ _).only ho2 (fun e => by have := e.2; have := HB0.out.size; have := HB1.out.size; omega)
       have z0 := hR4.frozen
       have i0 := hR4.cell 0
       have i1 := hR4.cell 1
       simp only [List.getElem?_toArray, List.getElem?_cons_zero, List.getElem?_cons_succ] at i0 i1
       have HR := Lib.hid (And.intro True.intro (show AddQ (w1.alloc (.cells #[.int .i64 0, .int .i64 0] 24)) (fun i => K i ∧ i < w.heap.size) db D r _ w2 from ⟨rfl, hD2, ho2⟩))
       clear hD2 ho2 hR4)
    | (go_simp
       go_at_call 14
       (with_reducible refine (HOK.out w1 HB1.out).mono ?_)
       (rintro e w2 ⟨rfl, hD2, ho2⟩)
       have hoW2 : Only (fun i => K i ∧ i < w.heap.size) W0 w2 := hoW1.chain ho2 (fun i hi e => e)
       have hR4 : Blk w2 W0.heap.size 24 #[.int .i64 0, .int .i64 0] := HBX.out.only ho2 (fun e => by have := e.2; have := HB0.out.size; have := HB1.out.size; omega)
       have z0 := hR4.frozen
       have i0 := hR4.cell 0
       have i1 := hR4.cell 1
       simp only [List.getElem?_toArray, List.getElem?_cons_zero, List.getElem?_cons_succ] at i0 i1
       have HR := Lib.hid (And.intro True.intro (show AddQ w1 (fun i => K i ∧ i < w.heap.size) db D r _ w2 from ⟨rfl, hD2, ho2⟩))
       clear hD2 ho2 hR4)
    | (go_simp
       go_at_call 14
       (with_reducible refine (HOK.out w1 HB1.out).mono ?_)
       (rintro e w2 ⟨rfl, hD2, ho2⟩)
       have hoW2 : Only (fun i => K i ∧ i < w.heap.size) W0 w2 := hoW1.chain ho2 (fun i hi e => e)
       have HR := Lib.hid (And.intro True.intro (show AddQ w1 (fun i => K i ∧ i < w.heap.size) db D r _ w2 from ⟨rfl, hD2, ho2⟩))
       clear hD2 ho2))
  all_goals
    go_wp2_with fail
    go_ret
    have hz : (w1.alloc (.cells #[.int .i64 0, .int .i64 0] 24)).heap.size = w1.heap.size + 1 := by simp
    have hz0 : W0.heap.size < (W0.alloc (.cells #[.int .i64 0, .int .i64 0] 24)).heap.size := by simp
    first
      | (obtain ⟨h2, h3⟩ := put_end (HB0.out.trans (HBA.out.mono HB0.out.size)) (Nat.le_trans HB0.out.size HB1.out.size) (show w1.heap.size < _ from by omega) HR.out.2 (.int .i64 r.2.1.1) (.int .i64 r.2.1.2)
         exact ⟨rfl, h2, h3⟩)
      | (obtain ⟨h2, h3⟩ := put_end (HB0.out.trans (HB1.out.mono HB0.out.size)) HB0.out.size HBX.out.lt HR.out.2 (.int .i64 r.2.1.1) (.int .i64 r.2.1.2)
         exact ⟨rfl, h2, h3⟩)
      | (obtain ⟨h2, h3⟩ := addQ_up (HB0.out.trans (HB1.out.mono HB0.out.size)) HR.out.2
         have hbl : Below w2.heap.size w2 (w2.alloc (.cells #[.int .i64 r.2.1.1, .int .i64 r.2.1.2] 24)) := (Below.refl _ _).alloc (Nat.le_refl _) _
         exact ⟨rfl, h2.below hbl, h3.trans (Only.of_below hbl)⟩)
end Go.Proofs.YteknflimfdkhoaaGreat
