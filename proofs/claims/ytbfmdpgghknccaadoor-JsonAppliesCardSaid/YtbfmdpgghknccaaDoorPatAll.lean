/- RefPatHead RefPat1a RefPat1b RefPat1c RefPat2 RefPat3 RefPatNl RefPatNz RefPatNy RefPatNx RefPatAny: merged by tools/merge.py. -/
import Derived.Test.YtbfmdpgghknccaaDoorPutAny
import Derived.Test.YtbfmdpgghknccaaDoorGetHead
import Derived.Deep.DeepCutAuto
import Derived.Deep.RegionHeld3
namespace Go.Proofs.YtbfmdpgghknccaaDoor
open Go.RowKit
set_option linter.unusedVariables false
set_option linter.unusedSimpArgs false

theorem Lies.only {S S0 S' : Nat → Prop} {w w' : World} {T : PT} (h : Lies S w T) (ho : Only S0 w w') (h0 : ∀ b, b < w.heap.size → S0 b → S b) (hS : ∀ b, b < w.heap.size → S' b → S b) : Lies S' w' T := fun w'' hw =>
  h w'' ⟨hw.os.trans ho.os, hw.tape.trans ho.tape, hw.output.trans ho.output, Nat.le_trans ho.size hw.size, fun k hk hn => (hw.block k (Nat.lt_of_lt_of_le hk ho.size) (fun h => hn (hS k hk h))).trans (ho.block k hk (fun h => hn (h0 k hk h)))⟩
/-- What patched gives: the tree itself, or a new one. -/
def RPatQ (S : Nat → Prop) (w : World) (T : PT) (r : Option JT) (e : Ending) (w' : World) : Prop :=
  Below w.heap.size w w' ∧ match r with
    | none => e = .returned (.tuple #[T.value, .bool false])
    | some u => ∃ R : PT, e = .returned (.tuple #[R.value, .bool true]) ∧ R.tree = u ∧ Lies S w' R ∧ R.Caps

theorem PT.bare_caps (v : JV) : (PT.bare v).Caps := by
  show (PT.node v none 0 [] none 0 []).Caps
  simp [PT.Caps, PT.CapsL]
theorem idx_key {T : PT} {s : St} {i : Nat} (h : T.tree.idx s = some i) (h5 : T.val.k = 5) : T.keys[i]? = some s.key := by
  unfold JT.idx idxO at h
  rw [PT.tree_val, PT.tree_keys] at h
  split at h
  · split at h
    · rename_i hk
      injection h with h
      rw [← h]; exact hk
    · cases h
  · rw [if_neg (by unfold isListStep; simp [h5])] at h
    cases h
theorem ridx_of {t : JT} {s : St} {i : Nat} (h : t.idx s = some i) : ridxN t ⟨s.key, s.at_⟩ = i := by
  have h' : t.idx ⟨s.key, s.at_⟩ = some i := h
  unfold ridxN
  rw [h']
theorem ridx_not {t : JT} {s : St} (h : t.idx s = none) : ridxN t ⟨s.key, s.at_⟩ = -1 := by
  have h' : t.idx ⟨s.key, s.at_⟩ = none := h
  unfold ridxN
  rw [h']
theorem del_keys {T : PT} {s : St} {i : Nat} (h : T.tree.idx s = some i) : (if s.key.toList.isEmpty then T.keys else delAt T.keys i) = (if T.val.k = 5 then delAt T.keys i else T.keys) := by
  unfold JT.idx idxO at h
  rw [PT.tree_val] at h
  split at h
  · rename_i hm
    unfold isMapStep at hm
    simp at hm
    have e : s.key.toList.isEmpty = false := by simpa using hm.1.2
    simp [e, hm.1.1]
  · split at h
    · rename_i hm
      unfold isListStep at hm
      simp at hm
      have e : s.key.toList.isEmpty = true := by simp [hm.1.1.2]
      simp [e, hm.1.1.1]
    · cases h
theorem rq_at {Q : Exit → Act → World → Prop} {e : Exit} {a : Act} {w : World} (F : World → Prop) (hF : F w) (h : ∀ w1, F w1 → Q e a w1) : Q e a w := h w hF
theorem boxes4 (w : World) (c1 c2 c3 c4 : Array Value) (t1 t2 t3 t4 : TypeId) :
    Below w.heap.size w ((((w.alloc (.cells c1 t1)).alloc (.cells c2 t2)).alloc (.cells c3 t3)).alloc (.cells c4 t4)) ∧ Blk ((((w.alloc (.cells c1 t1)).alloc (.cells c2 t2)).alloc (.cells c3 t3)).alloc (.cells c4 t4)) w.heap.size t1 c1 ∧
    Blk ((((w.alloc (.cells c1 t1)).alloc (.cells c2 t2)).alloc (.cells c3 t3)).alloc (.cells c4 t4)) (w.heap.size + 1) t2 c2 ∧ Blk ((((w.alloc (.cells c1 t1)).alloc (.cells c2 t2)).alloc (.cells c3 t3)).alloc (.cells c4 t4)) (w.heap.size + 1 + 1) t3 c3 ∧
    Blk ((((w.alloc (.cells c1 t1)).alloc (.cells c2 t2)).alloc (.cells c3 t3)).alloc (.cells c4 t4)) (w.heap.size + 1 + 1 + 1) t4 c4 :=
  ⟨((((Below.refl _ _).alloc (Nat.le_refl _) _).alloc (by simp) _).alloc (by simp; omega) _).alloc (by simp; omega) _, (((Blk.new _ _ _).alloc _).alloc _).alloc _, ((Blk.newer _ _ _ (by simp)).alloc _).alloc _, (Blk.newer _ _ _ (by simp)).alloc _, Blk.newer _ _ _ (by simp)⟩
end Go.Proofs.YtbfmdpgghknccaaDoor
namespace Go.Proofs.YtbfmdpgghknccaaDoor
open Go.RowKit
set_option linter.unusedVariables false
set_option linter.unusedSimpArgs false

set_option maxRecDepth 100000 in
set_option maxHeartbeats 1000000 in
theorem rpat_set_a (v : JV) (B : Option Addr) (n c : Nat) (T : PT) (A : Option Addr) (c' : Nat) (s : St) (S : Nat → Prop) (w : World) (hS : ∀ b, S b → b < w.heap.size) (hL : Lies S w T) (hTc : T.Caps) (hA : SlAt w A (stCells [s])) (hf : T.tree.formed = true) (hv : v.Fit) (hn : T.kids.length ≤ 1000) (hs : s.key.size ≤ maxLen) {i : Nat} (hidx : T.tree.idx s = some i) :
    Calls Tryd.prog 20 #[T.value, .agg #[.int .i64 1, .slice B n c, .int .i64 v.k, .int .i64 v.n, .string v.s, .int .i64 v.o, .int .i64 v.p], .slice A 1 c'] w (RPatQ S w T (JT.pat 1 (JT.leaf v) T.tree [s])) := by
  have hT := hL.here
  have HL := Lib.hid (And.intro hS hL)
  clear hS hL
  obtain ⟨bp, op, rfl, g0, g1⟩ := (((hA.alloc (.cells #[.int .i64 T.val.k, .int .i64 T.val.n, .string T.val.s, .int .i64 T.val.o, .int .i64 T.val.p, .slice T.kA T.keys.length T.kc, .slice T.cA T.kids.length T.cc] 29)).alloc (.cells #[.int .i64 1, .slice B n c, .int .i64 v.k, .int .i64 v.n, .string v.s, .int .i64 v.o, .int .i64 v.p] 67)).alloc (.cells #[.int .i64 0, .int .i64 0, .string ⟨#[]⟩, .int .i64 0, .int .i64 0, .slice none 0 0, .slice none 0 0] 29)).step (l := [s]) (k := 0) rfl
  simp only [Nat.zero_mul, Nat.add_zero] at g0 g1
  have HI := Lib.hid (fun w1 (h1 : Below w.heap.size w w1) => by
    have := rindex_any T s.key s.at_ w1 (hT.below h1) hf
    rw [PT.value_eq] at this
    exact this)
  have HH := Lib.hid (And.intro hT (And.intro hTc (And.intro hA (And.intro hf (And.intro hv (And.intro hn hs))))))
  clear hT hTc hA hf hv hn hs
  rw [PT.value_eq]
  go_enter Tryd.func20, Tryd.ntmps20
  go_wp2_with fail
  obtain ⟨hb4, hBT, hBP, hBZ, hBS⟩ := boxes4 w #[.int .i64 T.val.k, .int .i64 T.val.n, .string T.val.s, .int .i64 T.val.o, .int .i64 T.val.p, .slice T.kA T.keys.length T.kc, .slice T.cA T.kids.length T.cc] #[.int .i64 1, .slice B n c, .int .i64 v.k, .int .i64 v.n, .string v.s, .int .i64 v.o, .int .i64 v.p] #[.int .i64 0, .int .i64 0, .string ⟨#[]⟩, .int .i64 0, .int .i64 0, .slice none 0 0, .slice none 0 0] #[.string s.key, .int .i64 s.at_] 29 67 29 69
  refine (HI.out _ hb4).mono ?_
  rintro e w2 ⟨rfl, hb2⟩
  have H2 := Lib.hid (And.intro (hb4.trans (hb2.mono hb4.size)) (And.intro (hBT.below hb2 hBT.lt) (And.intro (hBP.below hb2 hBP.lt) (And.intro (hBZ.below hb2 hBZ.lt) (hBS.below hb2 hBS.lt)))))
  clear hb4 hBT hBP hBZ hBS hb2 g0 g1 HI
  rw [ridx_of hidx]
  have hil := JT.idx_lt hidx (JT.top_of HH.out.2.2.2.1)
  rw [PT.tree_kids, List.length_map] at hil
  have HI := Lib.hid (And.intro hidx hil)
  clear hidx hil
  have t0 : (w2.alloc (.cells #[.int .i64 v.k, .int .i64 v.n, .string v.s, .int .i64 v.o, .int .i64 v.p, .slice none 0 0, .slice none 0 0] 29)).cell? ⟨w.heap.size, 0, none⟩ = some (.int .i64 T.val.k) := (H2.out.2.1.alloc _).cell 0
  have t1 : (w2.alloc (.cells #[.int .i64 v.k, .int .i64 v.n, .string v.s, .int .i64 v.o, .int .i64 v.p, .slice none 0 0, .slice none 0 0] 29)).cell? ⟨w.heap.size, 1, none⟩ = some (.int .i64 T.val.n) := (H2.out.2.1.alloc _).cell 1
  have t2 : (w2.alloc (.cells #[.int .i64 v.k, .int .i64 v.n, .string v.s, .int .i64 v.o, .int .i64 v.p, .slice none 0 0, .slice none 0 0] 29)).cell? ⟨w.heap.size, 2, none⟩ = some (.string T.val.s) := (H2.out.2.1.alloc _).cell 2
  have t3 : (w2.alloc (.cells #[.int .i64 v.k, .int .i64 v.n, .string v.s, .int .i64 v.o, .int .i64 v.p, .slice none 0 0, .slice none 0 0] 29)).cell? ⟨w.heap.size, 3, none⟩ = some (.int .i64 T.val.o) := (H2.out.2.1.alloc _).cell 3
  have t4 : (w2.alloc (.cells #[.int .i64 v.k, .int .i64 v.n, .string v.s, .int .i64 v.o, .int .i64 v.p, .slice none 0 0, .slice none 0 0] 29)).cell? ⟨w.heap.size, 4, none⟩ = some (.int .i64 T.val.p) := (H2.out.2.1.alloc _).cell 4
  have t5 : (w2.alloc (.cells #[.int .i64 v.k, .int .i64 v.n, .string v.s, .int .i64 v.o, .int .i64 v.p, .slice none 0 0, .slice none 0 0] 29)).cell? ⟨w.heap.size, 5, none⟩ = some (.slice T.kA T.keys.length T.kc) := (H2.out.2.1.alloc _).cell 5
  have t6 : (w2.alloc (.cells #[.int .i64 v.k, .int .i64 v.n, .string v.s, .int .i64 v.o, .int .i64 v.p, .slice none 0 0, .slice none 0 0] 29)).cell? ⟨w.heap.size, 6, none⟩ = some (.slice T.cA T.kids.length T.cc) := (H2.out.2.1.alloc _).cell 6
  have p0 : (w2.alloc (.cells #[.int .i64 v.k, .int .i64 v.n, .string v.s, .int .i64 v.o, .int .i64 v.p, .slice none 0 0, .slice none 0 0] 29)).cell? ⟨w.heap.size + 1, 0, none⟩ = some (.int .i64 1) := (H2.out.2.2.1.alloc _).cell 0
  have p2 : w2.cell? ⟨w.heap.size + 1, 2, none⟩ = some (.int .i64 v.k) := H2.out.2.2.1.cell 2
  have p3 : w2.cell? ⟨w.heap.size + 1, 3, none⟩ = some (.int .i64 v.n) := H2.out.2.2.1.cell 3
  have p4 : w2.cell? ⟨w.heap.size + 1, 4, none⟩ = some (.string v.s) := H2.out.2.2.1.cell 4
  have p5 : w2.cell? ⟨w.heap.size + 1, 5, none⟩ = some (.int .i64 v.o) := H2.out.2.2.1.cell 5
  have p6 : w2.cell? ⟨w.heap.size + 1, 6, none⟩ = some (.int .i64 v.p) := H2.out.2.2.1.cell 6
  have s0 : (w2.alloc (.cells #[.int .i64 v.k, .int .i64 v.n, .string v.s, .int .i64 v.o, .int .i64 v.p, .slice none 0 0, .slice none 0 0] 29)).cell? ⟨w.heap.size + 1 + 1 + 1, 0, none⟩ = some (.string s.key) := (H2.out.2.2.2.2.alloc _).cell 0
  have s1 : (w2.alloc (.cells #[.int .i64 v.k, .int .i64 v.n, .string v.s, .int .i64 v.o, .int .i64 v.p, .slice none 0 0, .slice none 0 0] 29)).cell? ⟨w.heap.size + 1 + 1 + 1, 1, none⟩ = some (.int .i64 s.at_) := (H2.out.2.2.2.2.alloc _).cell 1
  go_wp2_with fail
  have hb3 : Below w.heap.size w (w2.alloc (.cells #[.int .i64 v.k, .int .i64 v.n, .string v.s, .int .i64 v.o, .int .i64 v.p, .slice none 0 0, .slice none 0 0] 29)) := H2.out.1.alloc H2.out.1.size _
  have hlt3 := H2.out.2.2.2.2.lt
  have hsz3 : w2.heap.size ≤ ((w2.alloc (.cells #[.int .i64 v.k, .int .i64 v.n, .string v.s, .int .i64 v.o, .int .i64 v.p, .slice none 0 0, .slice none 0 0] 29))).heap.size := Nat.le_trans (Nat.le_refl _) (by simp)
  have hSS : ∀ b, (S b ∨ (w.heap.size ≤ b ∧ b < w.heap.size + 4)) → b < ((w2.alloc (.cells #[.int .i64 v.k, .int .i64 v.n, .string v.s, .int .i64 v.o, .int .i64 v.p, .slice none 0 0, .slice none 0 0] 29))).heap.size := by
    intro b hb
    rcases hb with hb | hb
    · have := HL.out.1 b hb; have := hb3.size; omega
    · omega
  have hSL : ∀ b, b < w.heap.size → (S b ∨ (w.heap.size ≤ b ∧ b < w.heap.size + 4)) → S b := by
    intro b hb hs
    rcases hs with hs | hs
    · exact hs
    · omega
  have hput := rput_set T (PT.bare v) i s.key (fun b => S b ∨ (w.heap.size ≤ b ∧ b < w.heap.size + 4)) (w2.alloc (.cells #[.int .i64 v.k, .int .i64 v.n, .string v.s, .int .i64 v.o, .int .i64 v.p, .slice none 0 0, .slice none 0 0] 29)) hSS (HL.out.2.below hb3 hSL) (fun w' ho => PT.bare_in _ HH.out.2.2.2.2.1) HH.out.2.1 (PT.bare_caps v) HH.out.2.2.2.1 HI.out.2 HH.out.2.2.2.2.2.1 HH.out.2.2.2.2.2.2 (idx_key HI.out.1)
  rw [PT.value_eq] at hput
  clear t0 t1 t2 t3 t4 t5 t6 p0 p2 p3 p4 p5 p6 s0 s1
  refine hput.mono ?_
  rintro e w4 ⟨R, rfl, hR1, hR2, hR3, hb4⟩
  have hZ4 : Blk w4 (w.heap.size + 1 + 1) 29 #[.int .i64 0, .int .i64 0, .string ⟨#[]⟩, .int .i64 0, .int .i64 0, .slice none 0 0, .slice none 0 0] := (H2.out.2.2.2.1.alloc _).below hb4 (H2.out.2.2.2.1.alloc _).lt
  rw [PT.value_eq]
  have z0 : w4.cell? ⟨w.heap.size + 1 + 1, 0, none⟩ = some (.int .i64 0) := hZ4.cell 0
  have z1 : w4.cell? ⟨w.heap.size + 1 + 1, 1, none⟩ = some (.int .i64 0) := hZ4.cell 1
  have z2 : w4.cell? ⟨w.heap.size + 1 + 1, 2, none⟩ = some (.string ⟨#[]⟩) := hZ4.cell 2
  have z3 : w4.cell? ⟨w.heap.size + 1 + 1, 3, none⟩ = some (.int .i64 0) := hZ4.cell 3
  have z4 : w4.cell? ⟨w.heap.size + 1 + 1, 4, none⟩ = some (.int .i64 0) := hZ4.cell 4
  have z5 : w4.cell? ⟨w.heap.size + 1 + 1, 5, none⟩ = some (.slice none 0 0) := hZ4.cell 5
  have z6 : w4.cell? ⟨w.heap.size + 1 + 1, 6, none⟩ = some (.slice none 0 0) := hZ4.cell 6
  have zz := hZ4.frozen
  have HR4 := Lib.hid (And.intro hR1 (And.intro hR2 (And.intro hR3 (And.intro hb4 (And.intro hZ4 hb3)))))
  clear hR1 hR2 hR3 hb4 hZ4 hput hb3
  go_wp2_with fail
  clear z0 z1 z2 z3 z4 z5 z6
  refine bodyPost_ret (results_row_tmp Tryd.results20 _ _ (w.heap.size + 1 + 1) _ _ _ rfl (blk7 _ _ _ _ _ _ _ HR4.out.2.2.2.2.1) Tryd.underlying29 rfl (by kernel_rfl)) rfl ?_
  have hbw : Below w.heap.size w w4 := HR4.out.2.2.2.2.2.trans (HR4.out.2.2.2.1.mono HR4.out.2.2.2.2.2.size)
  have ho := only7 w4 (w.heap.size + 1 + 1) (.int .i64 R.val.k) (.int .i64 R.val.n) (.string R.val.s) (.int .i64 R.val.o) (.int .i64 R.val.p) (.slice R.kA R.keys.length R.kc) (.slice R.cA R.kids.length R.cc) 0 1 2 3 4 5 6
  refine ⟨hbw.trans (ho.below hbw.size (fun q hq e => by omega)), ?_⟩
  rw [show JT.pat 1 (JT.leaf v) T.tree [s] = some (T.tree.setKid i (PT.bare v).tree) from by simp only [JT.pat]; unfold JT.pat1; rw [if_pos rfl, HI.out.1, PT.bare_tree]]
  exact ⟨R, by rw [PT.value_eq]; rfl, HR4.out.1, HR4.out.2.1.only ho (fun b _ e => .inl (.inr ⟨by omega, by omega⟩)) (fun b _ hb => .inl (.inl hb)), HR4.out.2.2.1⟩
end Go.Proofs.YtbfmdpgghknccaaDoor
namespace Go.Proofs.YtbfmdpgghknccaaDoor
open Go.RowKit
set_option linter.unusedVariables false
set_option linter.unusedSimpArgs false

set_option maxRecDepth 100000 in
set_option maxHeartbeats 1000000 in
theorem rpat_set_b (v : JV) (B : Option Addr) (n c : Nat) (T : PT) (A : Option Addr) (c' : Nat) (s : St) (S : Nat → Prop) (w : World) (hS : ∀ b, S b → b < w.heap.size) (hL : Lies S w T) (hTc : T.Caps) (hA : SlAt w A (stCells [s])) (hf : T.tree.formed = true) (hv : v.Fit) (hn : T.kids.length ≤ 1000) (hs : s.key.size ≤ maxLen) (hidx : T.tree.idx s = none) (hm : isMapStep T.val s = false) :
    Calls Tryd.prog 20 #[T.value, .agg #[.int .i64 1, .slice B n c, .int .i64 v.k, .int .i64 v.n, .string v.s, .int .i64 v.o, .int .i64 v.p], .slice A 1 c'] w (RPatQ S w T (JT.pat 1 (JT.leaf v) T.tree [s])) := by
  have hT := hL.here
  have HL := Lib.hid (And.intro hS hL)
  clear hS hL
  obtain ⟨bp, op, rfl, g0, g1⟩ := (((hA.alloc (.cells #[.int .i64 T.val.k, .int .i64 T.val.n, .string T.val.s, .int .i64 T.val.o, .int .i64 T.val.p, .slice T.kA T.keys.length T.kc, .slice T.cA T.kids.length T.cc] 29)).alloc (.cells #[.int .i64 1, .slice B n c, .int .i64 v.k, .int .i64 v.n, .string v.s, .int .i64 v.o, .int .i64 v.p] 67)).alloc (.cells #[.int .i64 0, .int .i64 0, .string ⟨#[]⟩, .int .i64 0, .int .i64 0, .slice none 0 0, .slice none 0 0] 29)).step (l := [s]) (k := 0) rfl
  simp only [Nat.zero_mul, Nat.add_zero] at g0 g1
  have HI := Lib.hid (fun w1 (h1 : Below w.heap.size w w1) => by
    have := rindex_any T s.key s.at_ w1 (hT.below h1) hf
    rw [PT.value_eq] at this
    exact this)
  have HH := Lib.hid (And.intro hT (And.intro hTc (And.intro hA (And.intro hf (And.intro hv (And.intro hn hs))))))
  clear hT hTc hA hf hv hn hs
  rw [PT.value_eq]
  go_enter Tryd.func20, Tryd.ntmps20
  go_wp2_with fail
  obtain ⟨hb4, hBT, hBP, hBZ, hBS⟩ := boxes4 w #[.int .i64 T.val.k, .int .i64 T.val.n, .string T.val.s, .int .i64 T.val.o, .int .i64 T.val.p, .slice T.kA T.keys.length T.kc, .slice T.cA T.kids.length T.cc] #[.int .i64 1, .slice B n c, .int .i64 v.k, .int .i64 v.n, .string v.s, .int .i64 v.o, .int .i64 v.p] #[.int .i64 0, .int .i64 0, .string ⟨#[]⟩, .int .i64 0, .int .i64 0, .slice none 0 0, .slice none 0 0] #[.string s.key, .int .i64 s.at_] 29 67 29 69
  refine (HI.out _ hb4).mono ?_
  rintro e w2 ⟨rfl, hb2⟩
  have H2 := Lib.hid (And.intro (hb4.trans (hb2.mono hb4.size)) (And.intro (hBT.below hb2 hBT.lt) (And.intro (hBP.below hb2 hBP.lt) (And.intro (hBZ.below hb2 hBZ.lt) (hBS.below hb2 hBS.lt)))))
  clear hb4 hBT hBP hBZ hBS hb2 g0 g1 HI
  rw [ridx_not hidx]
  have t0 : (w2.alloc (.cells #[.int .i64 v.k, .int .i64 v.n, .string v.s, .int .i64 v.o, .int .i64 v.p, .slice none 0 0, .slice none 0 0] 29)).cell? ⟨w.heap.size, 0, none⟩ = some (.int .i64 T.val.k) := (H2.out.2.1.alloc _).cell 0
  have t1 : (w2.alloc (.cells #[.int .i64 v.k, .int .i64 v.n, .string v.s, .int .i64 v.o, .int .i64 v.p, .slice none 0 0, .slice none 0 0] 29)).cell? ⟨w.heap.size, 1, none⟩ = some (.int .i64 T.val.n) := (H2.out.2.1.alloc _).cell 1
  have t2 : (w2.alloc (.cells #[.int .i64 v.k, .int .i64 v.n, .string v.s, .int .i64 v.o, .int .i64 v.p, .slice none 0 0, .slice none 0 0] 29)).cell? ⟨w.heap.size, 2, none⟩ = some (.string T.val.s) := (H2.out.2.1.alloc _).cell 2
  have t3 : (w2.alloc (.cells #[.int .i64 v.k, .int .i64 v.n, .string v.s, .int .i64 v.o, .int .i64 v.p, .slice none 0 0, .slice none 0 0] 29)).cell? ⟨w.heap.size, 3, none⟩ = some (.int .i64 T.val.o) := (H2.out.2.1.alloc _).cell 3
  have t4 : (w2.alloc (.cells #[.int .i64 v.k, .int .i64 v.n, .string v.s, .int .i64 v.o, .int .i64 v.p, .slice none 0 0, .slice none 0 0] 29)).cell? ⟨w.heap.size, 4, none⟩ = some (.int .i64 T.val.p) := (H2.out.2.1.alloc _).cell 4
  have t5 : (w2.alloc (.cells #[.int .i64 v.k, .int .i64 v.n, .string v.s, .int .i64 v.o, .int .i64 v.p, .slice none 0 0, .slice none 0 0] 29)).cell? ⟨w.heap.size, 5, none⟩ = some (.slice T.kA T.keys.length T.kc) := (H2.out.2.1.alloc _).cell 5
  have t6 : (w2.alloc (.cells #[.int .i64 v.k, .int .i64 v.n, .string v.s, .int .i64 v.o, .int .i64 v.p, .slice none 0 0, .slice none 0 0] 29)).cell? ⟨w.heap.size, 6, none⟩ = some (.slice T.cA T.kids.length T.cc) := (H2.out.2.1.alloc _).cell 6
  have p0 : (w2.alloc (.cells #[.int .i64 v.k, .int .i64 v.n, .string v.s, .int .i64 v.o, .int .i64 v.p, .slice none 0 0, .slice none 0 0] 29)).cell? ⟨w.heap.size + 1, 0, none⟩ = some (.int .i64 1) := (H2.out.2.2.1.alloc _).cell 0
  have p2 : w2.cell? ⟨w.heap.size + 1, 2, none⟩ = some (.int .i64 v.k) := H2.out.2.2.1.cell 2
  have p3 : w2.cell? ⟨w.heap.size + 1, 3, none⟩ = some (.int .i64 v.n) := H2.out.2.2.1.cell 3
  have p4 : w2.cell? ⟨w.heap.size + 1, 4, none⟩ = some (.string v.s) := H2.out.2.2.1.cell 4
  have p5 : w2.cell? ⟨w.heap.size + 1, 5, none⟩ = some (.int .i64 v.o) := H2.out.2.2.1.cell 5
  have p6 : w2.cell? ⟨w.heap.size + 1, 6, none⟩ = some (.int .i64 v.p) := H2.out.2.2.1.cell 6
  have s0 : (w2.alloc (.cells #[.int .i64 v.k, .int .i64 v.n, .string v.s, .int .i64 v.o, .int .i64 v.p, .slice none 0 0, .slice none 0 0] 29)).cell? ⟨w.heap.size + 1 + 1 + 1, 0, none⟩ = some (.string s.key) := (H2.out.2.2.2.2.alloc _).cell 0
  have s1 : (w2.alloc (.cells #[.int .i64 v.k, .int .i64 v.n, .string v.s, .int .i64 v.o, .int .i64 v.p, .slice none 0 0, .slice none 0 0] 29)).cell? ⟨w.heap.size + 1 + 1 + 1, 1, none⟩ = some (.int .i64 s.at_) := (H2.out.2.2.2.2.alloc _).cell 1
  have HN := Lib.hid (show JT.pat 1 (JT.leaf v) T.tree [s] = none from by
    simp only [JT.pat]
    unfold JT.pat1
    rw [if_pos rfl, hidx, PT.tree_val, hm]
    rfl)
  have hcs : (¬ T.val.k = 5) ∨ (T.val.k = 5 ∧ (s.key.toList == []) = true) ∨ (T.val.k = 5 ∧ (s.key.toList == []) = false ∧ (s.at_ != 0) = true) := by
    by_cases h5 : T.val.k = 5
    · by_cases hk : s.key.toList = []
      · exact .inr (.inl ⟨h5, by simp [hk]⟩)
      · refine .inr (.inr ⟨h5, by simpa using hk, ?_⟩)
        unfold isMapStep at hm
        simpa [h5, hk] using hm
    · exact .inl h5
  clear hm hidx
  rcases hcs with h5 | ⟨h5, hke⟩ | ⟨h5, hke, ha0⟩
  all_goals
    have hZ3 := H2.out.2.2.2.1.alloc (.cells #[.int .i64 v.k, .int .i64 v.n, .string v.s, .int .i64 v.o, .int .i64 v.p, .slice none 0 0, .slice none 0 0] 29)
    have z0 : (w2.alloc (.cells #[.int .i64 v.k, .int .i64 v.n, .string v.s, .int .i64 v.o, .int .i64 v.p, .slice none 0 0, .slice none 0 0] 29)).cell? ⟨w.heap.size + 1 + 1, 0, none⟩ = some (.int .i64 0) := hZ3.cell 0
    have z1 : (w2.alloc (.cells #[.int .i64 v.k, .int .i64 v.n, .string v.s, .int .i64 v.o, .int .i64 v.p, .slice none 0 0, .slice none 0 0] 29)).cell? ⟨w.heap.size + 1 + 1, 1, none⟩ = some (.int .i64 0) := hZ3.cell 1
    have z2 : (w2.alloc (.cells #[.int .i64 v.k, .int .i64 v.n, .string v.s, .int .i64 v.o, .int .i64 v.p, .slice none 0 0, .slice none 0 0] 29)).cell? ⟨w.heap.size + 1 + 1, 2, none⟩ = some (.string ⟨#[]⟩) := hZ3.cell 2
    have z3 : (w2.alloc (.cells #[.int .i64 v.k, .int .i64 v.n, .string v.s, .int .i64 v.o, .int .i64 v.p, .slice none 0 0, .slice none 0 0] 29)).cell? ⟨w.heap.size + 1 + 1, 3, none⟩ = some (.int .i64 0) := hZ3.cell 3
    have z4 : (w2.alloc (.cells #[.int .i64 v.k, .int .i64 v.n, .string v.s, .int .i64 v.o, .int .i64 v.p, .slice none 0 0, .slice none 0 0] 29)).cell? ⟨w.heap.size + 1 + 1, 4, none⟩ = some (.int .i64 0) := hZ3.cell 4
    have z5 : (w2.alloc (.cells #[.int .i64 v.k, .int .i64 v.n, .string v.s, .int .i64 v.o, .int .i64 v.p, .slice none 0 0, .slice none 0 0] 29)).cell? ⟨w.heap.size + 1 + 1, 5, none⟩ = some (.slice none 0 0) := hZ3.cell 5
    have z6 : (w2.alloc (.cells #[.int .i64 v.k, .int .i64 v.n, .string v.s, .int .i64 v.o, .int .i64 v.p, .slice none 0 0, .slice none 0 0] 29)).cell? ⟨w.heap.size + 1 + 1, 6, none⟩ = some (.slice none 0 0) := hZ3.cell 6
    have zz := hZ3.frozen
    have HZ := Lib.hid hZ3
    clear hZ3
    go_wp2_with fail
    clear z0 z1 z2 z3 z4 z5 z6 t0 t1 t2 t3 t4 t5 t6 p0 p2 p3 p4 p5 p6 s0 s1
    refine bodyPost_ret (results_row_tmp Tryd.results20 _ _ (w.heap.size + 1 + 1) _ _ _ rfl (blk7 _ _ _ _ _ _ _ HZ.out) Tryd.underlying29 rfl (by kernel_rfl)) rfl ?_
    have hb3 : Below w.heap.size w (w2.alloc (.cells #[.int .i64 v.k, .int .i64 v.n, .string v.s, .int .i64 v.o, .int .i64 v.p, .slice none 0 0, .slice none 0 0] 29)) := H2.out.1.alloc H2.out.1.size _
    refine ⟨hb3.trans ((only7 (w2.alloc (.cells #[.int .i64 v.k, .int .i64 v.n, .string v.s, .int .i64 v.o, .int .i64 v.p, .slice none 0 0, .slice none 0 0] 29)) (w.heap.size + 1 + 1) _ _ _ _ _ _ _ _ _ _ _ _ _ _).below hb3.size (fun q hq e => by omega)), ?_⟩
    rw [HN.out, PT.value_eq]
    first | (rw [show T.val.k = 5 from by assumption]; rfl) | rfl
end Go.Proofs.YtbfmdpgghknccaaDoor
namespace Go.Proofs.YtbfmdpgghknccaaDoor
open Go.RowKit
set_option linter.unusedVariables false
set_option linter.unusedSimpArgs false

set_option maxRecDepth 100000 in
set_option maxHeartbeats 1000000 in
theorem rpat_set_c (v : JV) (B : Option Addr) (n c : Nat) (T : PT) (A : Option Addr) (c' : Nat) (s : St) (S : Nat → Prop) (w : World) (hS : ∀ b, S b → b < w.heap.size) (hL : Lies S w T) (hTc : T.Caps) (hA : SlAt w A (stCells [s])) (hf : T.tree.formed = true) (hv : v.Fit) (hn : T.kids.length ≤ 1000) (hs : s.key.size ≤ maxLen) (hidx : T.tree.idx s = none) (hm : isMapStep T.val s = true) :
    Calls Tryd.prog 20 #[T.value, .agg #[.int .i64 1, .slice B n c, .int .i64 v.k, .int .i64 v.n, .string v.s, .int .i64 v.o, .int .i64 v.p], .slice A 1 c'] w (RPatQ S w T (JT.pat 1 (JT.leaf v) T.tree [s])) := by
  have hT := hL.here
  have HL := Lib.hid (And.intro hS hL)
  clear hS hL
  obtain ⟨bp, op, rfl, g0, g1⟩ := (((hA.alloc (.cells #[.int .i64 T.val.k, .int .i64 T.val.n, .string T.val.s, .int .i64 T.val.o, .int .i64 T.val.p, .slice T.kA T.keys.length T.kc, .slice T.cA T.kids.length T.cc] 29)).alloc (.cells #[.int .i64 1, .slice B n c, .int .i64 v.k, .int .i64 v.n, .string v.s, .int .i64 v.o, .int .i64 v.p] 67)).alloc (.cells #[.int .i64 0, .int .i64 0, .string ⟨#[]⟩, .int .i64 0, .int .i64 0, .slice none 0 0, .slice none 0 0] 29)).step (l := [s]) (k := 0) rfl
  simp only [Nat.zero_mul, Nat.add_zero] at g0 g1
  have HI := Lib.hid (fun w1 (h1 : Below w.heap.size w w1) => by
    have := rindex_any T s.key s.at_ w1 (hT.below h1) hf
    rw [PT.value_eq] at this
    exact this)
  have HH := Lib.hid (And.intro hT (And.intro hTc (And.intro hA (And.intro hf (And.intro hv (And.intro hn hs))))))
  clear hT hTc hA hf hv hn hs
  rw [PT.value_eq]
  go_enter Tryd.func20, Tryd.ntmps20
  go_wp2_with fail
  obtain ⟨hb4, hBT, hBP, hBZ, hBS⟩ := boxes4 w #[.int .i64 T.val.k, .int .i64 T.val.n, .string T.val.s, .int .i64 T.val.o, .int .i64 T.val.p, .slice T.kA T.keys.length T.kc, .slice T.cA T.kids.length T.cc] #[.int .i64 1, .slice B n c, .int .i64 v.k, .int .i64 v.n, .string v.s, .int .i64 v.o, .int .i64 v.p] #[.int .i64 0, .int .i64 0, .string ⟨#[]⟩, .int .i64 0, .int .i64 0, .slice none 0 0, .slice none 0 0] #[.string s.key, .int .i64 s.at_] 29 67 29 69
  refine (HI.out _ hb4).mono ?_
  rintro e w2 ⟨rfl, hb2⟩
  have H2 := Lib.hid (And.intro (hb4.trans (hb2.mono hb4.size)) (And.intro (hBT.below hb2 hBT.lt) (And.intro (hBP.below hb2 hBP.lt) (And.intro (hBZ.below hb2 hBZ.lt) (hBS.below hb2 hBS.lt)))))
  clear hb4 hBT hBP hBZ hBS hb2 g0 g1 HI
  rw [ridx_not hidx]
  have t0 : (w2.alloc (.cells #[.int .i64 v.k, .int .i64 v.n, .string v.s, .int .i64 v.o, .int .i64 v.p, .slice none 0 0, .slice none 0 0] 29)).cell? ⟨w.heap.size, 0, none⟩ = some (.int .i64 T.val.k) := (H2.out.2.1.alloc _).cell 0
  have t1 : (w2.alloc (.cells #[.int .i64 v.k, .int .i64 v.n, .string v.s, .int .i64 v.o, .int .i64 v.p, .slice none 0 0, .slice none 0 0] 29)).cell? ⟨w.heap.size, 1, none⟩ = some (.int .i64 T.val.n) := (H2.out.2.1.alloc _).cell 1
  have t2 : (w2.alloc (.cells #[.int .i64 v.k, .int .i64 v.n, .string v.s, .int .i64 v.o, .int .i64 v.p, .slice none 0 0, .slice none 0 0] 29)).cell? ⟨w.heap.size, 2, none⟩ = some (.string T.val.s) := (H2.out.2.1.alloc _).cell 2
  have t3 : (w2.alloc (.cells #[.int .i64 v.k, .int .i64 v.n, .string v.s, .int .i64 v.o, .int .i64 v.p, .slice none 0 0, .slice none 0 0] 29)).cell? ⟨w.heap.size, 3, none⟩ = some (.int .i64 T.val.o) := (H2.out.2.1.alloc _).cell 3
  have t4 : (w2.alloc (.cells #[.int .i64 v.k, .int .i64 v.n, .string v.s, .int .i64 v.o, .int .i64 v.p, .slice none 0 0, .slice none 0 0] 29)).cell? ⟨w.heap.size, 4, none⟩ = some (.int .i64 T.val.p) := (H2.out.2.1.alloc _).cell 4
  have t5 : (w2.alloc (.cells #[.int .i64 v.k, .int .i64 v.n, .string v.s, .int .i64 v.o, .int .i64 v.p, .slice none 0 0, .slice none 0 0] 29)).cell? ⟨w.heap.size, 5, none⟩ = some (.slice T.kA T.keys.length T.kc) := (H2.out.2.1.alloc _).cell 5
  have t6 : (w2.alloc (.cells #[.int .i64 v.k, .int .i64 v.n, .string v.s, .int .i64 v.o, .int .i64 v.p, .slice none 0 0, .slice none 0 0] 29)).cell? ⟨w.heap.size, 6, none⟩ = some (.slice T.cA T.kids.length T.cc) := (H2.out.2.1.alloc _).cell 6
  have p0 : (w2.alloc (.cells #[.int .i64 v.k, .int .i64 v.n, .string v.s, .int .i64 v.o, .int .i64 v.p, .slice none 0 0, .slice none 0 0] 29)).cell? ⟨w.heap.size + 1, 0, none⟩ = some (.int .i64 1) := (H2.out.2.2.1.alloc _).cell 0
  have p2 : w2.cell? ⟨w.heap.size + 1, 2, none⟩ = some (.int .i64 v.k) := H2.out.2.2.1.cell 2
  have p3 : w2.cell? ⟨w.heap.size + 1, 3, none⟩ = some (.int .i64 v.n) := H2.out.2.2.1.cell 3
  have p4 : w2.cell? ⟨w.heap.size + 1, 4, none⟩ = some (.string v.s) := H2.out.2.2.1.cell 4
  have p5 : w2.cell? ⟨w.heap.size + 1, 5, none⟩ = some (.int .i64 v.o) := H2.out.2.2.1.cell 5
  have p6 : w2.cell? ⟨w.heap.size + 1, 6, none⟩ = some (.int .i64 v.p) := H2.out.2.2.1.cell 6
  have s0 : (w2.alloc (.cells #[.int .i64 v.k, .int .i64 v.n, .string v.s, .int .i64 v.o, .int .i64 v.p, .slice none 0 0, .slice none 0 0] 29)).cell? ⟨w.heap.size + 1 + 1 + 1, 0, none⟩ = some (.string s.key) := (H2.out.2.2.2.2.alloc _).cell 0
  have s1 : (w2.alloc (.cells #[.int .i64 v.k, .int .i64 v.n, .string v.s, .int .i64 v.o, .int .i64 v.p, .slice none 0 0, .slice none 0 0] 29)).cell? ⟨w.heap.size + 1 + 1 + 1, 1, none⟩ = some (.int .i64 s.at_) := (H2.out.2.2.2.2.alloc _).cell 1
  have hm' := hm
  unfold isMapStep at hm'
  simp at hm'
  have h5 : T.val.k = 5 := hm'.1.1
  have hke : (s.key.toList == []) = false := by simpa using hm'.1.2
  have ha0 : (s.at_ != 0) = false := by simp [hm'.2]
  have hkl : T.keys.length ≤ 9223372036854775807 := Nat.le_trans HH.out.1.slot.klen (by decide)
  have HM := Lib.hid (And.intro hm (And.intro hm'.1.1 hidx))
  clear hm' hm hidx
  go_wp2_with fail
  refine wp_at (fun w5 => Below w2.heap.size w2 w5 ∧ Blk w5 w2.heap.size 29 #[.int .i64 v.k, .int .i64 v.n, .string v.s, .int .i64 v.o, .int .i64 v.p, .slice none 0 0, .slice none 0 0]) ⟨(Below.refl _ _).alloc (Nat.le_refl _) _, Blk.new _ _ _⟩ ?_
  rintro w5 ⟨hb5, hB5⟩
  have H5 := Lib.hid (And.intro hb5 hB5)
  clear t0 t1 t2 t3 t4 t5 t6 p0 p2 p3 p4 p5 p6 s0 s1 hb5 hB5
  go_loopw [9] (fun iv wr => ∃ i : Nat, iv = .int .i64 i ∧ i ≤ plc T.keys s.key ∧ Below w5.heap.size w5 wr) (fun iv _ => T.keys.length - (intOf iv).toNat)
  case atStart => exact ⟨0, rfl, by omega, Below.refl _ _⟩
  case round =>
    obtain ⟨i, rfl, hi, hb⟩ := hrel
    have hpl := plc_le T.keys s.key
    have hb25 := H5.out.1.trans (hb.mono H5.out.1.size)
    have hW := H2.out.1.trans (hb25.mono H2.out.1.size)
    have t5 : wr.cell? ⟨w.heap.size, 5, none⟩ = some (.slice T.kA T.keys.length T.kc) := (H2.out.2.1.below hb25 H2.out.2.1.lt).cell 5
    have s0 : wr.cell? ⟨w.heap.size + 1 + 1 + 1, 0, none⟩ = some (.string s.key) := (H2.out.2.2.2.2.below hb25 H2.out.2.2.2.2.lt).cell 0
    by_cases hip : i < plc T.keys s.key
    · have hlt : i < T.keys.length := by omega
      have hlti : (i : Int) < (T.keys.length : Int) := by omega
      obtain ⟨x, hx⟩ : ∃ x, T.keys[i]? = some x := ⟨_, List.getElem?_eq_getElem hlt⟩
      have hcm : Op.bytesLess x.toList s.key.toList = true := plc_lt hip hx
      obtain ⟨b1, o1, hA1, g1⟩ := (HH.out.1.slot.keys.below hW).at_ (j := i) (u := .string x) (by simp [hx])
      rw [hA1] at t5
      have HX := Lib.hid (And.intro hb (And.intro hip hlt))
      clear hb hW hb25 hpl hip hx hA1
      go_wp2_with fail
      go_quiet ((fail))
      go_wp2_with fail
      go_roundw
      case rel => exact ⟨i + 1, by go_num, by have := HX.out.2.1; omega, below_drewN HX.out.1 _⟩
      case measure => simp [intOf] <;> (have := HX.out.2.2; omega)
    · obtain rfl : i = plc T.keys s.key := by omega
      obtain ⟨i, hie⟩ : ∃ i, plc T.keys s.key = i := ⟨_, rfl⟩
      rw [hie]
      rw [hie] at hpl
      have hdone : (¬ (i : Int) < (T.keys.length : Int)) ∨ ((i : Int) < (T.keys.length : Int) ∧ ∃ x, T.keys[i]? = some x ∧ Op.bytesLess x.toList s.key.toList = false) := by
        by_cases hlt : i < T.keys.length
        · obtain ⟨x, hx⟩ : ∃ x, T.keys[i]? = some x := ⟨_, List.getElem?_eq_getElem hlt⟩
          exact .inr ⟨by omega, x, hx, plc_at (by rw [hie]; exact hx)⟩
        · exact .inl (by omega)
      have hki : i ≤ T.kids.length := by rw [← PT.map_len HH.out.2.2.2.1 HM.out.2.1]; exact hpl
      have HP := Lib.hid (And.intro hie (And.intro hki (And.intro hb hb25)))
      clear hie hki hi hip hpl
      rcases hdone with hlti | ⟨hlti, x, hx, hcm⟩
      case' inl =>
        have hltd : decide ((i : Int) < (T.keys.length : Int)) = false := by simpa using hlti
        have hltn : ¬ i < T.keys.length := by omega
        have hltm : decide (i < T.keys.length) = false := by simpa using hltn
        clear hW hb25
        go_wp2_with fail
        go_quiet ((fail))
        refine rq_at (fun wq => Below w5.heap.size w5 wq) (below_drewN HP.out.2.2.1 _) ?_
        clear hltd hltn hltm
      case' inr =>
        obtain ⟨b1, o1, hA1, g1⟩ := (HH.out.1.slot.keys.below hW).at_ (j := i) (u := .string x) (by simp [hx])
        rw [hA1] at t5
        have hltn : i < T.keys.length := by omega
        clear hW hb25 hA1 hx
        go_wp2_with fail
        go_quiet ((fail))
        refine rq_at (fun wq => Below w5.heap.size w5 wq) (below_drewN HP.out.2.2.1 _) ?_
        clear g1 hcm hltn
      all_goals
        clear t5 s0 hb hlti
        rintro wq hbq
        have HBQ := Lib.hid hbq
        have t0 : wq.cell? ⟨w.heap.size, 0, none⟩ = some (.int .i64 T.val.k) := (H2.out.2.1.below (H5.out.1.trans (HBQ.out.mono H5.out.1.size)) H2.out.2.1.lt).cell 0
        have t1 : wq.cell? ⟨w.heap.size, 1, none⟩ = some (.int .i64 T.val.n) := (H2.out.2.1.below (H5.out.1.trans (HBQ.out.mono H5.out.1.size)) H2.out.2.1.lt).cell 1
        have t2 : wq.cell? ⟨w.heap.size, 2, none⟩ = some (.string T.val.s) := (H2.out.2.1.below (H5.out.1.trans (HBQ.out.mono H5.out.1.size)) H2.out.2.1.lt).cell 2
        have t3 : wq.cell? ⟨w.heap.size, 3, none⟩ = some (.int .i64 T.val.o) := (H2.out.2.1.below (H5.out.1.trans (HBQ.out.mono H5.out.1.size)) H2.out.2.1.lt).cell 3
        have t4 : wq.cell? ⟨w.heap.size, 4, none⟩ = some (.int .i64 T.val.p) := (H2.out.2.1.below (H5.out.1.trans (HBQ.out.mono H5.out.1.size)) H2.out.2.1.lt).cell 4
        have t5 : wq.cell? ⟨w.heap.size, 5, none⟩ = some (.slice T.kA T.keys.length T.kc) := (H2.out.2.1.below (H5.out.1.trans (HBQ.out.mono H5.out.1.size)) H2.out.2.1.lt).cell 5
        have t6 : wq.cell? ⟨w.heap.size, 6, none⟩ = some (.slice T.cA T.kids.length T.cc) := (H2.out.2.1.below (H5.out.1.trans (HBQ.out.mono H5.out.1.size)) H2.out.2.1.lt).cell 6
        have s0 : wq.cell? ⟨w.heap.size + 1 + 1 + 1, 0, none⟩ = some (.string s.key) := (H2.out.2.2.2.2.below (H5.out.1.trans (HBQ.out.mono H5.out.1.size)) H2.out.2.2.2.2.lt).cell 0
        have k0 : wq.cell? ⟨w2.heap.size, 0, none⟩ = some (.int .i64 v.k) := (H5.out.2.below HBQ.out H5.out.2.lt).cell 0
        have k1 : wq.cell? ⟨w2.heap.size, 1, none⟩ = some (.int .i64 v.n) := (H5.out.2.below HBQ.out H5.out.2.lt).cell 1
        have k2 : wq.cell? ⟨w2.heap.size, 2, none⟩ = some (.string v.s) := (H5.out.2.below HBQ.out H5.out.2.lt).cell 2
        have k3 : wq.cell? ⟨w2.heap.size, 3, none⟩ = some (.int .i64 v.o) := (H5.out.2.below HBQ.out H5.out.2.lt).cell 3
        have k4 : wq.cell? ⟨w2.heap.size, 4, none⟩ = some (.int .i64 v.p) := (H5.out.2.below HBQ.out H5.out.2.lt).cell 4
        have k5 : wq.cell? ⟨w2.heap.size, 5, none⟩ = some (.slice none 0 0) := (H5.out.2.below HBQ.out H5.out.2.lt).cell 5
        have k6 : wq.cell? ⟨w2.heap.size, 6, none⟩ = some (.slice none 0 0) := (H5.out.2.below HBQ.out H5.out.2.lt).cell 6
        clear hbq
        go_wp2_with fail
        have hb3 : Below w.heap.size w wq := H2.out.1.trans ((H5.out.1.trans (HBQ.out.mono H5.out.1.size)).mono H2.out.1.size)
        have hlt3 := H2.out.2.2.2.2.lt
        have hsz3 : w2.heap.size ≤ (wq).heap.size := (H5.out.1.trans (HBQ.out.mono H5.out.1.size)).size
        have hSS : ∀ b, (S b ∨ (w.heap.size ≤ b ∧ b < w.heap.size + 4)) → b < (wq).heap.size := by
          intro b hb
          rcases hb with hb | hb
          · have := HL.out.1 b hb; have := hb3.size; omega
          · omega
        have hSL : ∀ b, b < w.heap.size → (S b ∨ (w.heap.size ≤ b ∧ b < w.heap.size + 4)) → S b := by
          intro b hb hs
          rcases hs with hs | hs
          · exact hs
          · omega
        have hput := rput_ins_map T (PT.bare v) i s.key (fun b => S b ∨ (w.heap.size ≤ b ∧ b < w.heap.size + 4)) wq hSS (HL.out.2.below hb3 hSL) (fun w' ho => PT.bare_in _ HH.out.2.2.2.2.1) HH.out.2.1 (PT.bare_caps v) HH.out.2.2.2.1 HP.out.2.1 HH.out.2.2.2.2.2.1 HH.out.2.2.2.2.2.2 HM.out.2.1
        rw [PT.value_eq] at hput
        rw [HM.out.2.1] at hput
        clear t0 t1 t2 t3 t4 t5 t6 s0 k0 k1 k2 k3 k4 k5 k6
        refine hput.mono ?_
        rintro e w4 ⟨R, rfl, hR1, hR2, hR3, hb4⟩
        have hZ4 : Blk w4 (w.heap.size + 1 + 1) 29 #[.int .i64 0, .int .i64 0, .string ⟨#[]⟩, .int .i64 0, .int .i64 0, .slice none 0 0, .slice none 0 0] := ((H2.out.2.2.2.1.below (H5.out.1.trans (HBQ.out.mono H5.out.1.size)) H2.out.2.2.2.1.lt)).below hb4 ((H2.out.2.2.2.1.below (H5.out.1.trans (HBQ.out.mono H5.out.1.size)) H2.out.2.2.2.1.lt)).lt
        rw [PT.value_eq]
        have z0 : w4.cell? ⟨w.heap.size + 1 + 1, 0, none⟩ = some (.int .i64 0) := hZ4.cell 0
        have z1 : w4.cell? ⟨w.heap.size + 1 + 1, 1, none⟩ = some (.int .i64 0) := hZ4.cell 1
        have z2 : w4.cell? ⟨w.heap.size + 1 + 1, 2, none⟩ = some (.string ⟨#[]⟩) := hZ4.cell 2
        have z3 : w4.cell? ⟨w.heap.size + 1 + 1, 3, none⟩ = some (.int .i64 0) := hZ4.cell 3
        have z4 : w4.cell? ⟨w.heap.size + 1 + 1, 4, none⟩ = some (.int .i64 0) := hZ4.cell 4
        have z5 : w4.cell? ⟨w.heap.size + 1 + 1, 5, none⟩ = some (.slice none 0 0) := hZ4.cell 5
        have z6 : w4.cell? ⟨w.heap.size + 1 + 1, 6, none⟩ = some (.slice none 0 0) := hZ4.cell 6
        have zz := hZ4.frozen
        have HR4 := Lib.hid (And.intro hR1 (And.intro hR2 (And.intro hR3 (And.intro hb4 (And.intro hZ4 hb3)))))
        clear hR1 hR2 hR3 hb4 hZ4 hput hb3
        go_wp2_with fail
        clear z0 z1 z2 z3 z4 z5 z6
        refine bodyPost_ret (results_row_tmp Tryd.results20 _ _ (w.heap.size + 1 + 1) _ _ _ rfl (blk7 _ _ _ _ _ _ _ HR4.out.2.2.2.2.1) Tryd.underlying29 rfl (by kernel_rfl)) rfl ?_
        have hbw : Below w.heap.size w w4 := HR4.out.2.2.2.2.2.trans (HR4.out.2.2.2.1.mono HR4.out.2.2.2.2.2.size)
        have ho := only7 w4 (w.heap.size + 1 + 1) (.int .i64 R.val.k) (.int .i64 R.val.n) (.string R.val.s) (.int .i64 R.val.o) (.int .i64 R.val.p) (.slice R.kA R.keys.length R.kc) (.slice R.cA R.kids.length R.cc) 0 1 2 3 4 5 6
        refine ⟨hbw.trans (ho.below hbw.size (fun q hq e => by omega)), ?_⟩
        rw [show JT.pat 1 (JT.leaf v) T.tree [s] = some (.node T.val (insAt T.keys i s.key) (insAt (T.kids.map PT.tree) i (PT.bare v).tree)) from by simp only [JT.pat]; unfold JT.pat1; rw [if_pos rfl, HM.out.2.2, PT.tree_val, PT.tree_keys, PT.tree_kids]; simp only; rw [if_pos HM.out.1, HP.out.1, PT.bare_tree]]
        exact ⟨R, by rw [PT.value_eq]; rfl, HR4.out.1, HR4.out.2.1.only ho (fun b _ e => .inl (.inr ⟨by omega, by omega⟩)) (fun b _ hb => .inl (.inl hb)), HR4.out.2.2.1⟩
end Go.Proofs.YtbfmdpgghknccaaDoor
namespace Go.Proofs.YtbfmdpgghknccaaDoor
open Go.RowKit
set_option linter.unusedVariables false
set_option linter.unusedSimpArgs false

set_option maxRecDepth 100000 in
set_option maxHeartbeats 1000000 in
theorem rpat_del (v : JV) (B : Option Addr) (n c : Nat) (T : PT) (A : Option Addr) (c' : Nat) (s : St) (S : Nat → Prop) (w : World) (hS : ∀ b, S b → b < w.heap.size) (hL : Lies S w T) (hTc : T.Caps) (hA : SlAt w A (stCells [s])) (hf : T.tree.formed = true) (hv : v.Fit) (hn : T.kids.length ≤ 1000) (hs : s.key.size ≤ maxLen) :
    Calls Tryd.prog 20 #[T.value, .agg #[.int .i64 2, .slice B n c, .int .i64 v.k, .int .i64 v.n, .string v.s, .int .i64 v.o, .int .i64 v.p], .slice A 1 c'] w (RPatQ S w T (JT.pat 2 (JT.leaf v) T.tree [s])) := by
  have hT := hL.here
  have HL := Lib.hid (And.intro hS hL)
  clear hS hL
  obtain ⟨bp, op, rfl, g0, g1⟩ := (((hA.alloc (.cells #[.int .i64 T.val.k, .int .i64 T.val.n, .string T.val.s, .int .i64 T.val.o, .int .i64 T.val.p, .slice T.kA T.keys.length T.kc, .slice T.cA T.kids.length T.cc] 29)).alloc (.cells #[.int .i64 2, .slice B n c, .int .i64 v.k, .int .i64 v.n, .string v.s, .int .i64 v.o, .int .i64 v.p] 67)).alloc (.cells #[.int .i64 0, .int .i64 0, .string ⟨#[]⟩, .int .i64 0, .int .i64 0, .slice none 0 0, .slice none 0 0] 29)).step (l := [s]) (k := 0) rfl
  simp only [Nat.zero_mul, Nat.add_zero] at g0 g1
  have HI := Lib.hid (fun w1 (h1 : Below w.heap.size w w1) => by
    have := rindex_any T s.key s.at_ w1 (hT.below h1) hf
    rw [PT.value_eq] at this
    exact this)
  have HH := Lib.hid (And.intro hT (And.intro hTc (And.intro hA (And.intro hf (And.intro hv (And.intro hn hs))))))
  clear hT hTc hA hf hv hn hs
  rw [PT.value_eq]
  go_enter Tryd.func20, Tryd.ntmps20
  go_wp2_with fail
  obtain ⟨hb4, hBT, hBP, hBZ, hBS⟩ := boxes4 w #[.int .i64 T.val.k, .int .i64 T.val.n, .string T.val.s, .int .i64 T.val.o, .int .i64 T.val.p, .slice T.kA T.keys.length T.kc, .slice T.cA T.kids.length T.cc] #[.int .i64 2, .slice B n c, .int .i64 v.k, .int .i64 v.n, .string v.s, .int .i64 v.o, .int .i64 v.p] #[.int .i64 0, .int .i64 0, .string ⟨#[]⟩, .int .i64 0, .int .i64 0, .slice none 0 0, .slice none 0 0] #[.string s.key, .int .i64 s.at_] 29 67 29 69
  refine (HI.out _ hb4).mono ?_
  rintro e w2 ⟨rfl, hb2⟩
  have H2 := Lib.hid (And.intro (hb4.trans (hb2.mono hb4.size)) (And.intro (hBT.below hb2 hBT.lt) (And.intro (hBP.below hb2 hBP.lt) (And.intro (hBZ.below hb2 hBZ.lt) (hBS.below hb2 hBS.lt)))))
  clear hb4 hBT hBP hBZ hBS hb2 g0 g1 HI
  cases hidx : T.tree.idx s with
  | some i =>
    rw [ridx_of hidx]
    have hil := JT.idx_lt hidx (JT.top_of HH.out.2.2.2.1)
    rw [PT.tree_kids, List.length_map] at hil
    have HI := Lib.hid (And.intro hidx hil)
    clear hidx hil
    have t0 : (w2.alloc (.cells #[.int .i64 v.k, .int .i64 v.n, .string v.s, .int .i64 v.o, .int .i64 v.p, .slice none 0 0, .slice none 0 0] 29)).cell? ⟨w.heap.size, 0, none⟩ = some (.int .i64 T.val.k) := (H2.out.2.1.alloc _).cell 0
    have t1 : (w2.alloc (.cells #[.int .i64 v.k, .int .i64 v.n, .string v.s, .int .i64 v.o, .int .i64 v.p, .slice none 0 0, .slice none 0 0] 29)).cell? ⟨w.heap.size, 1, none⟩ = some (.int .i64 T.val.n) := (H2.out.2.1.alloc _).cell 1
    have t2 : (w2.alloc (.cells #[.int .i64 v.k, .int .i64 v.n, .string v.s, .int .i64 v.o, .int .i64 v.p, .slice none 0 0, .slice none 0 0] 29)).cell? ⟨w.heap.size, 2, none⟩ = some (.string T.val.s) := (H2.out.2.1.alloc _).cell 2
    have t3 : (w2.alloc (.cells #[.int .i64 v.k, .int .i64 v.n, .string v.s, .int .i64 v.o, .int .i64 v.p, .slice none 0 0, .slice none 0 0] 29)).cell? ⟨w.heap.size, 3, none⟩ = some (.int .i64 T.val.o) := (H2.out.2.1.alloc _).cell 3
    have t4 : (w2.alloc (.cells #[.int .i64 v.k, .int .i64 v.n, .string v.s, .int .i64 v.o, .int .i64 v.p, .slice none 0 0, .slice none 0 0] 29)).cell? ⟨w.heap.size, 4, none⟩ = some (.int .i64 T.val.p) := (H2.out.2.1.alloc _).cell 4
    have t5 : (w2.alloc (.cells #[.int .i64 v.k, .int .i64 v.n, .string v.s, .int .i64 v.o, .int .i64 v.p, .slice none 0 0, .slice none 0 0] 29)).cell? ⟨w.heap.size, 5, none⟩ = some (.slice T.kA T.keys.length T.kc) := (H2.out.2.1.alloc _).cell 5
    have t6 : (w2.alloc (.cells #[.int .i64 v.k, .int .i64 v.n, .string v.s, .int .i64 v.o, .int .i64 v.p, .slice none 0 0, .slice none 0 0] 29)).cell? ⟨w.heap.size, 6, none⟩ = some (.slice T.cA T.kids.length T.cc) := (H2.out.2.1.alloc _).cell 6
    have p0 : (w2.alloc (.cells #[.int .i64 v.k, .int .i64 v.n, .string v.s, .int .i64 v.o, .int .i64 v.p, .slice none 0 0, .slice none 0 0] 29)).cell? ⟨w.heap.size + 1, 0, none⟩ = some (.int .i64 2) := (H2.out.2.2.1.alloc _).cell 0
    have p2 : w2.cell? ⟨w.heap.size + 1, 2, none⟩ = some (.int .i64 v.k) := H2.out.2.2.1.cell 2
    have p3 : w2.cell? ⟨w.heap.size + 1, 3, none⟩ = some (.int .i64 v.n) := H2.out.2.2.1.cell 3
    have p4 : w2.cell? ⟨w.heap.size + 1, 4, none⟩ = some (.string v.s) := H2.out.2.2.1.cell 4
    have p5 : w2.cell? ⟨w.heap.size + 1, 5, none⟩ = some (.int .i64 v.o) := H2.out.2.2.1.cell 5
    have p6 : w2.cell? ⟨w.heap.size + 1, 6, none⟩ = some (.int .i64 v.p) := H2.out.2.2.1.cell 6
    have s0 : (w2.alloc (.cells #[.int .i64 v.k, .int .i64 v.n, .string v.s, .int .i64 v.o, .int .i64 v.p, .slice none 0 0, .slice none 0 0] 29)).cell? ⟨w.heap.size + 1 + 1 + 1, 0, none⟩ = some (.string s.key) := (H2.out.2.2.2.2.alloc _).cell 0
    have s1 : (w2.alloc (.cells #[.int .i64 v.k, .int .i64 v.n, .string v.s, .int .i64 v.o, .int .i64 v.p, .slice none 0 0, .slice none 0 0] 29)).cell? ⟨w.heap.size + 1 + 1 + 1, 1, none⟩ = some (.int .i64 s.at_) := (H2.out.2.2.2.2.alloc _).cell 1
    go_wp2_with fail
    have hb3 : Below w.heap.size w (w2.alloc (.cells #[.int .i64 v.k, .int .i64 v.n, .string v.s, .int .i64 v.o, .int .i64 v.p, .slice none 0 0, .slice none 0 0] 29)) := H2.out.1.alloc H2.out.1.size _
    have hlt3 := H2.out.2.2.2.2.lt
    have hsz3 : w2.heap.size ≤ ((w2.alloc (.cells #[.int .i64 v.k, .int .i64 v.n, .string v.s, .int .i64 v.o, .int .i64 v.p, .slice none 0 0, .slice none 0 0] 29))).heap.size := Nat.le_trans (Nat.le_refl _) (by simp)
    have hSS : ∀ b, (S b ∨ (w.heap.size ≤ b ∧ b < w.heap.size + 4)) → b < ((w2.alloc (.cells #[.int .i64 v.k, .int .i64 v.n, .string v.s, .int .i64 v.o, .int .i64 v.p, .slice none 0 0, .slice none 0 0] 29))).heap.size := by
      intro b hb
      rcases hb with hb | hb
      · have := HL.out.1 b hb; have := hb3.size; omega
      · omega
    have hSL : ∀ b, b < w.heap.size → (S b ∨ (w.heap.size ≤ b ∧ b < w.heap.size + 4)) → S b := by
      intro b hb hs
      rcases hs with hs | hs
      · exact hs
      · omega
    have hput := rput_del T (PT.bare v) i ⟨#[]⟩ (fun b => S b ∨ (w.heap.size ≤ b ∧ b < w.heap.size + 4)) (w2.alloc (.cells #[.int .i64 v.k, .int .i64 v.n, .string v.s, .int .i64 v.o, .int .i64 v.p, .slice none 0 0, .slice none 0 0] 29)) hSS (HL.out.2.below hb3 hSL) (fun w' ho => PT.bare_in _ HH.out.2.2.2.2.1) HH.out.2.1 (PT.bare_caps v) HH.out.2.2.2.1 HI.out.2 HH.out.2.2.2.2.2.1 (by decide)
    rw [PT.value_eq] at hput
    clear t0 t1 t2 t3 t4 t5 t6 p0 p2 p3 p4 p5 p6 s0 s1
    refine hput.mono ?_
    rintro e w4 ⟨R, rfl, hR1, hR2, hR3, hb4⟩
    have hZ4 : Blk w4 (w.heap.size + 1 + 1) 29 #[.int .i64 0, .int .i64 0, .string ⟨#[]⟩, .int .i64 0, .int .i64 0, .slice none 0 0, .slice none 0 0] := (H2.out.2.2.2.1.alloc _).below hb4 (H2.out.2.2.2.1.alloc _).lt
    rw [PT.value_eq]
    have z0 : w4.cell? ⟨w.heap.size + 1 + 1, 0, none⟩ = some (.int .i64 0) := hZ4.cell 0
    have z1 : w4.cell? ⟨w.heap.size + 1 + 1, 1, none⟩ = some (.int .i64 0) := hZ4.cell 1
    have z2 : w4.cell? ⟨w.heap.size + 1 + 1, 2, none⟩ = some (.string ⟨#[]⟩) := hZ4.cell 2
    have z3 : w4.cell? ⟨w.heap.size + 1 + 1, 3, none⟩ = some (.int .i64 0) := hZ4.cell 3
    have z4 : w4.cell? ⟨w.heap.size + 1 + 1, 4, none⟩ = some (.int .i64 0) := hZ4.cell 4
    have z5 : w4.cell? ⟨w.heap.size + 1 + 1, 5, none⟩ = some (.slice none 0 0) := hZ4.cell 5
    have z6 : w4.cell? ⟨w.heap.size + 1 + 1, 6, none⟩ = some (.slice none 0 0) := hZ4.cell 6
    have zz := hZ4.frozen
    have HR4 := Lib.hid (And.intro hR1 (And.intro hR2 (And.intro hR3 (And.intro hb4 (And.intro hZ4 hb3)))))
    clear hR1 hR2 hR3 hb4 hZ4 hput hb3
    go_wp2_with fail
    clear z0 z1 z2 z3 z4 z5 z6
    refine bodyPost_ret (results_row_tmp Tryd.results20 _ _ (w.heap.size + 1 + 1) _ _ _ rfl (blk7 _ _ _ _ _ _ _ HR4.out.2.2.2.2.1) Tryd.underlying29 rfl (by kernel_rfl)) rfl ?_
    have hbw : Below w.heap.size w w4 := HR4.out.2.2.2.2.2.trans (HR4.out.2.2.2.1.mono HR4.out.2.2.2.2.2.size)
    have ho := only7 w4 (w.heap.size + 1 + 1) (.int .i64 R.val.k) (.int .i64 R.val.n) (.string R.val.s) (.int .i64 R.val.o) (.int .i64 R.val.p) (.slice R.kA R.keys.length R.kc) (.slice R.cA R.kids.length R.cc) 0 1 2 3 4 5 6
    refine ⟨hbw.trans (ho.below hbw.size (fun q hq e => by omega)), ?_⟩
    rw [show JT.pat 2 (JT.leaf v) T.tree [s] = some (.node T.val (if T.val.k = 5 then delAt T.keys i else T.keys) (delAt (T.kids.map PT.tree) i)) from by simp only [JT.pat]; unfold JT.pat1; rw [if_neg (by decide), if_pos rfl, HI.out.1, PT.tree_val, PT.tree_keys, PT.tree_kids]; simp only; rw [del_keys HI.out.1]]
    exact ⟨R, by rw [PT.value_eq]; rfl, HR4.out.1, HR4.out.2.1.only ho (fun b _ e => .inl (.inr ⟨by omega, by omega⟩)) (fun b _ hb => .inl (.inl hb)), HR4.out.2.2.1⟩
  | none =>
    rw [ridx_not hidx]
    have HN := Lib.hid (show JT.pat 2 (JT.leaf v) T.tree [s] = none from by
      simp only [JT.pat]
      unfold JT.pat1
      rw [if_neg (by decide), if_pos rfl, hidx])
    clear hidx
    have t0 : (w2.alloc (.cells #[.int .i64 v.k, .int .i64 v.n, .string v.s, .int .i64 v.o, .int .i64 v.p, .slice none 0 0, .slice none 0 0] 29)).cell? ⟨w.heap.size, 0, none⟩ = some (.int .i64 T.val.k) := (H2.out.2.1.alloc _).cell 0
    have t1 : (w2.alloc (.cells #[.int .i64 v.k, .int .i64 v.n, .string v.s, .int .i64 v.o, .int .i64 v.p, .slice none 0 0, .slice none 0 0] 29)).cell? ⟨w.heap.size, 1, none⟩ = some (.int .i64 T.val.n) := (H2.out.2.1.alloc _).cell 1
    have t2 : (w2.alloc (.cells #[.int .i64 v.k, .int .i64 v.n, .string v.s, .int .i64 v.o, .int .i64 v.p, .slice none 0 0, .slice none 0 0] 29)).cell? ⟨w.heap.size, 2, none⟩ = some (.string T.val.s) := (H2.out.2.1.alloc _).cell 2
    have t3 : (w2.alloc (.cells #[.int .i64 v.k, .int .i64 v.n, .string v.s, .int .i64 v.o, .int .i64 v.p, .slice none 0 0, .slice none 0 0] 29)).cell? ⟨w.heap.size, 3, none⟩ = some (.int .i64 T.val.o) := (H2.out.2.1.alloc _).cell 3
    have t4 : (w2.alloc (.cells #[.int .i64 v.k, .int .i64 v.n, .string v.s, .int .i64 v.o, .int .i64 v.p, .slice none 0 0, .slice none 0 0] 29)).cell? ⟨w.heap.size, 4, none⟩ = some (.int .i64 T.val.p) := (H2.out.2.1.alloc _).cell 4
    have t5 : (w2.alloc (.cells #[.int .i64 v.k, .int .i64 v.n, .string v.s, .int .i64 v.o, .int .i64 v.p, .slice none 0 0, .slice none 0 0] 29)).cell? ⟨w.heap.size, 5, none⟩ = some (.slice T.kA T.keys.length T.kc) := (H2.out.2.1.alloc _).cell 5
    have t6 : (w2.alloc (.cells #[.int .i64 v.k, .int .i64 v.n, .string v.s, .int .i64 v.o, .int .i64 v.p, .slice none 0 0, .slice none 0 0] 29)).cell? ⟨w.heap.size, 6, none⟩ = some (.slice T.cA T.kids.length T.cc) := (H2.out.2.1.alloc _).cell 6
    have p0 : (w2.alloc (.cells #[.int .i64 v.k, .int .i64 v.n, .string v.s, .int .i64 v.o, .int .i64 v.p, .slice none 0 0, .slice none 0 0] 29)).cell? ⟨w.heap.size + 1, 0, none⟩ = some (.int .i64 2) := (H2.out.2.2.1.alloc _).cell 0
    have p2 : w2.cell? ⟨w.heap.size + 1, 2, none⟩ = some (.int .i64 v.k) := H2.out.2.2.1.cell 2
    have p3 : w2.cell? ⟨w.heap.size + 1, 3, none⟩ = some (.int .i64 v.n) := H2.out.2.2.1.cell 3
    have p4 : w2.cell? ⟨w.heap.size + 1, 4, none⟩ = some (.string v.s) := H2.out.2.2.1.cell 4
    have p5 : w2.cell? ⟨w.heap.size + 1, 5, none⟩ = some (.int .i64 v.o) := H2.out.2.2.1.cell 5
    have p6 : w2.cell? ⟨w.heap.size + 1, 6, none⟩ = some (.int .i64 v.p) := H2.out.2.2.1.cell 6
    have s0 : (w2.alloc (.cells #[.int .i64 v.k, .int .i64 v.n, .string v.s, .int .i64 v.o, .int .i64 v.p, .slice none 0 0, .slice none 0 0] 29)).cell? ⟨w.heap.size + 1 + 1 + 1, 0, none⟩ = some (.string s.key) := (H2.out.2.2.2.2.alloc _).cell 0
    have s1 : (w2.alloc (.cells #[.int .i64 v.k, .int .i64 v.n, .string v.s, .int .i64 v.o, .int .i64 v.p, .slice none 0 0, .slice none 0 0] 29)).cell? ⟨w.heap.size + 1 + 1 + 1, 1, none⟩ = some (.int .i64 s.at_) := (H2.out.2.2.2.2.alloc _).cell 1
    have hZ3 := H2.out.2.2.2.1.alloc (.cells #[.int .i64 v.k, .int .i64 v.n, .string v.s, .int .i64 v.o, .int .i64 v.p, .slice none 0 0, .slice none 0 0] 29)
    have z0 : (w2.alloc (.cells #[.int .i64 v.k, .int .i64 v.n, .string v.s, .int .i64 v.o, .int .i64 v.p, .slice none 0 0, .slice none 0 0] 29)).cell? ⟨w.heap.size + 1 + 1, 0, none⟩ = some (.int .i64 0) := hZ3.cell 0
    have z1 : (w2.alloc (.cells #[.int .i64 v.k, .int .i64 v.n, .string v.s, .int .i64 v.o, .int .i64 v.p, .slice none 0 0, .slice none 0 0] 29)).cell? ⟨w.heap.size + 1 + 1, 1, none⟩ = some (.int .i64 0) := hZ3.cell 1
    have z2 : (w2.alloc (.cells #[.int .i64 v.k, .int .i64 v.n, .string v.s, .int .i64 v.o, .int .i64 v.p, .slice none 0 0, .slice none 0 0] 29)).cell? ⟨w.heap.size + 1 + 1, 2, none⟩ = some (.string ⟨#[]⟩) := hZ3.cell 2
    have z3 : (w2.alloc (.cells #[.int .i64 v.k, .int .i64 v.n, .string v.s, .int .i64 v.o, .int .i64 v.p, .slice none 0 0, .slice none 0 0] 29)).cell? ⟨w.heap.size + 1 + 1, 3, none⟩ = some (.int .i64 0) := hZ3.cell 3
    have z4 : (w2.alloc (.cells #[.int .i64 v.k, .int .i64 v.n, .string v.s, .int .i64 v.o, .int .i64 v.p, .slice none 0 0, .slice none 0 0] 29)).cell? ⟨w.heap.size + 1 + 1, 4, none⟩ = some (.int .i64 0) := hZ3.cell 4
    have z5 : (w2.alloc (.cells #[.int .i64 v.k, .int .i64 v.n, .string v.s, .int .i64 v.o, .int .i64 v.p, .slice none 0 0, .slice none 0 0] 29)).cell? ⟨w.heap.size + 1 + 1, 5, none⟩ = some (.slice none 0 0) := hZ3.cell 5
    have z6 : (w2.alloc (.cells #[.int .i64 v.k, .int .i64 v.n, .string v.s, .int .i64 v.o, .int .i64 v.p, .slice none 0 0, .slice none 0 0] 29)).cell? ⟨w.heap.size + 1 + 1, 6, none⟩ = some (.slice none 0 0) := hZ3.cell 6
    have zz := hZ3.frozen
    have HZ := Lib.hid hZ3
    clear hZ3
    go_wp2_with fail
    clear z0 z1 z2 z3 z4 z5 z6 t0 t1 t2 t3 t4 t5 t6 p0 p2 p3 p4 p5 p6 s0 s1
    refine bodyPost_ret (results_row_tmp Tryd.results20 _ _ (w.heap.size + 1 + 1) _ _ _ rfl (blk7 _ _ _ _ _ _ _ HZ.out) Tryd.underlying29 rfl (by kernel_rfl)) rfl ?_
    have hb3 : Below w.heap.size w (w2.alloc (.cells #[.int .i64 v.k, .int .i64 v.n, .string v.s, .int .i64 v.o, .int .i64 v.p, .slice none 0 0, .slice none 0 0] 29)) := H2.out.1.alloc H2.out.1.size _
    refine ⟨hb3.trans ((only7 (w2.alloc (.cells #[.int .i64 v.k, .int .i64 v.n, .string v.s, .int .i64 v.o, .int .i64 v.p, .slice none 0 0, .slice none 0 0] 29)) (w.heap.size + 1 + 1) _ _ _ _ _ _ _ _ _ _ _ _ _ _).below hb3.size (fun q hq e => by omega)), ?_⟩
    rw [HN.out, PT.value_eq]
    first | (rw [show T.val.k = 5 from by assumption]; rfl) | rfl
end Go.Proofs.YtbfmdpgghknccaaDoor
namespace Go.Proofs.YtbfmdpgghknccaaDoor
open Go.RowKit
set_option linter.unusedVariables false
set_option linter.unusedSimpArgs false

set_option maxRecDepth 100000 in
set_option maxHeartbeats 1000000 in
theorem rpat_ins (v : JV) (B : Option Addr) (n c : Nat) (T : PT) (A : Option Addr) (c' : Nat) (s : St) (S : Nat → Prop) (w : World) (hS : ∀ b, S b → b < w.heap.size) (hL : Lies S w T) (hTc : T.Caps) (hA : SlAt w A (stCells [s])) (hf : T.tree.formed = true) (hv : v.Fit) (hn : T.kids.length ≤ 1000) (hs : s.key.size ≤ maxLen) :
    Calls Tryd.prog 20 #[T.value, .agg #[.int .i64 3, .slice B n c, .int .i64 v.k, .int .i64 v.n, .string v.s, .int .i64 v.o, .int .i64 v.p], .slice A 1 c'] w (RPatQ S w T (JT.pat 3 (JT.leaf v) T.tree [s])) := by
  have hT := hL.here
  have HL := Lib.hid (And.intro hS hL)
  clear hS hL
  obtain ⟨bp, op, rfl, g0, g1⟩ := (((hA.alloc (.cells #[.int .i64 T.val.k, .int .i64 T.val.n, .string T.val.s, .int .i64 T.val.o, .int .i64 T.val.p, .slice T.kA T.keys.length T.kc, .slice T.cA T.kids.length T.cc] 29)).alloc (.cells #[.int .i64 3, .slice B n c, .int .i64 v.k, .int .i64 v.n, .string v.s, .int .i64 v.o, .int .i64 v.p] 67)).alloc (.cells #[.int .i64 0, .int .i64 0, .string ⟨#[]⟩, .int .i64 0, .int .i64 0, .slice none 0 0, .slice none 0 0] 29)).step (l := [s]) (k := 0) rfl
  simp only [Nat.zero_mul, Nat.add_zero] at g0 g1
  have HI := Lib.hid (fun w1 (h1 : Below w.heap.size w w1) => by
    have := rindex_any T s.key s.at_ w1 (hT.below h1) hf
    rw [PT.value_eq] at this
    exact this)
  have HH := Lib.hid (And.intro hT (And.intro hTc (And.intro hA (And.intro hf (And.intro hv (And.intro hn hs))))))
  clear hT hTc hA hf hv hn hs
  rw [PT.value_eq]
  go_enter Tryd.func20, Tryd.ntmps20
  go_wp2_with fail
  obtain ⟨hb4, hBT, hBP, hBZ, hBS⟩ := boxes4 w #[.int .i64 T.val.k, .int .i64 T.val.n, .string T.val.s, .int .i64 T.val.o, .int .i64 T.val.p, .slice T.kA T.keys.length T.kc, .slice T.cA T.kids.length T.cc] #[.int .i64 3, .slice B n c, .int .i64 v.k, .int .i64 v.n, .string v.s, .int .i64 v.o, .int .i64 v.p] #[.int .i64 0, .int .i64 0, .string ⟨#[]⟩, .int .i64 0, .int .i64 0, .slice none 0 0, .slice none 0 0] #[.string s.key, .int .i64 s.at_] 29 67 29 69
  refine (HI.out _ hb4).mono ?_
  rintro e w2 ⟨rfl, hb2⟩
  have H2 := Lib.hid (And.intro (hb4.trans (hb2.mono hb4.size)) (And.intro (hBT.below hb2 hBT.lt) (And.intro (hBP.below hb2 hBP.lt) (And.intro (hBZ.below hb2 hBZ.lt) (hBS.below hb2 hBS.lt)))))
  clear hb4 hBT hBP hBZ hBS hb2 g0 g1 HI
  have hidx0 : ∃ r, ridxN T.tree ⟨s.key, s.at_⟩ = r := ⟨_, rfl⟩
  obtain ⟨r, hr⟩ := hidx0
  rw [hr]
  clear hr
  have t0 : (w2.alloc (.cells #[.int .i64 v.k, .int .i64 v.n, .string v.s, .int .i64 v.o, .int .i64 v.p, .slice none 0 0, .slice none 0 0] 29)).cell? ⟨w.heap.size, 0, none⟩ = some (.int .i64 T.val.k) := (H2.out.2.1.alloc _).cell 0
  have t1 : (w2.alloc (.cells #[.int .i64 v.k, .int .i64 v.n, .string v.s, .int .i64 v.o, .int .i64 v.p, .slice none 0 0, .slice none 0 0] 29)).cell? ⟨w.heap.size, 1, none⟩ = some (.int .i64 T.val.n) := (H2.out.2.1.alloc _).cell 1
  have t2 : (w2.alloc (.cells #[.int .i64 v.k, .int .i64 v.n, .string v.s, .int .i64 v.o, .int .i64 v.p, .slice none 0 0, .slice none 0 0] 29)).cell? ⟨w.heap.size, 2, none⟩ = some (.string T.val.s) := (H2.out.2.1.alloc _).cell 2
  have t3 : (w2.alloc (.cells #[.int .i64 v.k, .int .i64 v.n, .string v.s, .int .i64 v.o, .int .i64 v.p, .slice none 0 0, .slice none 0 0] 29)).cell? ⟨w.heap.size, 3, none⟩ = some (.int .i64 T.val.o) := (H2.out.2.1.alloc _).cell 3
  have t4 : (w2.alloc (.cells #[.int .i64 v.k, .int .i64 v.n, .string v.s, .int .i64 v.o, .int .i64 v.p, .slice none 0 0, .slice none 0 0] 29)).cell? ⟨w.heap.size, 4, none⟩ = some (.int .i64 T.val.p) := (H2.out.2.1.alloc _).cell 4
  have t5 : (w2.alloc (.cells #[.int .i64 v.k, .int .i64 v.n, .string v.s, .int .i64 v.o, .int .i64 v.p, .slice none 0 0, .slice none 0 0] 29)).cell? ⟨w.heap.size, 5, none⟩ = some (.slice T.kA T.keys.length T.kc) := (H2.out.2.1.alloc _).cell 5
  have t6 : (w2.alloc (.cells #[.int .i64 v.k, .int .i64 v.n, .string v.s, .int .i64 v.o, .int .i64 v.p, .slice none 0 0, .slice none 0 0] 29)).cell? ⟨w.heap.size, 6, none⟩ = some (.slice T.cA T.kids.length T.cc) := (H2.out.2.1.alloc _).cell 6
  have p0 : (w2.alloc (.cells #[.int .i64 v.k, .int .i64 v.n, .string v.s, .int .i64 v.o, .int .i64 v.p, .slice none 0 0, .slice none 0 0] 29)).cell? ⟨w.heap.size + 1, 0, none⟩ = some (.int .i64 3) := (H2.out.2.2.1.alloc _).cell 0
  have p2 : w2.cell? ⟨w.heap.size + 1, 2, none⟩ = some (.int .i64 v.k) := H2.out.2.2.1.cell 2
  have p3 : w2.cell? ⟨w.heap.size + 1, 3, none⟩ = some (.int .i64 v.n) := H2.out.2.2.1.cell 3
  have p4 : w2.cell? ⟨w.heap.size + 1, 4, none⟩ = some (.string v.s) := H2.out.2.2.1.cell 4
  have p5 : w2.cell? ⟨w.heap.size + 1, 5, none⟩ = some (.int .i64 v.o) := H2.out.2.2.1.cell 5
  have p6 : w2.cell? ⟨w.heap.size + 1, 6, none⟩ = some (.int .i64 v.p) := H2.out.2.2.1.cell 6
  have s0 : (w2.alloc (.cells #[.int .i64 v.k, .int .i64 v.n, .string v.s, .int .i64 v.o, .int .i64 v.p, .slice none 0 0, .slice none 0 0] 29)).cell? ⟨w.heap.size + 1 + 1 + 1, 0, none⟩ = some (.string s.key) := (H2.out.2.2.2.2.alloc _).cell 0
  have s1 : (w2.alloc (.cells #[.int .i64 v.k, .int .i64 v.n, .string v.s, .int .i64 v.o, .int .i64 v.p, .slice none 0 0, .slice none 0 0] 29)).cell? ⟨w.heap.size + 1 + 1 + 1, 1, none⟩ = some (.int .i64 s.at_) := (H2.out.2.2.2.2.alloc _).cell 1
  cases hm : isListStep T.val s T.kids.length with
  | true =>
    have hm' := hm
    unfold isListStep at hm'
    simp at hm'
    have h6 : (T.val.k == 6) = true := by simp [hm'.1.1.1]
    have hke : (s.key.toList == []) = true := by simp [hm'.1.1.2]
    have ha0 : 0 ≤ s.at_ := hm'.1.2
    have ha1 : s.at_ ≤ (T.kids.length : Int) := hm'.2
    have hml : T.kids.length ≤ 9223372036854775807 := Nat.le_trans HH.out.2.2.2.2.2.1 (by decide)
    obtain ⟨i, hii⟩ : ∃ i : Nat, s.at_ = i := ⟨s.at_.toNat, by omega⟩
    have h5 : ¬ T.val.k = 5 := by rw [hm'.1.1.1]; decide
    have HI := Lib.hid (And.intro hm (And.intro hii (And.intro (show i ≤ T.kids.length by omega) h5)))
    clear hm' hm hii h5
    go_wp2_with fail
    have hb3 : Below w.heap.size w (w2.alloc (.cells #[.int .i64 v.k, .int .i64 v.n, .string v.s, .int .i64 v.o, .int .i64 v.p, .slice none 0 0, .slice none 0 0] 29)) := H2.out.1.alloc H2.out.1.size _
    have hlt3 := H2.out.2.2.2.2.lt
    have hsz3 : w2.heap.size ≤ ((w2.alloc (.cells #[.int .i64 v.k, .int .i64 v.n, .string v.s, .int .i64 v.o, .int .i64 v.p, .slice none 0 0, .slice none 0 0] 29))).heap.size := Nat.le_trans (Nat.le_refl _) (by simp)
    have hSS : ∀ b, (S b ∨ (w.heap.size ≤ b ∧ b < w.heap.size + 4)) → b < ((w2.alloc (.cells #[.int .i64 v.k, .int .i64 v.n, .string v.s, .int .i64 v.o, .int .i64 v.p, .slice none 0 0, .slice none 0 0] 29))).heap.size := by
      intro b hb
      rcases hb with hb | hb
      · have := HL.out.1 b hb; have := hb3.size; omega
      · omega
    have hSL : ∀ b, b < w.heap.size → (S b ∨ (w.heap.size ≤ b ∧ b < w.heap.size + 4)) → S b := by
      intro b hb hs
      rcases hs with hs | hs
      · exact hs
      · omega
    have hput := rput_ins T (PT.bare v) i ⟨#[]⟩ (fun b => S b ∨ (w.heap.size ≤ b ∧ b < w.heap.size + 4)) (w2.alloc (.cells #[.int .i64 v.k, .int .i64 v.n, .string v.s, .int .i64 v.o, .int .i64 v.p, .slice none 0 0, .slice none 0 0] 29)) hSS (HL.out.2.below hb3 hSL) (fun w' ho => PT.bare_in _ HH.out.2.2.2.2.1) HH.out.2.1 (PT.bare_caps v) HH.out.2.2.2.1 HI.out.2.2.1 HH.out.2.2.2.2.2.1 (by decide) HI.out.2.2.2
    rw [PT.value_eq] at hput
    rw [← HI.out.2.1] at hput
    clear t0 t1 t2 t3 t4 t5 t6 p0 p2 p3 p4 p5 p6 s0 s1
    refine hput.mono ?_
    rintro e w4 ⟨R, rfl, hR1, hR2, hR3, hb4⟩
    have hZ4 : Blk w4 (w.heap.size + 1 + 1) 29 #[.int .i64 0, .int .i64 0, .string ⟨#[]⟩, .int .i64 0, .int .i64 0, .slice none 0 0, .slice none 0 0] := (H2.out.2.2.2.1.alloc _).below hb4 (H2.out.2.2.2.1.alloc _).lt
    rw [PT.value_eq]
    have z0 : w4.cell? ⟨w.heap.size + 1 + 1, 0, none⟩ = some (.int .i64 0) := hZ4.cell 0
    have z1 : w4.cell? ⟨w.heap.size + 1 + 1, 1, none⟩ = some (.int .i64 0) := hZ4.cell 1
    have z2 : w4.cell? ⟨w.heap.size + 1 + 1, 2, none⟩ = some (.string ⟨#[]⟩) := hZ4.cell 2
    have z3 : w4.cell? ⟨w.heap.size + 1 + 1, 3, none⟩ = some (.int .i64 0) := hZ4.cell 3
    have z4 : w4.cell? ⟨w.heap.size + 1 + 1, 4, none⟩ = some (.int .i64 0) := hZ4.cell 4
    have z5 : w4.cell? ⟨w.heap.size + 1 + 1, 5, none⟩ = some (.slice none 0 0) := hZ4.cell 5
    have z6 : w4.cell? ⟨w.heap.size + 1 + 1, 6, none⟩ = some (.slice none 0 0) := hZ4.cell 6
    have zz := hZ4.frozen
    have HR4 := Lib.hid (And.intro hR1 (And.intro hR2 (And.intro hR3 (And.intro hb4 (And.intro hZ4 hb3)))))
    clear hR1 hR2 hR3 hb4 hZ4 hput hb3
    go_wp2_with fail
    clear z0 z1 z2 z3 z4 z5 z6
    refine bodyPost_ret (results_row_tmp Tryd.results20 _ _ (w.heap.size + 1 + 1) _ _ _ rfl (blk7 _ _ _ _ _ _ _ HR4.out.2.2.2.2.1) Tryd.underlying29 rfl (by kernel_rfl)) rfl ?_
    have hbw : Below w.heap.size w w4 := HR4.out.2.2.2.2.2.trans (HR4.out.2.2.2.1.mono HR4.out.2.2.2.2.2.size)
    have ho := only7 w4 (w.heap.size + 1 + 1) (.int .i64 R.val.k) (.int .i64 R.val.n) (.string R.val.s) (.int .i64 R.val.o) (.int .i64 R.val.p) (.slice R.kA R.keys.length R.kc) (.slice R.cA R.kids.length R.cc) 0 1 2 3 4 5 6
    refine ⟨hbw.trans (ho.below hbw.size (fun q hq e => by omega)), ?_⟩
    rw [show JT.pat 3 (JT.leaf v) T.tree [s] = some (.node T.val T.keys (insAt (T.kids.map PT.tree) i (PT.bare v).tree)) from by simp only [JT.pat]; unfold JT.pat1; rw [if_neg (by decide), if_neg (by decide), if_pos rfl, PT.tree_val, PT.tree_keys, PT.tree_kids, List.length_map, if_pos HI.out.1, HI.out.2.1, PT.bare_tree]; rfl]
    exact ⟨R, by rw [PT.value_eq]; rfl, HR4.out.1, HR4.out.2.1.only ho (fun b _ e => .inl (.inr ⟨by omega, by omega⟩)) (fun b _ hb => .inl (.inl hb)), HR4.out.2.2.1⟩
  | false =>
    have HN := Lib.hid (show JT.pat 3 (JT.leaf v) T.tree [s] = none from by
      simp only [JT.pat]
      unfold JT.pat1
      rw [if_neg (by decide), if_neg (by decide), if_pos rfl, PT.tree_val, PT.tree_kids, List.length_map, hm]
      rfl)
    have hml : T.kids.length ≤ 9223372036854775807 := Nat.le_trans HH.out.2.2.2.2.2.1 (by decide)
    have hcs : (T.val.k == 6) = false ∨ ((T.val.k == 6) = true ∧ (s.key.toList == []) = false) ∨ ((T.val.k == 6) = true ∧ (s.key.toList == []) = true ∧ ¬ 0 ≤ s.at_) ∨ ((T.val.k == 6) = true ∧ (s.key.toList == []) = true ∧ 0 ≤ s.at_ ∧ ¬ s.at_ ≤ (T.kids.length : Int)) := by
      by_cases h6 : T.val.k = 6
      · by_cases hk : s.key.toList = []
        · by_cases h0 : 0 ≤ s.at_
          · refine .inr (.inr (.inr ⟨by simp [h6], by simp [hk], h0, fun h1 => ?_⟩))
            unfold isListStep at hm
            simp [h6, hk, h0, h1] at hm
          · exact .inr (.inr (.inl ⟨by simp [h6], by simp [hk], h0⟩))
        · exact .inr (.inl ⟨by simp [h6], by simpa using hk⟩)
      · exact .inl (by simpa using h6)
    clear hm
    rcases hcs with h6 | ⟨h6, hke⟩ | ⟨h6, hke, ha0⟩ | ⟨h6, hke, ha0, ha1⟩
    all_goals
      have hZ3 := H2.out.2.2.2.1.alloc (.cells #[.int .i64 v.k, .int .i64 v.n, .string v.s, .int .i64 v.o, .int .i64 v.p, .slice none 0 0, .slice none 0 0] 29)
      have z0 : (w2.alloc (.cells #[.int .i64 v.k, .int .i64 v.n, .string v.s, .int .i64 v.o, .int .i64 v.p, .slice none 0 0, .slice none 0 0] 29)).cell? ⟨w.heap.size + 1 + 1, 0, none⟩ = some (.int .i64 0) := hZ3.cell 0
      have z1 : (w2.alloc (.cells #[.int .i64 v.k, .int .i64 v.n, .string v.s, .int .i64 v.o, .int .i64 v.p, .slice none 0 0, .slice none 0 0] 29)).cell? ⟨w.heap.size + 1 + 1, 1, none⟩ = some (.int .i64 0) := hZ3.cell 1
      have z2 : (w2.alloc (.cells #[.int .i64 v.k, .int .i64 v.n, .string v.s, .int .i64 v.o, .int .i64 v.p, .slice none 0 0, .slice none 0 0] 29)).cell? ⟨w.heap.size + 1 + 1, 2, none⟩ = some (.string ⟨#[]⟩) := hZ3.cell 2
      have z3 : (w2.alloc (.cells #[.int .i64 v.k, .int .i64 v.n, .string v.s, .int .i64 v.o, .int .i64 v.p, .slice none 0 0, .slice none 0 0] 29)).cell? ⟨w.heap.size + 1 + 1, 3, none⟩ = some (.int .i64 0) := hZ3.cell 3
      have z4 : (w2.alloc (.cells #[.int .i64 v.k, .int .i64 v.n, .string v.s, .int .i64 v.o, .int .i64 v.p, .slice none 0 0, .slice none 0 0] 29)).cell? ⟨w.heap.size + 1 + 1, 4, none⟩ = some (.int .i64 0) := hZ3.cell 4
      have z5 : (w2.alloc (.cells #[.int .i64 v.k, .int .i64 v.n, .string v.s, .int .i64 v.o, .int .i64 v.p, .slice none 0 0, .slice none 0 0] 29)).cell? ⟨w.heap.size + 1 + 1, 5, none⟩ = some (.slice none 0 0) := hZ3.cell 5
      have z6 : (w2.alloc (.cells #[.int .i64 v.k, .int .i64 v.n, .string v.s, .int .i64 v.o, .int .i64 v.p, .slice none 0 0, .slice none 0 0] 29)).cell? ⟨w.heap.size + 1 + 1, 6, none⟩ = some (.slice none 0 0) := hZ3.cell 6
      have zz := hZ3.frozen
      have HZ := Lib.hid hZ3
      clear hZ3
      go_wp2_with fail
      clear z0 z1 z2 z3 z4 z5 z6 t0 t1 t2 t3 t4 t5 t6 p0 p2 p3 p4 p5 p6 s0 s1
      refine bodyPost_ret (results_row_tmp Tryd.results20 _ _ (w.heap.size + 1 + 1) _ _ _ rfl (blk7 _ _ _ _ _ _ _ HZ.out) Tryd.underlying29 rfl (by kernel_rfl)) rfl ?_
      have hb3 : Below w.heap.size w (w2.alloc (.cells #[.int .i64 v.k, .int .i64 v.n, .string v.s, .int .i64 v.o, .int .i64 v.p, .slice none 0 0, .slice none 0 0] 29)) := H2.out.1.alloc H2.out.1.size _
      refine ⟨hb3.trans ((only7 (w2.alloc (.cells #[.int .i64 v.k, .int .i64 v.n, .string v.s, .int .i64 v.o, .int .i64 v.p, .slice none 0 0, .slice none 0 0] 29)) (w.heap.size + 1 + 1) _ _ _ _ _ _ _ _ _ _ _ _ _ _).below hb3.size (fun q hq e => by omega)), ?_⟩
      rw [HN.out, PT.value_eq]
      first | (rw [show T.val.k = 5 from by assumption]; rfl) | rfl
end Go.Proofs.YtbfmdpgghknccaaDoor
namespace Go.Proofs.YtbfmdpgghknccaaDoor
open Go.RowKit
set_option linter.unusedVariables false
set_option linter.unusedSimpArgs false

theorem SlAt.stDrop1 {w : World} {bp op : Nat} {s : St} {r : List St} (h : SlAt w (some ⟨bp, op, none⟩) (stCells (s :: r))) : SlAt w (some ⟨bp, op + 2, none⟩) (stCells r) := by
  have e : stCells (s :: r) = .string s.key :: .int .i64 s.at_ :: stCells r := rfl
  rw [e] at h
  rcases h with h | ⟨b, off, hA, hc⟩
  · cases h
  · injection hA with hA
    injection hA with e1 e2 _
    subst e1 e2
    refine .inr ⟨bp, op + 2, rfl, fun j u hu => ?_⟩
    have := hc (j + 2) u (by simpa using hu)
    rw [← this, show op + (j + 2) = op + 2 + j from by omega]

end Go.Proofs.YtbfmdpgghknccaaDoor
namespace Go.Proofs.YtbfmdpgghknccaaDoor
open Go.RowKit
set_option linter.unusedVariables false
set_option linter.unusedSimpArgs false

set_option maxRecDepth 100000 in
set_option maxHeartbeats 4000000 in
theorem rpat_more_z {kind : Int} {s2 : St} {r : List St} {m : Nat} (v : JV) (B : Option Addr) (n c : Nat) (T : PT) (A : Option Addr) (c' : Nat) (s : St) (S : Nat → Prop) (w : World) (hS : ∀ b, S b → b < w.heap.size) (hL : Lies S w T) (hTc : T.Caps) (hA : SlAt w A (stCells (s :: s2 :: r))) (hf : T.tree.formed = true) (hv : v.Fit) (hn : T.kids.length ≤ 1000) (hs : s.key.size ≤ maxLen) (hm : m = r.length + 2) (hmc : m ≤ c') (hml : m ≤ maxLen) (hidx : T.tree.idx s = none) :
    Calls Tryd.prog 20 #[T.value, .agg #[.int .i64 kind, .slice B n c, .int .i64 v.k, .int .i64 v.n, .string v.s, .int .i64 v.o, .int .i64 v.p], .slice A m c'] w (RPatQ S w T (JT.pat kind (JT.leaf v) T.tree (s :: s2 :: r))) := by
  have hT := hL.here
  have HL := Lib.hid (And.intro hS hL)
  clear hS hL
  obtain ⟨bp, op, rfl, g0, g1⟩ := (((hA.alloc (.cells #[.int .i64 T.val.k, .int .i64 T.val.n, .string T.val.s, .int .i64 T.val.o, .int .i64 T.val.p, .slice T.kA T.keys.length T.kc, .slice T.cA T.kids.length T.cc] 29)).alloc (.cells #[.int .i64 kind, .slice B n c, .int .i64 v.k, .int .i64 v.n, .string v.s, .int .i64 v.o, .int .i64 v.p] 67)).alloc (.cells #[.int .i64 0, .int .i64 0, .string ⟨#[]⟩, .int .i64 0, .int .i64 0, .slice none 0 0, .slice none 0 0] 29)).step (l := (s :: s2 :: r)) (k := 0) rfl
  simp only [Nat.zero_mul, Nat.add_zero] at g0 g1
  have HI := Lib.hid (fun w1 (h1 : Below w.heap.size w w1) => by
    have := rindex_any T s.key s.at_ w1 (hT.below h1) hf
    rw [PT.value_eq] at this
    exact this)
  have HH := Lib.hid (And.intro hT (And.intro hTc (And.intro hA (And.intro hf (And.intro hv (And.intro hn hs))))))
  clear hT hTc hA hf hv hn hs
  rw [PT.value_eq]
  have hgt : (1 : Int) < (m : Int) := by omega
  have hmi : (m : Int) ≤ (c' : Int) := by omega
  have hm9 : m ≤ 9223372036854775807 := Nat.le_trans hml (by decide)
  have HM := Lib.hid (And.intro hm hmc)
  clear hm hmc hml
  go_enter Tryd.func20, Tryd.ntmps20
  go_wp2_with fail
  obtain ⟨hb4, hBT, hBP, hBZ, hBS⟩ := boxes4 w #[.int .i64 T.val.k, .int .i64 T.val.n, .string T.val.s, .int .i64 T.val.o, .int .i64 T.val.p, .slice T.kA T.keys.length T.kc, .slice T.cA T.kids.length T.cc] #[.int .i64 kind, .slice B n c, .int .i64 v.k, .int .i64 v.n, .string v.s, .int .i64 v.o, .int .i64 v.p] #[.int .i64 0, .int .i64 0, .string ⟨#[]⟩, .int .i64 0, .int .i64 0, .slice none 0 0, .slice none 0 0] #[.string s.key, .int .i64 s.at_] 29 67 29 69
  refine (HI.out _ hb4).mono ?_
  rintro e w2 ⟨rfl, hb2⟩
  have H2 := Lib.hid (And.intro (hb4.trans (hb2.mono hb4.size)) (And.intro (hBT.below hb2 hBT.lt) (And.intro (hBP.below hb2 hBP.lt) (And.intro (hBZ.below hb2 hBZ.lt) (hBS.below hb2 hBS.lt)))))
  clear hb4 hBT hBP hBZ hBS hb2 g0 g1 HI
  rw [ridx_not hidx]
  have HN := Lib.hid (show JT.pat kind (JT.leaf v) T.tree (s :: s2 :: r) = none from by
    simp only [JT.pat]
    rw [hidx])
  clear hidx
  have t0 : w2.cell? ⟨w.heap.size, 0, none⟩ = some (.int .i64 T.val.k) := H2.out.2.1.cell 0
  have t1 : w2.cell? ⟨w.heap.size, 1, none⟩ = some (.int .i64 T.val.n) := H2.out.2.1.cell 1
  have t2 : w2.cell? ⟨w.heap.size, 2, none⟩ = some (.string T.val.s) := H2.out.2.1.cell 2
  have t3 : w2.cell? ⟨w.heap.size, 3, none⟩ = some (.int .i64 T.val.o) := H2.out.2.1.cell 3
  have t4 : w2.cell? ⟨w.heap.size, 4, none⟩ = some (.int .i64 T.val.p) := H2.out.2.1.cell 4
  have t5 : w2.cell? ⟨w.heap.size, 5, none⟩ = some (.slice T.kA T.keys.length T.kc) := H2.out.2.1.cell 5
  have t6 : w2.cell? ⟨w.heap.size, 6, none⟩ = some (.slice T.cA T.kids.length T.cc) := H2.out.2.1.cell 6
  have hZ3 := H2.out.2.2.2.1
  have z0 : w2.cell? ⟨w.heap.size + 1 + 1, 0, none⟩ = some (.int .i64 0) := hZ3.cell 0
  have z1 : w2.cell? ⟨w.heap.size + 1 + 1, 1, none⟩ = some (.int .i64 0) := hZ3.cell 1
  have z2 : w2.cell? ⟨w.heap.size + 1 + 1, 2, none⟩ = some (.string ⟨#[]⟩) := hZ3.cell 2
  have z3 : w2.cell? ⟨w.heap.size + 1 + 1, 3, none⟩ = some (.int .i64 0) := hZ3.cell 3
  have z4 : w2.cell? ⟨w.heap.size + 1 + 1, 4, none⟩ = some (.int .i64 0) := hZ3.cell 4
  have z5 : w2.cell? ⟨w.heap.size + 1 + 1, 5, none⟩ = some (.slice none 0 0) := hZ3.cell 5
  have z6 : w2.cell? ⟨w.heap.size + 1 + 1, 6, none⟩ = some (.slice none 0 0) := hZ3.cell 6
  have zz := hZ3.frozen
  have HZ := Lib.hid hZ3
  clear hZ3
  go_wp2_with fail
  clear z0 z1 z2 z3 z4 z5 z6 t0 t1 t2 t3 t4 t5 t6
  refine bodyPost_ret (results_row_tmp Tryd.results20 _ _ (w.heap.size + 1 + 1) _ _ _ rfl (blk7 _ _ _ _ _ _ _ HZ.out) Tryd.underlying29 rfl (by kernel_rfl)) rfl ?_
  have hb3 : Below w.heap.size w w2 := H2.out.1
  refine ⟨hb3.trans ((only7 w2 (w.heap.size + 1 + 1) _ _ _ _ _ _ _ _ _ _ _ _ _ _).below hb3.size (fun q hq e => by omega)), ?_⟩
  rw [HN.out, PT.value_eq]
  first | (rw [show T.val.k = 5 from by assumption]; rfl) | rfl
end Go.Proofs.YtbfmdpgghknccaaDoor
namespace Go.Proofs.YtbfmdpgghknccaaDoor
open Go.RowKit
set_option linter.unusedVariables false
set_option linter.unusedSimpArgs false

set_option maxRecDepth 100000 in
set_option maxHeartbeats 4000000 in
theorem rpat_more_y {kind : Int} {s2 : St} {r : List St} {m : Nat} (v : JV) (B : Option Addr) (n c : Nat) (T : PT) (A : Option Addr) (c' : Nat) (s : St) (S : Nat → Prop) (w : World) (hS : ∀ b, S b → b < w.heap.size) (hL : Lies S w T) (hTc : T.Caps) (hA : SlAt w A (stCells (s :: s2 :: r))) (hf : T.tree.formed = true) (hv : v.Fit) (hn : T.kids.length ≤ 1000) (hs : s.key.size ≤ maxLen) (hm : m = r.length + 2) (hmc : m ≤ c') (hml : m ≤ maxLen) {i : Nat} (hidx : T.tree.idx s = some i) (HK : ∀ (K : PT), T.kids[i]? = some K → ∀ (A2 : Option Addr) (c2 : Nat) (S1 : Nat → Prop) (w1 : World), (∀ b, S1 b → b < w1.heap.size) → Lies S1 w1 K → SlAt w1 A2 (stCells (s2 :: r)) → (s2 :: r).length ≤ c2 → Calls Tryd.prog 20 #[K.value, .agg #[.int .i64 kind, .slice B n c, .int .i64 v.k, .int .i64 v.n, .string v.s, .int .i64 v.o, .int .i64 v.p], .slice A2 (s2 :: r).length c2] w1 (RPatQ S1 w1 K none)) (hlaw : JT.pat kind (JT.leaf v) T.tree (s :: s2 :: r) = none) :
    Calls Tryd.prog 20 #[T.value, .agg #[.int .i64 kind, .slice B n c, .int .i64 v.k, .int .i64 v.n, .string v.s, .int .i64 v.o, .int .i64 v.p], .slice A m c'] w (RPatQ S w T (JT.pat kind (JT.leaf v) T.tree (s :: s2 :: r))) := by
  have hT := hL.here
  have HL := Lib.hid (And.intro hS hL)
  clear hS hL
  obtain ⟨bp, op, rfl, g0, g1⟩ := (((hA.alloc (.cells #[.int .i64 T.val.k, .int .i64 T.val.n, .string T.val.s, .int .i64 T.val.o, .int .i64 T.val.p, .slice T.kA T.keys.length T.kc, .slice T.cA T.kids.length T.cc] 29)).alloc (.cells #[.int .i64 kind, .slice B n c, .int .i64 v.k, .int .i64 v.n, .string v.s, .int .i64 v.o, .int .i64 v.p] 67)).alloc (.cells #[.int .i64 0, .int .i64 0, .string ⟨#[]⟩, .int .i64 0, .int .i64 0, .slice none 0 0, .slice none 0 0] 29)).step (l := (s :: s2 :: r)) (k := 0) rfl
  simp only [Nat.zero_mul, Nat.add_zero] at g0 g1
  have HI := Lib.hid (fun w1 (h1 : Below w.heap.size w w1) => by
    have := rindex_any T s.key s.at_ w1 (hT.below h1) hf
    rw [PT.value_eq] at this
    exact this)
  have HH := Lib.hid (And.intro hT (And.intro hTc (And.intro hA (And.intro hf (And.intro hv (And.intro hn hs))))))
  clear hT hTc hA hf hv hn hs
  rw [PT.value_eq]
  have hgt : (1 : Int) < (m : Int) := by omega
  have hmi : (m : Int) ≤ (c' : Int) := by omega
  have hm9 : m ≤ 9223372036854775807 := Nat.le_trans hml (by decide)
  have HM := Lib.hid (And.intro hm (And.intro hmc HK))
  clear hm hmc hml HK
  go_enter Tryd.func20, Tryd.ntmps20
  go_wp2_with fail
  obtain ⟨hb4, hBT, hBP, hBZ, hBS⟩ := boxes4 w #[.int .i64 T.val.k, .int .i64 T.val.n, .string T.val.s, .int .i64 T.val.o, .int .i64 T.val.p, .slice T.kA T.keys.length T.kc, .slice T.cA T.kids.length T.cc] #[.int .i64 kind, .slice B n c, .int .i64 v.k, .int .i64 v.n, .string v.s, .int .i64 v.o, .int .i64 v.p] #[.int .i64 0, .int .i64 0, .string ⟨#[]⟩, .int .i64 0, .int .i64 0, .slice none 0 0, .slice none 0 0] #[.string s.key, .int .i64 s.at_] 29 67 29 69
  refine (HI.out _ hb4).mono ?_
  rintro e w2 ⟨rfl, hb2⟩
  have H2 := Lib.hid (And.intro (hb4.trans (hb2.mono hb4.size)) (And.intro (hBT.below hb2 hBT.lt) (And.intro (hBP.below hb2 hBP.lt) (And.intro (hBZ.below hb2 hBZ.lt) (hBS.below hb2 hBS.lt)))))
  clear hb4 hBT hBP hBZ hBS hb2 g0 g1 HI
  have HN := Lib.hid hlaw
  clear hlaw
  rw [ridx_of hidx]
  have hil := JT.idx_lt hidx (JT.top_of HH.out.2.2.2.1)
  rw [PT.tree_kids, List.length_map] at hil
  obtain ⟨K, hK⟩ : ∃ K, T.kids[i]? = some K := ⟨_, List.getElem?_eq_getElem hil⟩
  have hln : (s2 :: r).length = m - 1 := by have := HM.out.1; simp only [List.length_cons]; omega
  have HI := Lib.hid (And.intro hidx (And.intro hil hK))
  have t0 : w2.cell? ⟨w.heap.size, 0, none⟩ = some (.int .i64 T.val.k) := H2.out.2.1.cell 0
  have t6 : w2.cell? ⟨w.heap.size, 6, none⟩ = some (.slice T.cA T.kids.length T.cc) := H2.out.2.1.cell 6
  have p0 : w2.cell? ⟨w.heap.size + 1, 0, none⟩ = some (.int .i64 kind) := H2.out.2.2.1.cell 0
  have p1 : w2.cell? ⟨w.heap.size + 1, 1, none⟩ = some (.slice B n c) := H2.out.2.2.1.cell 1
  have p2 : w2.cell? ⟨w.heap.size + 1, 2, none⟩ = some (.int .i64 v.k) := H2.out.2.2.1.cell 2
  have p3 : w2.cell? ⟨w.heap.size + 1, 3, none⟩ = some (.int .i64 v.n) := H2.out.2.2.1.cell 3
  have p4 : w2.cell? ⟨w.heap.size + 1, 4, none⟩ = some (.string v.s) := H2.out.2.2.1.cell 4
  have p5 : w2.cell? ⟨w.heap.size + 1, 5, none⟩ = some (.int .i64 v.o) := H2.out.2.2.1.cell 5
  have p6 : w2.cell? ⟨w.heap.size + 1, 6, none⟩ = some (.int .i64 v.p) := H2.out.2.2.1.cell 6
  obtain ⟨bk, ok, hcA, k0, k1, k2, k3, k4, k5, k6⟩ := kid_cells (HH.out.1.below H2.out.1).slot.kids hK
  rw [hcA] at t6
  have hii : (i : Int) < (T.kids.length : Int) := by omega
  have hkl : T.kids.length ≤ 9223372036854775807 := Nat.le_trans HH.out.2.2.2.2.2.1 (by decide)
  have hcall := fun (w1 : World) (h1 : Below w2.heap.size w2 w1) (S1 : Nat → Prop) (h2 : ∀ b, S1 b → b < w1.heap.size) (h3 : ∀ b, b < w.heap.size → S1 b → S b) => HM.out.2.2 K hK (some ⟨bp, op + 2, none⟩) (c' - 1) S1 w1 h2 ((HL.out.2.below (H2.out.1.trans (h1.mono H2.out.1.size)) h3).kid (List.mem_of_getElem? hK)) ((HH.out.2.2.1.below (H2.out.1.trans (h1.mono H2.out.1.size))).stDrop1) (by have := HM.out.1; have := HM.out.2.1; simp only [List.length_cons]; omega)
  rw [hln, PT.value_eq] at hcall
  have HBA := Lib.hid (Below.refl w2.heap.size w2).drew
  have HBB := Lib.hid ((Below.refl w2.heap.size w2).alloc (Nat.le_refl _) (.cells #[.int .i64 0, .int .i64 0, .string ⟨#[]⟩, .int .i64 0, .int .i64 0, .slice none 0 0, .slice none 0 0] 29)).drew
  have HBZ := Lib.hid (show Blk (w2.alloc (.cells #[.int .i64 0, .int .i64 0, .string ⟨#[]⟩, .int .i64 0, .int .i64 0, .slice none 0 0, .slice none 0 0] 29)).drew w2.heap.size 29 #[.int .i64 0, .int .i64 0, .string ⟨#[]⟩, .int .i64 0, .int .i64 0, .slice none 0 0, .slice none 0 0] from Blk.new w2 _ _)
  have hw4 : w.heap.size + 4 ≤ w2.heap.size := H2.out.2.2.2.2.lt
  have hsw : ∀ b, S b → b < w2.heap.size := fun b hb => by have := HL.out.1 b hb; omega
  have HCA := Lib.hid (hcall w2.drew HBA.out (fun b => S b ∨ (w.heap.size ≤ b ∧ b < w.heap.size + 4)) (fun b hb => by
    show b < w2.heap.size
    rcases hb with hb | hb
    · exact hsw b hb
    · omega) (fun b hb hs => by
    rcases hs with hs | hs
    · exact hs
    · omega))
  have HCB := Lib.hid (hcall (w2.alloc (.cells #[.int .i64 0, .int .i64 0, .string ⟨#[]⟩, .int .i64 0, .int .i64 0, .slice none 0 0, .slice none 0 0] 29)).drew HBB.out (fun b => (S b ∨ (w.heap.size ≤ b ∧ b < w.heap.size + 4)) ∨ b = w2.heap.size) (fun b hb => by
    have e : (w2.alloc (.cells #[.int .i64 0, .int .i64 0, .string ⟨#[]⟩, .int .i64 0, .int .i64 0, .slice none 0 0, .slice none 0 0] 29)).drew.heap.size = w2.heap.size + 1 := by simp
    rcases hb with (hb | hb) | hb
    · have := hsw b hb; omega
    · omega
    · omega) (fun b hb hs => by
    rcases hs with (hs | hs) | hs
    · exact hs
    · omega
    · omega))
  have h1m : (1 : Int) ≤ (m : Int) := by omega
  have h0c : (0 : Int) ≤ (c' : Int) := by omega
  have h1c : (1 : Int) ≤ (c' : Int) := by omega
  have hcn : ¬ c' = 1 := by omega
  have h1n : 1 ≤ m := by omega
  have hmc' : m ≤ c' := by omega
  have hw0 : w.heap.size < w2.heap.size := by omega
  have hw1 : w.heap.size + 1 < w2.heap.size := by omega
  have hw2 : bk < w2.heap.size := cell_lt k0
  clear hidx hil hK hcall hln hw4 hsw hcA
  have HKS := Lib.hid (fun (w' : World) (h : Below w2.heap.size w2 w') => (show w'.cell? ⟨w.heap.size, 6, none⟩ = some (.slice (some ⟨bk, ok, none⟩) T.kids.length T.cc) ∧ w'.cell? ⟨w.heap.size + 1, 0, none⟩ = some (.int .i64 kind) ∧ w'.cell? ⟨w.heap.size + 1, 1, none⟩ = some (.slice B n c) ∧ w'.cell? ⟨w.heap.size + 1, 2, none⟩ = some (.int .i64 v.k) ∧ w'.cell? ⟨w.heap.size + 1, 3, none⟩ = some (.int .i64 v.n) ∧ w'.cell? ⟨w.heap.size + 1, 4, none⟩ = some (.string v.s) ∧ w'.cell? ⟨w.heap.size + 1, 5, none⟩ = some (.int .i64 v.o) ∧ w'.cell? ⟨w.heap.size + 1, 6, none⟩ = some (.int .i64 v.p) ∧ w'.cell? ⟨bk, ok + i * 7, none⟩ = some (.int .i64 K.val.k) ∧ w'.cell? ⟨bk, ok + i * 7 + 1, none⟩ = some (.int .i64 K.val.n) ∧ w'.cell? ⟨bk, ok + i * 7 + 2, none⟩ = some (.string K.val.s) ∧ w'.cell? ⟨bk, ok + i * 7 + 3, none⟩ = some (.int .i64 K.val.o) ∧ w'.cell? ⟨bk, ok + i * 7 + 4, none⟩ = some (.int .i64 K.val.p) ∧ w'.cell? ⟨bk, ok + i * 7 + 5, none⟩ = some (.slice K.kA K.keys.length K.kc) ∧ w'.cell? ⟨bk, ok + i * 7 + 6, none⟩ = some (.slice K.cA K.kids.length K.cc) from ⟨cell_below h t6, cell_below h p0, cell_below h p1, cell_below h p2, cell_below h p3, cell_below h p4, cell_below h p5, cell_below h p6, cell_below h k0, cell_below h k1, cell_below h k2, cell_below h k3, cell_below h k4, cell_below h k5, cell_below h k6⟩))
  go_wp2_with fail
  clear t0
  go_region_held3 (fun w' => w'.cell? ⟨w.heap.size, 6, none⟩ = some (.slice (some ⟨bk, ok, none⟩) T.kids.length T.cc) ∧ w'.cell? ⟨w.heap.size + 1, 0, none⟩ = some (.int .i64 kind) ∧ w'.cell? ⟨w.heap.size + 1, 1, none⟩ = some (.slice B n c) ∧ w'.cell? ⟨w.heap.size + 1, 2, none⟩ = some (.int .i64 v.k) ∧ w'.cell? ⟨w.heap.size + 1, 3, none⟩ = some (.int .i64 v.n) ∧ w'.cell? ⟨w.heap.size + 1, 4, none⟩ = some (.string v.s) ∧ w'.cell? ⟨w.heap.size + 1, 5, none⟩ = some (.int .i64 v.o) ∧ w'.cell? ⟨w.heap.size + 1, 6, none⟩ = some (.int .i64 v.p) ∧ w'.cell? ⟨bk, ok + i * 7, none⟩ = some (.int .i64 K.val.k) ∧ w'.cell? ⟨bk, ok + i * 7 + 1, none⟩ = some (.int .i64 K.val.n) ∧ w'.cell? ⟨bk, ok + i * 7 + 2, none⟩ = some (.string K.val.s) ∧ w'.cell? ⟨bk, ok + i * 7 + 3, none⟩ = some (.int .i64 K.val.o) ∧ w'.cell? ⟨bk, ok + i * 7 + 4, none⟩ = some (.int .i64 K.val.p) ∧ w'.cell? ⟨bk, ok + i * 7 + 5, none⟩ = some (.slice K.kA K.keys.length K.kc) ∧ w'.cell? ⟨bk, ok + i * 7 + 6, none⟩ = some (.slice K.cA K.kids.length K.cc)) (first | (with_reducible exact HKS.out _ HBA.out) | (with_reducible exact HKS.out _ HBB.out) | (with_reducible exact HKS.out _ hbx) | (with_reducible exact HKS.out _ (hbx.alloc hbx.size _)) | (with_reducible exact HKS.out _ (hbx.trans ((only7 w3 w2.heap.size _ _ _ _ _ _ _ 0 1 2 3 4 5 6).below hbx.size (fun q hq e => by omega)))) | exact HKS.out _ ((hbx.alloc hbx.size _).trans ((only7 _ w3.heap.size _ _ _ _ _ _ _ _ _ _ _ _ _ _).below (by simp; have := hbx.size; omega) (fun q hq e => by have := hbx.size; omega)))) (first | (go_at_call 20; (with_reducible refine HCA.out.mono ?_); rintro e w3 ⟨hb3, rfl⟩; have hbx : Below w2.heap.size w2 w3 := HBA.out.trans (hb3.mono HBA.out.size); clear hb3; rw [PT.value_eq]) | (go_at_call 20; (with_reducible refine HCB.out.mono ?_); rintro e w3 ⟨hb3, rfl⟩; rw [PT.value_eq]; have hBg := HBZ.out.below hb3 HBZ.out.lt; have hbx : Below w2.heap.size w2 w3 := HBB.out.trans (hb3.mono HBB.out.size); clear hb3; have y0 : w3.cell? ⟨w2.heap.size, 0, none⟩ = some (.int .i64 0) := hBg.cell 0; have y1 : w3.cell? ⟨w2.heap.size, 1, none⟩ = some (.int .i64 0) := hBg.cell 1; have y2 : w3.cell? ⟨w2.heap.size, 2, none⟩ = some (.string ⟨#[]⟩) := hBg.cell 2; have y3 : w3.cell? ⟨w2.heap.size, 3, none⟩ = some (.int .i64 0) := hBg.cell 3; have y4 : w3.cell? ⟨w2.heap.size, 4, none⟩ = some (.int .i64 0) := hBg.cell 4; have y5 : w3.cell? ⟨w2.heap.size, 5, none⟩ = some (.slice none 0 0) := hBg.cell 5; have y6 : w3.cell? ⟨w2.heap.size, 6, none⟩ = some (.slice none 0 0) := hBg.cell 6; have zy := hBg.frozen; have HBg := Lib.hid hBg; clear hBg))
  all_goals
    refine rq_at (fun W => Below w2.heap.size w2 W) (by first | (with_reducible exact hbx.alloc hbx.size _) | (with_reducible exact hbx.trans ((only7 w3 w2.heap.size _ _ _ _ _ _ _ 0 1 2 3 4 5 6).below hbx.size (fun q hq e => by omega)))) ?_
    clear t6 p0 p1 p2 p3 p4 p5 p6 k0 k1 k2 k3 k4 k5 k6
    rintro W hbW
    have HW := Lib.hid hbW
    clear hbW
    have t0 : W.cell? ⟨w.heap.size, 0, none⟩ = some (.int .i64 T.val.k) := (H2.out.2.1.below HW.out H2.out.2.1.lt).cell 0
    have t1 : W.cell? ⟨w.heap.size, 1, none⟩ = some (.int .i64 T.val.n) := (H2.out.2.1.below HW.out H2.out.2.1.lt).cell 1
    have t2 : W.cell? ⟨w.heap.size, 2, none⟩ = some (.string T.val.s) := (H2.out.2.1.below HW.out H2.out.2.1.lt).cell 2
    have t3 : W.cell? ⟨w.heap.size, 3, none⟩ = some (.int .i64 T.val.o) := (H2.out.2.1.below HW.out H2.out.2.1.lt).cell 3
    have t4 : W.cell? ⟨w.heap.size, 4, none⟩ = some (.int .i64 T.val.p) := (H2.out.2.1.below HW.out H2.out.2.1.lt).cell 4
    have t5 : W.cell? ⟨w.heap.size, 5, none⟩ = some (.slice T.kA T.keys.length T.kc) := (H2.out.2.1.below HW.out H2.out.2.1.lt).cell 5
    have t6 : W.cell? ⟨w.heap.size, 6, none⟩ = some (.slice T.cA T.kids.length T.cc) := (H2.out.2.1.below HW.out H2.out.2.1.lt).cell 6
    have hZ3 := H2.out.2.2.2.1.below HW.out H2.out.2.2.2.1.lt
    have z0 : W.cell? ⟨w.heap.size + 1 + 1, 0, none⟩ = some (.int .i64 0) := hZ3.cell 0
    have z1 : W.cell? ⟨w.heap.size + 1 + 1, 1, none⟩ = some (.int .i64 0) := hZ3.cell 1
    have z2 : W.cell? ⟨w.heap.size + 1 + 1, 2, none⟩ = some (.string ⟨#[]⟩) := hZ3.cell 2
    have z3 : W.cell? ⟨w.heap.size + 1 + 1, 3, none⟩ = some (.int .i64 0) := hZ3.cell 3
    have z4 : W.cell? ⟨w.heap.size + 1 + 1, 4, none⟩ = some (.int .i64 0) := hZ3.cell 4
    have z5 : W.cell? ⟨w.heap.size + 1 + 1, 5, none⟩ = some (.slice none 0 0) := hZ3.cell 5
    have z6 : W.cell? ⟨w.heap.size + 1 + 1, 6, none⟩ = some (.slice none 0 0) := hZ3.cell 6
    have zz := hZ3.frozen
    have HZ := Lib.hid hZ3
    clear hZ3
    go_wp2_with fail
    clear z0 z1 z2 z3 z4 z5 z6 t0 t1 t2 t3 t4 t5 t6
    refine bodyPost_ret (results_row_tmp Tryd.results20 _ _ (w.heap.size + 1 + 1) _ _ _ rfl (blk7 _ _ _ _ _ _ _ HZ.out) Tryd.underlying29 rfl (by kernel_rfl)) rfl ?_
    have hb3 : Below w.heap.size w W := H2.out.1.trans (HW.out.mono H2.out.1.size)
    refine ⟨hb3.trans ((only7 W (w.heap.size + 1 + 1) _ _ _ _ _ _ _ _ _ _ _ _ _ _).below hb3.size (fun q hq e => by omega)), ?_⟩
    rw [HN.out, PT.value_eq]
    first | (rw [show T.val.k = 5 from by assumption]; rfl) | rfl
end Go.Proofs.YtbfmdpgghknccaaDoor
namespace Go.Proofs.YtbfmdpgghknccaaDoor
open Go.RowKit
set_option linter.unusedVariables false
set_option linter.unusedSimpArgs false

set_option maxRecDepth 100000 in
set_option maxHeartbeats 4000000 in
theorem rpat_more_x {kind : Int} {s2 : St} {r : List St} {m : Nat} (v : JV) (B : Option Addr) (n c : Nat) (T : PT) (A : Option Addr) (c' : Nat) (s : St) (S : Nat → Prop) (w : World) (hS : ∀ b, S b → b < w.heap.size) (hL : Lies S w T) (hTc : T.Caps) (hA : SlAt w A (stCells (s :: s2 :: r))) (hf : T.tree.formed = true) (hv : v.Fit) (hn : T.kids.length ≤ 1000) (hs : s.key.size ≤ maxLen) (hm : m = r.length + 2) (hmc : m ≤ c') (hml : m ≤ maxLen) {i : Nat} {u : JT} (hidx : T.tree.idx s = some i) (HK : ∀ (K : PT), T.kids[i]? = some K → ∀ (A2 : Option Addr) (c2 : Nat) (S1 : Nat → Prop) (w1 : World), (∀ b, S1 b → b < w1.heap.size) → Lies S1 w1 K → SlAt w1 A2 (stCells (s2 :: r)) → (s2 :: r).length ≤ c2 → Calls Tryd.prog 20 #[K.value, .agg #[.int .i64 kind, .slice B n c, .int .i64 v.k, .int .i64 v.n, .string v.s, .int .i64 v.o, .int .i64 v.p], .slice A2 (s2 :: r).length c2] w1 (RPatQ S1 w1 K (some u))) (hlaw : JT.pat kind (JT.leaf v) T.tree (s :: s2 :: r) = some (T.tree.setKid i u)) :
    Calls Tryd.prog 20 #[T.value, .agg #[.int .i64 kind, .slice B n c, .int .i64 v.k, .int .i64 v.n, .string v.s, .int .i64 v.o, .int .i64 v.p], .slice A m c'] w (RPatQ S w T (JT.pat kind (JT.leaf v) T.tree (s :: s2 :: r))) := by
  have hT := hL.here
  have HL := Lib.hid (And.intro hS hL)
  clear hS hL
  obtain ⟨bp, op, rfl, g0, g1⟩ := (((hA.alloc (.cells #[.int .i64 T.val.k, .int .i64 T.val.n, .string T.val.s, .int .i64 T.val.o, .int .i64 T.val.p, .slice T.kA T.keys.length T.kc, .slice T.cA T.kids.length T.cc] 29)).alloc (.cells #[.int .i64 kind, .slice B n c, .int .i64 v.k, .int .i64 v.n, .string v.s, .int .i64 v.o, .int .i64 v.p] 67)).alloc (.cells #[.int .i64 0, .int .i64 0, .string ⟨#[]⟩, .int .i64 0, .int .i64 0, .slice none 0 0, .slice none 0 0] 29)).step (l := (s :: s2 :: r)) (k := 0) rfl
  simp only [Nat.zero_mul, Nat.add_zero] at g0 g1
  have HI := Lib.hid (fun w1 (h1 : Below w.heap.size w w1) => by
    have := rindex_any T s.key s.at_ w1 (hT.below h1) hf
    rw [PT.value_eq] at this
    exact this)
  have HH := Lib.hid (And.intro hT (And.intro hTc (And.intro hA (And.intro hf (And.intro hv (And.intro hn hs))))))
  clear hT hTc hA hf hv hn hs
  rw [PT.value_eq]
  have hgt : (1 : Int) < (m : Int) := by omega
  have hmi : (m : Int) ≤ (c' : Int) := by omega
  have hm9 : m ≤ 9223372036854775807 := Nat.le_trans hml (by decide)
  have HM := Lib.hid (And.intro hm (And.intro hmc HK))
  clear hm hmc hml HK
  go_enter Tryd.func20, Tryd.ntmps20
  go_wp2_with fail
  obtain ⟨hb4, hBT, hBP, hBZ, hBS⟩ := boxes4 w #[.int .i64 T.val.k, .int .i64 T.val.n, .string T.val.s, .int .i64 T.val.o, .int .i64 T.val.p, .slice T.kA T.keys.length T.kc, .slice T.cA T.kids.length T.cc] #[.int .i64 kind, .slice B n c, .int .i64 v.k, .int .i64 v.n, .string v.s, .int .i64 v.o, .int .i64 v.p] #[.int .i64 0, .int .i64 0, .string ⟨#[]⟩, .int .i64 0, .int .i64 0, .slice none 0 0, .slice none 0 0] #[.string s.key, .int .i64 s.at_] 29 67 29 69
  refine (HI.out _ hb4).mono ?_
  rintro e w2 ⟨rfl, hb2⟩
  have H2 := Lib.hid (And.intro (hb4.trans (hb2.mono hb4.size)) (And.intro (hBT.below hb2 hBT.lt) (And.intro (hBP.below hb2 hBP.lt) (And.intro (hBZ.below hb2 hBZ.lt) (hBS.below hb2 hBS.lt)))))
  clear hb4 hBT hBP hBZ hBS hb2 g0 g1 HI
  have HLAW := Lib.hid hlaw
  clear hlaw
  rw [ridx_of hidx]
  have hil := JT.idx_lt hidx (JT.top_of HH.out.2.2.2.1)
  rw [PT.tree_kids, List.length_map] at hil
  obtain ⟨K, hK⟩ : ∃ K, T.kids[i]? = some K := ⟨_, List.getElem?_eq_getElem hil⟩
  have hln : (s2 :: r).length = m - 1 := by have := HM.out.1; simp only [List.length_cons]; omega
  have HI := Lib.hid (And.intro hidx (And.intro hil hK))
  have t0 : w2.cell? ⟨w.heap.size, 0, none⟩ = some (.int .i64 T.val.k) := H2.out.2.1.cell 0
  have t6 : w2.cell? ⟨w.heap.size, 6, none⟩ = some (.slice T.cA T.kids.length T.cc) := H2.out.2.1.cell 6
  have p0 : w2.cell? ⟨w.heap.size + 1, 0, none⟩ = some (.int .i64 kind) := H2.out.2.2.1.cell 0
  have p1 : w2.cell? ⟨w.heap.size + 1, 1, none⟩ = some (.slice B n c) := H2.out.2.2.1.cell 1
  have p2 : w2.cell? ⟨w.heap.size + 1, 2, none⟩ = some (.int .i64 v.k) := H2.out.2.2.1.cell 2
  have p3 : w2.cell? ⟨w.heap.size + 1, 3, none⟩ = some (.int .i64 v.n) := H2.out.2.2.1.cell 3
  have p4 : w2.cell? ⟨w.heap.size + 1, 4, none⟩ = some (.string v.s) := H2.out.2.2.1.cell 4
  have p5 : w2.cell? ⟨w.heap.size + 1, 5, none⟩ = some (.int .i64 v.o) := H2.out.2.2.1.cell 5
  have p6 : w2.cell? ⟨w.heap.size + 1, 6, none⟩ = some (.int .i64 v.p) := H2.out.2.2.1.cell 6
  obtain ⟨bk, ok, hcA, k0, k1, k2, k3, k4, k5, k6⟩ := kid_cells (HH.out.1.below H2.out.1).slot.kids hK
  rw [hcA] at t6
  have hii : (i : Int) < (T.kids.length : Int) := by omega
  have hkl : T.kids.length ≤ 9223372036854775807 := Nat.le_trans HH.out.2.2.2.2.2.1 (by decide)
  have hcall := fun (w1 : World) (h1 : Below w2.heap.size w2 w1) (S1 : Nat → Prop) (h2 : ∀ b, S1 b → b < w1.heap.size) (h3 : ∀ b, b < w.heap.size → S1 b → S b) => HM.out.2.2 K hK (some ⟨bp, op + 2, none⟩) (c' - 1) S1 w1 h2 ((HL.out.2.below (H2.out.1.trans (h1.mono H2.out.1.size)) h3).kid (List.mem_of_getElem? hK)) ((HH.out.2.2.1.below (H2.out.1.trans (h1.mono H2.out.1.size))).stDrop1) (by have := HM.out.1; have := HM.out.2.1; simp only [List.length_cons]; omega)
  rw [hln, PT.value_eq] at hcall
  have HBA := Lib.hid (Below.refl w2.heap.size w2).drew
  have HBB := Lib.hid ((Below.refl w2.heap.size w2).alloc (Nat.le_refl _) (.cells #[.int .i64 0, .int .i64 0, .string ⟨#[]⟩, .int .i64 0, .int .i64 0, .slice none 0 0, .slice none 0 0] 29)).drew
  have HBZ := Lib.hid (show Blk (w2.alloc (.cells #[.int .i64 0, .int .i64 0, .string ⟨#[]⟩, .int .i64 0, .int .i64 0, .slice none 0 0, .slice none 0 0] 29)).drew w2.heap.size 29 #[.int .i64 0, .int .i64 0, .string ⟨#[]⟩, .int .i64 0, .int .i64 0, .slice none 0 0, .slice none 0 0] from Blk.new w2 _ _)
  have hw4 : w.heap.size + 4 ≤ w2.heap.size := H2.out.2.2.2.2.lt
  have hsw : ∀ b, S b → b < w2.heap.size := fun b hb => by have := HL.out.1 b hb; omega
  have HCA := Lib.hid (hcall w2.drew HBA.out (fun b => S b ∨ (w.heap.size ≤ b ∧ b < w.heap.size + 4)) (fun b hb => by
    show b < w2.heap.size
    rcases hb with hb | hb
    · exact hsw b hb
    · omega) (fun b hb hs => by
    rcases hs with hs | hs
    · exact hs
    · omega))
  have HCB := Lib.hid (hcall (w2.alloc (.cells #[.int .i64 0, .int .i64 0, .string ⟨#[]⟩, .int .i64 0, .int .i64 0, .slice none 0 0, .slice none 0 0] 29)).drew HBB.out (fun b => (S b ∨ (w.heap.size ≤ b ∧ b < w.heap.size + 4)) ∨ b = w2.heap.size) (fun b hb => by
    have e : (w2.alloc (.cells #[.int .i64 0, .int .i64 0, .string ⟨#[]⟩, .int .i64 0, .int .i64 0, .slice none 0 0, .slice none 0 0] 29)).drew.heap.size = w2.heap.size + 1 := by simp
    rcases hb with (hb | hb) | hb
    · have := hsw b hb; omega
    · omega
    · omega) (fun b hb hs => by
    rcases hs with (hs | hs) | hs
    · exact hs
    · omega
    · omega))
  have h1m : (1 : Int) ≤ (m : Int) := by omega
  have h0c : (0 : Int) ≤ (c' : Int) := by omega
  have h1c : (1 : Int) ≤ (c' : Int) := by omega
  have hcn : ¬ c' = 1 := by omega
  have h1n : 1 ≤ m := by omega
  have hmc' : m ≤ c' := by omega
  have hw0 : w.heap.size < w2.heap.size := by omega
  have hw1 : w.heap.size + 1 < w2.heap.size := by omega
  have hw2 : bk < w2.heap.size := cell_lt k0
  clear hidx hil hK hcall hln hw4 hsw hcA
  have HKS := Lib.hid (fun (w' : World) (h : Below w2.heap.size w2 w') => (show w'.cell? ⟨w.heap.size, 6, none⟩ = some (.slice (some ⟨bk, ok, none⟩) T.kids.length T.cc) ∧ w'.cell? ⟨w.heap.size + 1, 0, none⟩ = some (.int .i64 kind) ∧ w'.cell? ⟨w.heap.size + 1, 1, none⟩ = some (.slice B n c) ∧ w'.cell? ⟨w.heap.size + 1, 2, none⟩ = some (.int .i64 v.k) ∧ w'.cell? ⟨w.heap.size + 1, 3, none⟩ = some (.int .i64 v.n) ∧ w'.cell? ⟨w.heap.size + 1, 4, none⟩ = some (.string v.s) ∧ w'.cell? ⟨w.heap.size + 1, 5, none⟩ = some (.int .i64 v.o) ∧ w'.cell? ⟨w.heap.size + 1, 6, none⟩ = some (.int .i64 v.p) ∧ w'.cell? ⟨bk, ok + i * 7, none⟩ = some (.int .i64 K.val.k) ∧ w'.cell? ⟨bk, ok + i * 7 + 1, none⟩ = some (.int .i64 K.val.n) ∧ w'.cell? ⟨bk, ok + i * 7 + 2, none⟩ = some (.string K.val.s) ∧ w'.cell? ⟨bk, ok + i * 7 + 3, none⟩ = some (.int .i64 K.val.o) ∧ w'.cell? ⟨bk, ok + i * 7 + 4, none⟩ = some (.int .i64 K.val.p) ∧ w'.cell? ⟨bk, ok + i * 7 + 5, none⟩ = some (.slice K.kA K.keys.length K.kc) ∧ w'.cell? ⟨bk, ok + i * 7 + 6, none⟩ = some (.slice K.cA K.kids.length K.cc) from ⟨cell_below h t6, cell_below h p0, cell_below h p1, cell_below h p2, cell_below h p3, cell_below h p4, cell_below h p5, cell_below h p6, cell_below h k0, cell_below h k1, cell_below h k2, cell_below h k3, cell_below h k4, cell_below h k5, cell_below h k6⟩))
  go_wp2_with fail
  clear t0
  go_region_held3 (fun w' => w'.cell? ⟨w.heap.size, 6, none⟩ = some (.slice (some ⟨bk, ok, none⟩) T.kids.length T.cc) ∧ w'.cell? ⟨w.heap.size + 1, 0, none⟩ = some (.int .i64 kind) ∧ w'.cell? ⟨w.heap.size + 1, 1, none⟩ = some (.slice B n c) ∧ w'.cell? ⟨w.heap.size + 1, 2, none⟩ = some (.int .i64 v.k) ∧ w'.cell? ⟨w.heap.size + 1, 3, none⟩ = some (.int .i64 v.n) ∧ w'.cell? ⟨w.heap.size + 1, 4, none⟩ = some (.string v.s) ∧ w'.cell? ⟨w.heap.size + 1, 5, none⟩ = some (.int .i64 v.o) ∧ w'.cell? ⟨w.heap.size + 1, 6, none⟩ = some (.int .i64 v.p) ∧ w'.cell? ⟨bk, ok + i * 7, none⟩ = some (.int .i64 K.val.k) ∧ w'.cell? ⟨bk, ok + i * 7 + 1, none⟩ = some (.int .i64 K.val.n) ∧ w'.cell? ⟨bk, ok + i * 7 + 2, none⟩ = some (.string K.val.s) ∧ w'.cell? ⟨bk, ok + i * 7 + 3, none⟩ = some (.int .i64 K.val.o) ∧ w'.cell? ⟨bk, ok + i * 7 + 4, none⟩ = some (.int .i64 K.val.p) ∧ w'.cell? ⟨bk, ok + i * 7 + 5, none⟩ = some (.slice K.kA K.keys.length K.kc) ∧ w'.cell? ⟨bk, ok + i * 7 + 6, none⟩ = some (.slice K.cA K.kids.length K.cc)) (first | (with_reducible exact HKS.out _ HBA.out) | (with_reducible exact HKS.out _ HBB.out) | (with_reducible exact HKS.out _ hbx) | (with_reducible exact HKS.out _ (hbx.alloc hbx.size _)) | (with_reducible exact HKS.out _ (hbx.trans ((only7 w3 w2.heap.size _ _ _ _ _ _ _ 0 1 2 3 4 5 6).below hbx.size (fun q hq e => by omega)))) | exact HKS.out _ ((hbx.alloc hbx.size _).trans ((only7 _ w3.heap.size _ _ _ _ _ _ _ _ _ _ _ _ _ _).below (by simp; have := hbx.size; omega) (fun q hq e => by have := hbx.size; omega)))) (first | (go_at_call 20; (with_reducible refine HCA.out.mono ?_); rintro e w3 ⟨hb3, RK, rfl, hR1, hR2, hR3⟩; have hbx : Below w2.heap.size w2 w3 := HBA.out.trans (hb3.mono HBA.out.size); clear hb3; rw [PT.value_eq]) | (go_at_call 20; (with_reducible refine HCB.out.mono ?_); rintro e w3 ⟨hb3, RK, rfl, hR1, hR2, hR3⟩; rw [PT.value_eq]; have hBg := HBZ.out.below hb3 HBZ.out.lt; have hbx : Below w2.heap.size w2 w3 := HBB.out.trans (hb3.mono HBB.out.size); clear hb3; have y0 : w3.cell? ⟨w2.heap.size, 0, none⟩ = some (.int .i64 0) := hBg.cell 0; have y1 : w3.cell? ⟨w2.heap.size, 1, none⟩ = some (.int .i64 0) := hBg.cell 1; have y2 : w3.cell? ⟨w2.heap.size, 2, none⟩ = some (.string ⟨#[]⟩) := hBg.cell 2; have y3 : w3.cell? ⟨w2.heap.size, 3, none⟩ = some (.int .i64 0) := hBg.cell 3; have y4 : w3.cell? ⟨w2.heap.size, 4, none⟩ = some (.int .i64 0) := hBg.cell 4; have y5 : w3.cell? ⟨w2.heap.size, 5, none⟩ = some (.slice none 0 0) := hBg.cell 5; have y6 : w3.cell? ⟨w2.heap.size, 6, none⟩ = some (.slice none 0 0) := hBg.cell 6; have zy := hBg.frozen; have HBg := Lib.hid hBg; clear hBg))
  all_goals
    have hsab : ∀ b, b < w3.heap.size → (fun b => S b ∨ (w.heap.size ≤ b ∧ b < w.heap.size + 4)) b → (fun b => (S b ∨ (w.heap.size ≤ b ∧ b < w.heap.size + 4)) ∨ b = w2.heap.size) b := fun b _ h => .inl h
    first
    | (with_reducible refine rq_at (fun W => Below w2.heap.size w2 W ∧ Lies (fun b => S b ∨ (w.heap.size ≤ b ∧ b < w.heap.size + 4)) W RK ∧ Blk W w3.heap.size 29 #[.int .i64 RK.val.k, .int .i64 RK.val.n, .string RK.val.s, .int .i64 RK.val.o, .int .i64 RK.val.p, .slice RK.kA RK.keys.length RK.kc, .slice RK.cA RK.kids.length RK.cc]) ⟨hbx.alloc hbx.size _, hR2.below ((Below.refl _ _).alloc (Nat.le_refl _) _) (fun b _ h => h), Blk.new _ _ _⟩ ?_)
    | (with_reducible refine rq_at (fun W => Below w2.heap.size w2 W ∧ Lies (fun b => S b ∨ (w.heap.size ≤ b ∧ b < w.heap.size + 4)) W RK ∧ Blk W w2.heap.size 29 #[.int .i64 RK.val.k, .int .i64 RK.val.n, .string RK.val.s, .int .i64 RK.val.o, .int .i64 RK.val.p, .slice RK.kA RK.keys.length RK.kc, .slice RK.cA RK.kids.length RK.cc]) ⟨hbx.trans ((only7 w3 w2.heap.size _ _ _ _ _ _ _ 0 1 2 3 4 5 6).below hbx.size (fun q hq e => by omega)), hR2.only (only7 w3 w2.heap.size _ _ _ _ _ _ _ 0 1 2 3 4 5 6) (fun b _ e => .inr e) hsab, blk7 _ _ _ _ _ _ _ HBg.out⟩ ?_)
    clear t6 p0 p1 p2 p3 p4 p5 p6 k0 k1 k2 k3 k4 k5 k6
    rintro W ⟨hbW, hLW, hBW⟩
    have HW := Lib.hid (And.intro hbW (And.intro hLW (And.intro hR1 (And.intro hR3 hBW))))
    have r0 := hBW.cell 0
    have r1 := hBW.cell 1
    have r2 := hBW.cell 2
    have r3 := hBW.cell 3
    have r4 := hBW.cell 4
    have r5 := hBW.cell 5
    have r6 := hBW.cell 6
    simp at r0 r1 r2 r3 r4 r5 r6
    clear hbW hLW hBW hR1 hR2 hR3 hbx hsab
    have t0 : W.cell? ⟨w.heap.size, 0, none⟩ = some (.int .i64 T.val.k) := (H2.out.2.1.below HW.out.1 H2.out.2.1.lt).cell 0
    have t1 : W.cell? ⟨w.heap.size, 1, none⟩ = some (.int .i64 T.val.n) := (H2.out.2.1.below HW.out.1 H2.out.2.1.lt).cell 1
    have t2 : W.cell? ⟨w.heap.size, 2, none⟩ = some (.string T.val.s) := (H2.out.2.1.below HW.out.1 H2.out.2.1.lt).cell 2
    have t3 : W.cell? ⟨w.heap.size, 3, none⟩ = some (.int .i64 T.val.o) := (H2.out.2.1.below HW.out.1 H2.out.2.1.lt).cell 3
    have t4 : W.cell? ⟨w.heap.size, 4, none⟩ = some (.int .i64 T.val.p) := (H2.out.2.1.below HW.out.1 H2.out.2.1.lt).cell 4
    have t5 : W.cell? ⟨w.heap.size, 5, none⟩ = some (.slice T.kA T.keys.length T.kc) := (H2.out.2.1.below HW.out.1 H2.out.2.1.lt).cell 5
    have t6 : W.cell? ⟨w.heap.size, 6, none⟩ = some (.slice T.cA T.kids.length T.cc) := (H2.out.2.1.below HW.out.1 H2.out.2.1.lt).cell 6
    have s0 : W.cell? ⟨w.heap.size + 1 + 1 + 1, 0, none⟩ = some (.string s.key) := (H2.out.2.2.2.2.below HW.out.1 H2.out.2.2.2.2.lt).cell 0
    go_wp2_with fail
    have hb3 : Below w.heap.size w W := H2.out.1.trans (HW.out.1.mono H2.out.1.size)
    have hlt3 := H2.out.2.2.2.2.lt
    have hsz3 : w2.heap.size ≤ (W).heap.size := HW.out.1.size
    have hSS : ∀ b, (S b ∨ (w.heap.size ≤ b ∧ b < w.heap.size + 4)) → b < (W).heap.size := by
      intro b hb
      rcases hb with hb | hb
      · have := HL.out.1 b hb; have := hb3.size; omega
      · omega
    have hSL : ∀ b, b < w.heap.size → (S b ∨ (w.heap.size ≤ b ∧ b < w.heap.size + 4)) → S b := by
      intro b hb hs
      rcases hs with hs | hs
      · exact hs
      · omega
    have hput := rput_set T RK i s.key (fun b => S b ∨ (w.heap.size ≤ b ∧ b < w.heap.size + 4)) W hSS (HL.out.2.below hb3 hSL) HW.out.2.1 HH.out.2.1 HW.out.2.2.2.1 HH.out.2.2.2.1 HI.out.2.1 HH.out.2.2.2.2.2.1 HH.out.2.2.2.2.2.2 (idx_key HI.out.1)
    rw [PT.value_eq] at hput
    rw [PT.value_eq] at hput
    clear t0 t1 t2 t3 t4 t5 t6 s0 r0 r1 r2 r3 r4 r5 r6
    refine hput.mono ?_
    rintro e w4 ⟨R, rfl, hR1, hR2, hR3, hb4⟩
    have hZ4 : Blk w4 (w.heap.size + 1 + 1) 29 #[.int .i64 0, .int .i64 0, .string ⟨#[]⟩, .int .i64 0, .int .i64 0, .slice none 0 0, .slice none 0 0] := ((H2.out.2.2.2.1.below HW.out.1 H2.out.2.2.2.1.lt)).below hb4 ((H2.out.2.2.2.1.below HW.out.1 H2.out.2.2.2.1.lt)).lt
    rw [PT.value_eq]
    have z0 : w4.cell? ⟨w.heap.size + 1 + 1, 0, none⟩ = some (.int .i64 0) := hZ4.cell 0
    have z1 : w4.cell? ⟨w.heap.size + 1 + 1, 1, none⟩ = some (.int .i64 0) := hZ4.cell 1
    have z2 : w4.cell? ⟨w.heap.size + 1 + 1, 2, none⟩ = some (.string ⟨#[]⟩) := hZ4.cell 2
    have z3 : w4.cell? ⟨w.heap.size + 1 + 1, 3, none⟩ = some (.int .i64 0) := hZ4.cell 3
    have z4 : w4.cell? ⟨w.heap.size + 1 + 1, 4, none⟩ = some (.int .i64 0) := hZ4.cell 4
    have z5 : w4.cell? ⟨w.heap.size + 1 + 1, 5, none⟩ = some (.slice none 0 0) := hZ4.cell 5
    have z6 : w4.cell? ⟨w.heap.size + 1 + 1, 6, none⟩ = some (.slice none 0 0) := hZ4.cell 6
    have zz := hZ4.frozen
    have HR4 := Lib.hid (And.intro hR1 (And.intro hR2 (And.intro hR3 (And.intro hb4 (And.intro hZ4 hb3)))))
    clear hR1 hR2 hR3 hb4 hZ4 hput hb3
    go_wp2_with fail
    clear z0 z1 z2 z3 z4 z5 z6
    refine bodyPost_ret (results_row_tmp Tryd.results20 _ _ (w.heap.size + 1 + 1) _ _ _ rfl (blk7 _ _ _ _ _ _ _ HR4.out.2.2.2.2.1) Tryd.underlying29 rfl (by kernel_rfl)) rfl ?_
    have hbw : Below w.heap.size w w4 := HR4.out.2.2.2.2.2.trans (HR4.out.2.2.2.1.mono HR4.out.2.2.2.2.2.size)
    have ho := only7 w4 (w.heap.size + 1 + 1) (.int .i64 R.val.k) (.int .i64 R.val.n) (.string R.val.s) (.int .i64 R.val.o) (.int .i64 R.val.p) (.slice R.kA R.keys.length R.kc) (.slice R.cA R.kids.length R.cc) 0 1 2 3 4 5 6
    refine ⟨hbw.trans (ho.below hbw.size (fun q hq e => by omega)), ?_⟩
    rw [show JT.pat kind (JT.leaf v) T.tree (s :: s2 :: r) = some (T.tree.setKid i RK.tree) from by rw [HLAW.out, HW.out.2.2.1]]
    exact ⟨R, by rw [PT.value_eq]; rfl, HR4.out.1, HR4.out.2.1.only ho (fun b _ e => .inl (.inr ⟨by omega, by omega⟩)) (fun b _ hb => .inl (.inl hb)), HR4.out.2.2.1⟩
end Go.Proofs.YtbfmdpgghknccaaDoor
namespace Go.Proofs.YtbfmdpgghknccaaDoor
open Go.RowKit
set_option linter.unusedVariables false
set_option linter.unusedSimpArgs false

theorem PT.kids_le (T : PT) : T.kids.length ≤ T.tree.size := by
  have h4 := JT.length_le_sizeL T.tree.kids
  rw [PT.tree_kids, List.length_map] at h4
  have h5 := JT.size_eq T.tree
  rw [PT.tree_kids] at h5
  omega
theorem JT.sizeL_mem {l : List JT} {k : JT} (h : k ∈ l) : k.size ≤ JT.sizeL l := by
  induction l with
  | nil => cases h
  | cons x l ih =>
    rw [JT.sizeL]
    rcases List.mem_cons.1 h with rfl | h
    · omega
    · have := ih h; omega
theorem PT.kid_size {T K : PT} (h : K ∈ T.kids) : K.tree.size ≤ T.tree.size := by
  have h1 := JT.size_eq T.tree
  have h2 : K.tree.size ≤ JT.sizeL T.tree.kids := JT.sizeL_mem (by rw [PT.tree_kids]; exact List.mem_map_of_mem h)
  omega
theorem PT.kid_formed {T K : PT} (hf : T.tree.formed = true) (h : K ∈ T.kids) : K.tree.formed = true :=
  ((JT.formed_iff _).1 hf).2 _ (by rw [PT.tree_kids]; exact List.mem_map_of_mem h)

theorem rpat_any (kind : Int) (hk : 1 ≤ kind ∧ kind ≤ 3) (v : JV) (hv : v.Fit) (B : Option Addr) (n c : Nat) : ∀ (p : List St), p ≠ [] → ∀ (T : PT) (A : Option Addr) (c' : Nat) (S : Nat → Prop) (w : World), (∀ b, S b → b < w.heap.size) → Lies S w T → T.Caps → SlAt w A (stCells p) → T.tree.formed = true → T.tree.size ≤ 1000 → p.length ≤ c' → p.length ≤ maxLen → (∀ s ∈ p, s.key.size ≤ maxLen) →
    Calls Tryd.prog 20 #[T.value, .agg #[.int .i64 kind, .slice B n c, .int .i64 v.k, .int .i64 v.n, .string v.s, .int .i64 v.o, .int .i64 v.p], .slice A p.length c'] w (RPatQ S w T (JT.pat kind (JT.leaf v) T.tree p)) := by
  intro p
  induction p with
  | nil => intro h; exact absurd rfl h
  | cons s r ih =>
    intro _ T A c' S w hS hL hTc hA hf hz hcap hl hks
    have hn : T.kids.length ≤ 1000 := Nat.le_trans (PT.kids_le T) hz
    have hs : s.key.size ≤ maxLen := hks s (by simp)
    cases r with
    | nil =>
      have hk3 : kind = 1 ∨ kind = 2 ∨ kind = 3 := by omega
      rcases hk3 with rfl | rfl | rfl
      · cases hidx : T.tree.idx s with
        | some i => exact rpat_set_a v B n c T A c' s S w hS hL hTc hA hf hv hn hs hidx
        | none =>
          cases hm : isMapStep T.val s with
          | false => exact rpat_set_b v B n c T A c' s S w hS hL hTc hA hf hv hn hs hidx hm
          | true => exact rpat_set_c v B n c T A c' s S w hS hL hTc hA hf hv hn hs hidx hm
      · exact rpat_del v B n c T A c' s S w hS hL hTc hA hf hv hn hs
      · exact rpat_ins v B n c T A c' s S w hS hL hTc hA hf hv hn hs
    | cons s2 r =>
      have hlen : (s :: s2 :: r).length = r.length + 2 := by simp
      rw [hlen] at hcap hl ⊢
      cases hidx : T.tree.idx s with
      | none => exact rpat_more_z v B n c T A c' s S w hS hL hTc hA hf hv hn hs rfl hcap hl hidx
      | some i =>
        have hil := JT.idx_lt hidx (JT.top_of hf)
        rw [PT.tree_kids, List.length_map] at hil
        obtain ⟨K, hK⟩ : ∃ K, T.kids[i]? = some K := ⟨_, List.getElem?_eq_getElem hil⟩
        have hmem := List.mem_of_getElem? hK
        have hih := fun (A2 : Option Addr) (c2 : Nat) (S1 : Nat → Prop) (w1 : World) (h1 : ∀ b, S1 b → b < w1.heap.size) (h2 : Lies S1 w1 K) (h3 : SlAt w1 A2 (stCells (s2 :: r))) (h4 : (s2 :: r).length ≤ c2) => ih (by simp) K A2 c2 S1 w1 h1 h2 (((PT.caps_iff T).1 hTc).2.2 K hmem) h3 (PT.kid_formed hf hmem) (Nat.le_trans (PT.kid_size hmem) hz) h4 (by simp only [List.length_cons]; omega) (fun x hx => hks x (List.mem_cons_of_mem _ hx))
        have hlaw : JT.pat kind (JT.leaf v) T.tree (s :: s2 :: r) = (JT.pat kind (JT.leaf v) K.tree (s2 :: r)).map fun k' => T.tree.setKid i k' := by
          simp only [JT.pat]
          rw [hidx, PT.tree_kids]
          simp only [List.getElem?_map, hK, Option.map_some]
          cases JT.pat kind (JT.leaf v) K.tree (s2 :: r) <;> rfl
        cases hp : JT.pat kind (JT.leaf v) K.tree (s2 :: r) with
        | none =>
          rw [hp] at hlaw hih
          exact rpat_more_y v B n c T A c' s S w hS hL hTc hA hf hv hn hs rfl hcap hl hidx (fun K' hK' => by rw [hK] at hK'; injection hK' with hK'; subst hK'; exact hih) hlaw
        | some u =>
          rw [hp] at hlaw hih
          exact rpat_more_x v B n c T A c' s S w hS hL hTc hA hf hv hn hs rfl hcap hl hidx (fun K' hK' => by rw [hK] at hK'; injection hK' with hK'; subst hK'; exact hih) hlaw
end Go.Proofs.YtbfmdpgghknccaaDoor
