/- TrBox, RefParse. -/
import Derived.Test.YtpeckpiidgkgoaaGreatDoorPg13
import Derived.Test.YtpeckpiidgkgoaaGreatDoorPg27
import Derived.Test.YtpeckpiidgkgoaaGreatDoorPg28
/- What the walks over trees share, of no function of the program: kids' cells, two boxes. -/
namespace Go.Proofs.YtpeckpiidgkgoaaGreatDoor
open Go.RowKit
set_option linter.unusedVariables false
set_option linter.unusedSimpArgs false

theorem kid_cells {w : World} {A : Option Addr} {l : List PT} (h : SlAt w A (PT.cellsL l)) {k : Nat} {T : PT} (hk : l[k]? = some T) :
    ∃ b off, A = some ⟨b, off, none⟩ ∧ w.cell? ⟨b, off + k * 7, none⟩ = some (.int .i64 T.val.k) ∧ w.cell? ⟨b, off + k * 7 + 1, none⟩ = some (.int .i64 T.val.n) ∧ w.cell? ⟨b, off + k * 7 + 2, none⟩ = some (.string T.val.s) ∧ w.cell? ⟨b, off + k * 7 + 3, none⟩ = some (.int .i64 T.val.o) ∧ w.cell? ⟨b, off + k * 7 + 4, none⟩ = some (.int .i64 T.val.p) ∧ w.cell? ⟨b, off + k * 7 + 5, none⟩ = some (.slice T.kA T.keys.length T.kc) ∧ w.cell? ⟨b, off + k * 7 + 6, none⟩ = some (.slice T.cA T.kids.length T.cc) := by
  rcases h with h0 | ⟨b, off, hA, hc⟩
  · have := PT.cellsL_at _ k T hk 0 (by omega)
    rw [h0] at this
    simp [PT.cells, JV.cells] at this
  · have g : ∀ j u, j < 7 → T.cells[j]? = some u → w.cell? ⟨b, off + k * 7 + j, none⟩ = some u := fun j u hj hu => by
      rw [Nat.add_assoc]
      exact hc _ _ ((PT.cellsL_at l k T hk j hj).trans hu)
    exact ⟨b, off, hA, g 0 _ (by omega) rfl, g 1 _ (by omega) rfl, g 2 _ (by omega) rfl, g 3 _ (by omega) rfl, g 4 _ (by omega) rfl, g 5 _ (by omega) rfl, g 6 _ (by omega) rfl⟩


theorem below_al2 {w w' : World} {o1 o2 : Obj} (h : Below ((w.alloc o1).alloc o2).heap.size ((w.alloc o1).alloc o2) w') : Below w.heap.size w w' :=
  ((Below.refl _ _).alloc (Nat.le_refl _) _ |>.alloc (by simp) _).trans (h.mono (by simp; omega))
theorem blk_al2 {w w' : World} {cs : Array Value} {t : TypeId} {o2 : Obj} (h : Below ((w.alloc (.cells cs t (0, 0))).alloc o2).heap.size ((w.alloc (.cells cs t (0, 0))).alloc o2) w') : Blk w' w.heap.size t cs :=
  ((Blk.new w t cs).alloc o2).below h (by simp; omega)
theorem boxes2 {w w' : World} {cs cs2 : Array Value} {t t2 : TypeId} (h : Below ((w.alloc (.cells cs t (0, 0))).alloc (.cells cs2 t2 (0, 0))).heap.size ((w.alloc (.cells cs t (0, 0))).alloc (.cells cs2 t2 (0, 0))) w') :
    Below w.heap.size w w' ∧ Blk w' w.heap.size t cs ∧ Blk w' (w.heap.size + 1) t2 cs2 ∧ w.heap.size + 2 ≤ w'.heap.size := by
  refine ⟨below_al2 h, ((Blk.new w t cs).alloc _).below h (by simp; omega), (Blk.newer (w.alloc (.cells cs t (0, 0))) t2 cs2 (g := w.heap.size + 1) (by simp)).below h (by simp), ?_⟩
  have := h.size
  simp at this
  omega
/-- This boolean, and nothing that was there has turned. -/
def BoolIs (w : World) (b : Bool) (e : Ending) (w' : World) : Prop := e = .returned (.bool b) ∧ Below w.heap.size w w'
end Go.Proofs.YtpeckpiidgkgoaaGreatDoor
/- bookref3.Parse: the contract. -/
namespace Go.Proofs.YtpeckpiidgkgoaaGreatDoor
open Go.RowKit
set_option linter.unusedVariables false
set_option linter.unusedSimpArgs false

theorem rtree_all (pb : Nat) (s : ByteArray) (hs : s.size ≤ 60000) (l : Nat) : l ≤ 400 → RTreeC pb s l := by
  induction l using Nat.strongRecOn with
  | ind l ih =>
    intro hl f pos w hf hat hr
    obtain ⟨f1, rfl⟩ : ∃ f1, f = f1 + 1 := ⟨f - 1, by omega⟩
    cases l with
    | zero => exact rtree_full pb s hs f1 pos hat w hr
    | succ l =>
      have hd : ∀ l1, l1 ≤ l → RTreeC pb s l1 := fun l1 h1 => ih l1 (by omega) (by omega)
      exact rtree_step pb s hs f1 l pos hat (by omega) (rkids_step pb s hs f1 l (by omega) (by omega) 5 125 (.inl ⟨rfl, rfl⟩) hd) (rkids_step pb s hs f1 l (by omega) (by omega) 6 93 (.inr ⟨rfl, rfl⟩) hd) w hr
/-- What Parse answers. -/
def RParseQ (s : ByteArray) (w : World) (e : Ending) (w' : World) : Prop :=
  (match parseF Num (toN s) with
   | .ok t => ∃ T : PT, e = .returned (.tuple #[T.value, .int .i64 0, .int .i64 0]) ∧ OwnJ 9 29 w' T ∧ T.own.Nodup ∧ (∀ b ∈ T.own, w.heap.size ≤ b) ∧ T.tree = t
   | .error (a, x) => (x = 2 ∨ x = 4) ∧ e = .returned (.tuple #[(leafP ⟨0, 0, ⟨#[]⟩, 0, 0⟩).value, .int .i64 a, .int .i64 x])) ∧ Below w.heap.size w w'
theorem results_rparse (tmps : Array Value) (w : World) (g2 : Nat) (c0 c1 c2 c3 c4 c5 c6 v3 v4 : Value) (hp2 : tmps.getD 2 undef = .pointer (some ⟨g2, 0, none⟩)) (hp3 : tmps.getD 3 undef = v3) (hp4 : tmps.getD 4 undef = v4)
    (h2 : Blk w g2 29 #[c0, c1, c2, c3, c4, c5, c6]) : (results Tryz.f4 tmps).run Tryz.prog w = .ok (.tuple #[.agg #[c0, c1, c2, c3, c4, c5, c6], v3, v4]) w := by
  have q2 : tmps[2]?.getD undef = .pointer (some ⟨g2, 0, none⟩) := by simpa using hp2
  have q3 : tmps[3]?.getD undef = v3 := by simpa using hp3
  have q4 : tmps[4]?.getD undef = v4 := by simpa using hp4
  obtain ⟨e0, e1, e2, e3, e4, e5, e6, _⟩ := res_cells h2
  simp [results, Tryz.results4, q2, q3, q4, asAddr, e0, e1, e2, e3, e4, e5, e6, go_sem, Result.andThen]
theorem rparse_good {s : ByteArray} {w W : World} {T : PT} (hP : parseF Num (toN s) = .ok T.tree) (hown : OwnJ 9 29 W T) (hnd : T.own.Nodup) (hlow : ∀ b ∈ T.own, w.heap.size < b) (hb : Below w.heap.size w W) (v : Value) (hv : v = T.value) (ob : Obj) (c0 c1 c2 c3 c4 c5 c6 : Value) :
    RParseQ s w (.returned (.tuple #[v, .int .i64 0, .int .i64 0])) ((((((((W.setCell ⟨w.heap.size, 0, none⟩ c0).setCell ⟨w.heap.size, 1, none⟩ c1).setCell ⟨w.heap.size, 2, none⟩ c2).setCell ⟨w.heap.size, 3, none⟩ c3).setCell ⟨w.heap.size, 4, none⟩ c4).setCell ⟨w.heap.size, 5, none⟩ c5).setCell ⟨w.heap.size, 6, none⟩ c6).alloc ob) := by
  subst hv
  unfold RParseQ
  rw [hP]
  have o := (only7 W w.heap.size c0 c1 c2 c3 c4 c5 c6 0 1 2 3 4 5 6).alloc ob
  refine ⟨⟨T, rfl, hown.only o (fun b hb e => by have := hlow b hb; have e : b = w.heap.size := e; omega), hnd, fun b hb => Nat.le_of_lt (hlow b hb), rfl⟩, hb.trans (o.below hb.size (fun q hq e => ?_))⟩
  have e : q = w.heap.size := e
  omega
theorem rparse_bad {s : ByteArray} {w W : World} {a : Nat} {x : Int} (hP : parseF Num (toN s) = .error (a, x)) (hx : x = 2 ∨ x = 4) (hb : Below w.heap.size w W) (c0 c1 c2 c3 c4 c5 c6 : Value) :
    RParseQ s w (.returned (.tuple #[.agg #[.int .i64 0, .int .i64 0, .string ⟨#[]⟩, .int .i64 0, .int .i64 0, .slice none 0 0, .slice none 0 0], .int .i64 a, .int .i64 x])) (((((((W.setCell ⟨w.heap.size, 0, none⟩ c0).setCell ⟨w.heap.size, 1, none⟩ c1).setCell ⟨w.heap.size, 2, none⟩ c2).setCell ⟨w.heap.size, 3, none⟩ c3).setCell ⟨w.heap.size, 4, none⟩ c4).setCell ⟨w.heap.size, 5, none⟩ c5).setCell ⟨w.heap.size, 6, none⟩ c6).drew := by
  unfold RParseQ
  rw [hP]
  refine ⟨⟨hx, rfl⟩, hb.trans (((only7 W w.heap.size c0 c1 c2 c3 c4 c5 c6 0 1 2 3 4 5 6).drew).below hb.size (fun q hq e => ?_))⟩
  have e : q = w.heap.size := e
  omega
set_option maxRecDepth 100000 in
set_option maxHeartbeats 4000000 in
theorem rparse_full (s : ByteArray) (hs : 60000 < s.size) (hm : s.size ≤ maxLen) (w : World) : Calls Tryz.prog 4 #[.string s] w (RParseQ s w) := by
  have hP : parseF Num (toN s) = .error (0, 4) := by unfold parseF; rw [toN_len, if_pos hs]
  have hsi : (60000 : Int) < (s.size : Int) := by omega
  have HP := Lib.hid hP
  clear hP
  go_enter Tryz.func4, Tryz.ntmps4
  go_wp2_with fail
  refine bodyPost_ret (results_rparse _ _ w.heap.size (.int .i64 0) (.int .i64 0) (.string ⟨#[]⟩) (.int .i64 0) (.int .i64 0) (.slice none 0 0) (.slice none 0 0) (.int .i64 0) (.int .i64 4) rfl rfl rfl (Blk.new w _ _)) rfl ?_
  unfold RParseQ
  rw [HP.out]
  exact ⟨⟨.inr rfl, rfl⟩, (Below.refl _ w).alloc (Nat.le_refl _) _⟩
set_option maxRecDepth 100000 in
set_option maxHeartbeats 4000000 in
theorem rparse_some (s : ByteArray) (hs : s.size ≤ 60000) (w : World) : Calls Tryz.prog 4 #[.string s] w (RParseQ s w) := by
  have hsi : ¬ (60000 : Int) < (s.size : Int) := by omega
  have HT := Lib.hid (fun w1 (hr : Rp w1 (w.heap.size + 1) s 0 0 0 0) => show Calls Tryz.prog 7 #[.pointer (some ⟨w.heap.size + 1, 0, none⟩)] w1 (RTreeQ (w.heap.size + 1) s (pT Num (toN s) 2000 0 400) w1) from rtree_all (w.heap.size + 1) s hs 400 (Nat.le_refl _) 2000 0 w1 (by omega) (Nat.zero_le _) hr)
  go_enter Tryz.func4, Tryz.ntmps4
  go_wp2_with fail
  refine calls_at (fun W => Rp W (w.heap.size + 1) s 0 0 0 0 ∧ Blk W w.heap.size 29 #[.int .i64 0, .int .i64 0, .string ⟨#[]⟩, .int .i64 0, .int .i64 0, .slice none 0 0, .slice none 0 0] ∧ Below w.heap.size w W ∧ w.heap.size + 2 ≤ W.heap.size) ⟨Blk.newer _ _ _ (by simp), (Blk.new w _ _).alloc _, ((Below.refl _ w).alloc (Nat.le_refl _) _).alloc (by simp) _, by simp⟩ ?_
  rintro W1 ⟨q1, q2, q3, q4⟩
  have H1 := Lib.hid (And.intro q1 (And.intro q2 (And.intro q3 q4)))
  clear q1 q2 q3 q4
  have HT := Lib.hid (HT.out W1 H1.out.1)
  cases hP : pT Num (toN s) 2000 0 400 with
  | bad a x =>
    have HF := Lib.hid (show parseF Num (toN s) = .error (a, x) from by unfold parseF; rw [toN_len, if_neg (by omega), hP])
    refine HT.out.mono ?_
    intro e w3 hq
    obtain ⟨hx, ⟨vk, vn, vs, vo, vp, vA, vn1, vc1, vB, vn2, vc2, rfl⟩, ⟨a4, t4, ha4, hr4⟩, ho4⟩ := hq.badd hP
    have H3 := Lib.hid (And.intro hr4 (And.intro (H1.out.2.1.only ho4 (by show w.heap.size ≠ w.heap.size + 1; omega)) (H1.out.2.2.1.trans (ho4.below H1.out.2.2.1.size (fun q hq e => by omega)))))
    obtain ⟨h0, h1, h2, h3, h4, hz⟩ := hr4.cells
    have hx3b : (x == 0) = false := by rw [beq_eq_false_iff_ne]; omega
    have hx3c : (x != 0) = true := by simp; omega
    have HX := Lib.hid hx
    have hlt := hr4.lt
    have hlt2 := H3.out.2.1.lt
    clear hq hr4 ho4 hx HT hP
    go_wp2_with fail
    refine wp_at (fun W => Rp W (w.heap.size + 1) s a4 t4 a x ∧ Blk W w.heap.size 29 #[.int .i64 0, .int .i64 0, .string ⟨#[]⟩, .int .i64 0, .int .i64 0, .slice none 0 0, .slice none 0 0] ∧ Below w.heap.size w W) ⟨Blk.alloc H3.out.1 _, Blk.alloc H3.out.2.1 _, H3.out.2.2.alloc (by omega) _⟩ ?_
    rintro W4 ⟨k1, k2, k3⟩
    clear h0 h1 h2 h3 h4 hz
    obtain ⟨h0, h1, h2, h3, h4, hz⟩ := k1.cells
    obtain ⟨r0, r1, r2, r3, r4, r5, r6, zr⟩ := res_cells k2
    have H4 := Lib.hid (And.intro k1 (And.intro k2 k3))
    clear k1 k2 k3 h0 h1 h2
    go_region_held3 (fun w' => w'.cell? ⟨w.heap.size + 1, 3, none⟩ = some (.int .i64 a) ∧ w'.cell? ⟨w.heap.size + 1, 4, none⟩ = some (.int .i64 x)) (first | go_keep) (first | fail)
    all_goals
      go_wp2_with fail
      refine bodyPost_ret (results_rparse _ _ w.heap.size (.int .i64 0) (.int .i64 0) (.string ⟨#[]⟩) (.int .i64 0) (.int .i64 0) (.slice none 0 0) (.slice none 0 0) (.int .i64 a) (.int .i64 x) rfl rfl rfl (Blk.drewN (blk7 (.int .i64 0) (.int .i64 0) (.string ⟨#[]⟩) (.int .i64 0) (.int .i64 0) (.slice none 0 0) (.slice none 0 0) H4.out.2.1) 1)) rfl ?_
      exact rparse_bad HF.out HX.out H4.out.2.2 _ _ _ _ _ _ _
  | ok t a l =>
    refine HT.out.mono ?_
    intro e w3 hq
    obtain ⟨T, rfl, htr, ha, hr4, hown, hnd, hlow, ho4⟩ := hq.okd hP
    have H3 := Lib.hid (And.intro hr4 (And.intro (H1.out.2.1.only ho4 (by show w.heap.size ≠ w.heap.size + 1; omega)) (H1.out.2.2.1.trans (ho4.below H1.out.2.2.1.size (fun q hq e => by omega)))))
    obtain ⟨h0, h1, h2, h3, h4, hz⟩ := hr4.cells
    have hlt := hr4.lt
    have hlt2 := H3.out.2.1.lt
    have hai : (a : Int) ≤ 60000 := by omega
    by_cases hlt3 : a < s.size
    · have hlt3i : (a : Int) < (s.size : Int) := by omega
      have HF := Lib.hid (show parseF Num (toN s) = .error (a, 2) from by unfold parseF; rw [toN_len, if_neg (by omega), hP]; simp only; rw [if_pos hlt3])
      obtain ⟨t4, ht4⟩ : ∃ t4 : Int, 400 - (l : Int) = t4 := ⟨_, rfl⟩
      rw [ht4] at H3
      have hz3 : ∀ o, Rp (w3.alloc o) (w.heap.size + 1) s a t4 0 0 ∧ Blk (w3.alloc o) w.heap.size 29 #[.int .i64 0, .int .i64 0, .string ⟨#[]⟩, .int .i64 0, .int .i64 0, .slice none 0 0, .slice none 0 0] ∧ Below w.heap.size w (w3.alloc o) := fun o => ⟨Blk.alloc H3.out.1 o, Blk.alloc H3.out.2.1 o, H3.out.2.2.alloc (by omega) o⟩
      have HZ3 := Lib.hid hz3
      clear hq hr4 ho4 HT hP hown hnd hlow htr ht4 hz3
      go_wp2_with fail
      refine calls_at (fun W => Rp W (w.heap.size + 1) s a t4 0 0 ∧ Blk W w.heap.size 29 #[.int .i64 0, .int .i64 0, .string ⟨#[]⟩, .int .i64 0, .int .i64 0, .slice none 0 0, .slice none 0 0] ∧ Below w.heap.size w W) (HZ3.out _) ?_
      rintro W5 ⟨k1, k2, k3⟩
      have H5 := Lib.hid (And.intro k1 (And.intro k2 k3))
      clear k1 k2 k3 h0 h1 h2 h3 h4 hz
      refine (rfail_set W5 (w.heap.size + 1) s a t4 a 2 H5.out.1).mono ?_
      rintro e W6 ⟨rfl, k1, ho⟩
      have k2 := H5.out.2.1.only ho (by show w.heap.size ≠ w.heap.size + 1; omega)
      have k3 := H5.out.2.2.trans (ho.below H5.out.2.2.size (fun q hq e => by omega))
      obtain ⟨h0, h1, h2, h3, h4, hz⟩ := k1.cells
      obtain ⟨r0, r1, r2, r3, r4, r5, r6, zr⟩ := res_cells k2
      have H4 := Lib.hid (And.intro k1 (And.intro k2 k3))
      clear k1 k2 k3 h0 h1 h2 ho
      go_wp2_with fail
      go_region_held3 (fun w' => w'.cell? ⟨w.heap.size + 1, 3, none⟩ = some (.int .i64 a) ∧ w'.cell? ⟨w.heap.size + 1, 4, none⟩ = some (.int .i64 2)) (first | go_keep) (first | fail)
      all_goals
        go_wp2_with fail
        refine bodyPost_ret (results_rparse _ _ w.heap.size (.int .i64 0) (.int .i64 0) (.string ⟨#[]⟩) (.int .i64 0) (.int .i64 0) (.slice none 0 0) (.slice none 0 0) (.int .i64 a) (.int .i64 2) rfl rfl rfl (Blk.drewN (blk7 (.int .i64 0) (.int .i64 0) (.string ⟨#[]⟩) (.int .i64 0) (.int .i64 0) (.slice none 0 0) (.slice none 0 0) H4.out.2.1) 1)) rfl ?_
        exact rparse_bad HF.out (.inl rfl) H4.out.2.2 _ _ _ _ _ _ _
    · have hlt3i : ¬ (a : Int) < (s.size : Int) := by omega
      have HF := Lib.hid (show parseF Num (toN s) = .ok T.tree from by unfold parseF; rw [toN_len, if_neg (by omega), hP, htr]; simp only; rw [if_neg hlt3])
      obtain ⟨t4, ht4⟩ : ∃ t4 : Int, 400 - (l : Int) = t4 := ⟨_, rfl⟩
      have HT4 := Lib.hid (And.intro hown (And.intro hnd (fun b hb => show w.heap.size < b from by have := hlow b hb; have := H1.out.2.2.2; omega)))
      obtain ⟨r0, r1, r2, r3, r4, r5, r6, zr⟩ := res_cells H3.out.2.1
      rw [ht4] at h2
      clear hq hr4 ho4 HT hP hown hnd hlow htr ht4
      go_wp2_with fail
      refine bodyPost_ret (results_rparse _ _ w.heap.size (.int .i64 T.val.k) (.int .i64 T.val.n) (.string T.val.s) (.int .i64 T.val.o) (.int .i64 T.val.p) (.slice T.kA T.keys.length T.kc) (.slice T.cA T.kids.length T.cc) (.int .i64 0) (.int .i64 0) rfl rfl rfl (Blk.alloc (blk7 (.int .i64 T.val.k) (.int .i64 T.val.n) (.string T.val.s) (.int .i64 T.val.o) (.int .i64 T.val.p) (.slice T.kA T.keys.length T.kc) (.slice T.cA T.kids.length T.cc) H3.out.2.1) _)) rfl ?_
      exact rparse_good HF.out HT4.out.1 HT4.out.2.1 HT4.out.2.2 H3.out.2.2 _ rfl _ _ _ _ _ _ _ _
theorem rparse_any (s : ByteArray) (hm : s.size ≤ maxLen) (w : World) : Calls Tryz.prog 4 #[.string s] w (RParseQ s w) := by
  by_cases hs : s.size ≤ 60000
  · exact rparse_some s hs w
  · exact rparse_full s (by omega) hm w
end Go.Proofs.YtpeckpiidgkgoaaGreatDoor
