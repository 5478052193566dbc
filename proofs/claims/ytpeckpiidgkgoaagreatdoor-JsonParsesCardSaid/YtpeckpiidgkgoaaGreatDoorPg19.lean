/- ParseAny, RefReader. -/
import Derived.Test.YtpeckpiidgkgoaaGreatDoorPg18
import Derived.Test.YtpeckpiidgkgoaaGreatDoorPg3
import Derived.Test.YtpeckpiidgkgoaaGreatDoorPg4
import Derived.Test.YtpeckpiidgkgoaaGreatDoorPg2
import Derived.Test.YtpeckpiidgkgoaaGreatDoorPg1
import Derived.BigQuiet
import Derived.Lib.Strings
import Derived.Lib.Hide
import Derived.WalkLawsBesides
/- json.Parse: the contract. -/
namespace Go.Proofs.YtpeckpiidgkgoaaGreatDoor
open Go.RowKit
set_option linter.unusedVariables false
set_option linter.unusedSimpArgs false

/-- What Parse answers. -/
def ParseQ (s : ByteArray) (w : World) (e : Ending) (w' : World) : Prop :=
  (match parseF Num (toN s) with
   | .ok t => ∃ T : PT, e = .returned (.tuple #[T.value, .int .i64 0, .nilIface]) ∧ OwnJ 9 29 w' T ∧ T.own.Nodup ∧ (∀ b ∈ T.own, w.heap.size ≤ b) ∧ T.tree = t
   | .error (a, x) => e = .returned (.tuple #[(leafP ⟨0, 0, ⟨#[]⟩, 0, 0⟩).value, .int .i64 a, .iface 43 (.int .i64 x)])) ∧ Below w.heap.size w w'
theorem results_parse (tmps : Array Value) (w : World) (g2 g3 g4 : Nat) (c0 c1 c2 c3 c4 c5 c6 v3 v4 : Value) (hp2 : tmps.getD 2 undef = .pointer (some ⟨g2, 0, none⟩)) (hp3 : tmps.getD 3 undef = .pointer (some ⟨g3, 0, none⟩)) (hp4 : tmps.getD 4 undef = .pointer (some ⟨g4, 0, none⟩))
    (h2 : Blk w g2 29 #[c0, c1, c2, c3, c4, c5, c6]) (h3 : w.cell? ⟨g3, 0, none⟩ = some v3) (h4 : w.cell? ⟨g4, 0, none⟩ = some v4) : (results Tryz.f5 tmps).run Tryz.prog w = .ok (.tuple #[.agg #[c0, c1, c2, c3, c4, c5, c6], v3, v4]) w := by
  have q2 : tmps[2]?.getD undef = .pointer (some ⟨g2, 0, none⟩) := by simpa using hp2
  have q3 : tmps[3]?.getD undef = .pointer (some ⟨g3, 0, none⟩) := by simpa using hp3
  have q4 : tmps[4]?.getD undef = .pointer (some ⟨g4, 0, none⟩) := by simpa using hp4
  obtain ⟨e0, e1, e2, e3, e4, e5, e6, _⟩ := res_cells h2
  simp [results, Tryz.results5, q2, q3, q4, asAddr, e0, e1, e2, e3, e4, e5, e6, go_sem, h3, h4, Result.andThen]
set_option maxRecDepth 100000 in
set_option maxHeartbeats 4000000 in
theorem parse_full (s : ByteArray) (hs : 60000 < s.size) (hm : s.size ≤ maxLen) (w : World) : Calls Tryz.prog 5 #[.string s] w (ParseQ s w) := by
  have hP : parseF Num (toN s) = .error (0, 4) := by unfold parseF; rw [toN_len, if_pos hs]
  have hsi : (60000 : Int) < (s.size : Int) := by omega
  have HP := Lib.hid hP
  clear hP
  have hmf : ∀ (fn : Fn) (first cap : Array Value) (w : World), (Instr.makeFunc fn first cap).run Tryz.prog w = .ok (.func fn first cap) w := fun _ _ _ _ => rfl
  go_enter_defers Tryz.func5, Tryz.ntmps5
  go_wp2
  refine Exists.intro _ (And.intro (results_parse _ _ w.heap.size (w.heap.size + 1) (w.heap.size + 1 + 1) _ _ _ _ _ _ _ _ _ rfl rfl rfl (((Blk.new w _ _).alloc _).alloc _) (Blk.cell ((Blk.newer (w.alloc (.cells #[.int .i64 0, .int .i64 0, .string ⟨#[]⟩, .int .i64 0, .int .i64 0, .slice none 0 0, .slice none 0 0] 29)) 3 #[.int .i64 0] (g := w.heap.size + 1) (by simp)).alloc _) 0) (Blk.cell (Blk.newer _ 33 #[.iface 43 (.int .i64 4)] (g := w.heap.size + 1 + 1) (by simp)) 0)) ?_)
  unfold ParseQ
  rw [HP.out]
  exact ⟨rfl, (((Below.refl _ w).alloc (Nat.le_refl _) _).alloc (by simp) _).alloc (by simp; omega) _⟩
theorem boxes4 (w : World) (s : ByteArray) : (fun W => Blk W w.heap.size 29 #[.int .i64 0, .int .i64 0, .string ⟨#[]⟩, .int .i64 0, .int .i64 0, .slice none 0 0, .slice none 0 0] ∧ Blk W (w.heap.size + 1) 3 #[.int .i64 0] ∧ Blk W (w.heap.size + 1 + 1) 33 #[.nilIface] ∧ Rd W (w.heap.size + 3) s 0 (400 : Nat) ∧ Below w.heap.size w W) ((((w.alloc (.cells #[.int .i64 0, .int .i64 0, .string ⟨#[]⟩, .int .i64 0, .int .i64 0, .slice none 0 0, .slice none 0 0] 29)).alloc (.cells #[.int .i64 0] 3)).alloc (.cells #[.nilIface] 33)).alloc (.cells #[.string s, .int .i64 0, .int .i64 400] 49)) :=
  ⟨(((Blk.new w _ _).alloc _).alloc _).alloc _, ((Blk.newer _ _ _ (by simp)).alloc _).alloc _, (Blk.newer _ _ _ (by simp)).alloc _, Blk.newer _ _ _ (by simp), ((((Below.refl _ w).alloc (Nat.le_refl _) _).alloc (by simp) _).alloc (by simp; omega) _).alloc (by simp; omega) _⟩
set_option maxRecDepth 100000 in
set_option maxHeartbeats 4000000 in
theorem parse_some (s : ByteArray) (hs : s.size ≤ 60000) (w : World) (hp : Pow10 w) (he : ErrAt w) : Calls Tryz.prog 5 #[.string s] w (ParseQ s w) := by
  have hsi : ¬ (60000 : Int) < (s.size : Int) := by omega
  have hmf : ∀ (fn : Fn) (first cap : Array Value) (w : World), (Instr.makeFunc fn first cap).run Tryz.prog w = .ok (.func fn first cap) w := fun _ _ _ _ => rfl
  have HT := Lib.hid (fun w1 (hb : Below w.heap.size w w1) (hr : Rd w1 (w.heap.size + 3) s 0 (400 : Nat)) => tree_all w (w.heap.size + 3) s hs 400 (Nat.le_refl _) 2000 0 w1 (by omega) (Nat.zero_le _) ⟨hb, by omega, hp, he⟩ hr)
  clear hp he
  cases hP : pT Num (toN s) 2000 0 400 with
  | bad a x =>
    go_enter_defers Tryz.func5, Tryz.ntmps5
    go_wp2_with (go_at_call 10; refine calls_at (fun W => Blk W w.heap.size 29 #[.int .i64 0, .int .i64 0, .string ⟨#[]⟩, .int .i64 0, .int .i64 0, .slice none 0 0, .slice none 0 0] ∧ Blk W (w.heap.size + 1) 3 #[.int .i64 0] ∧ Blk W (w.heap.size + 1 + 1) 33 #[.nilIface] ∧ Rd W (w.heap.size + 3) s 0 (400 : Nat) ∧ Below w.heap.size w W) (boxes4 w s) ?_; rintro W ⟨k2, k3, k4, kr, kb⟩; have HT1 := HT.out W kb kr; rw [hP] at HT1; refine HT1.mono ?_; intro e w1 hq; obtain ⟨rfl, ho⟩ := hq.badd rfl)
    have HD := Lib.hid (And.intro (k2.only ho (by show w.heap.size ≠ w.heap.size + 3; omega)) (And.intro (k3.only ho (by show w.heap.size + 1 ≠ w.heap.size + 3; omega)) (And.intro (k4.only ho (by show w.heap.size + 1 + 1 ≠ w.heap.size + 3; omega)) (kb.trans (ho.below kb.size (fun q hq e => by omega))))))
    have HF := Lib.hid (show parseF Num (toN s) = .error (a, x) from by unfold parseF; rw [toN_len, if_neg (by omega), hP])
    refine leaves_cons (f := 9) (args := #[.pointer (some ⟨w.heap.size, 0, none⟩), .pointer (some ⟨w.heap.size + 1, 0, none⟩), .pointer (some ⟨w.heap.size + 1 + 1, 0, none⟩)]) (by simp) (by simp [go_sem]) ?_
    refine (catch_fault w.heap.size (w.heap.size + 1) (w.heap.size + 1 + 1) a x w1 _ _ _ _ _ _ _ _ _ HD.out.1 HD.out.2.1 HD.out.2.2.1 (by omega) (by omega) (by omega)).mono ?_
    rintro e u' w2 ⟨rfl, rfl, c2, c3, c4, co⟩
    refine Exists.intro _ (And.intro (results_parse _ _ w.heap.size (w.heap.size + 1) (w.heap.size + 1 + 1) _ _ _ _ _ _ _ _ _ rfl rfl rfl c2 (c3.cell 0) (c4.cell 0)) ?_)
    unfold ParseQ
    rw [HF.out]
    exact ⟨rfl, HD.out.2.2.2.trans (co.below HD.out.2.2.2.size (fun q hq e => by omega))⟩
  | ok t a l =>
    by_cases hlt : a < s.size
    · have hlti : (a : Int) < (s.size : Int) := by omega
      have HF := Lib.hid (show parseF Num (toN s) = .error (a, 2) from by unfold parseF; rw [toN_len, if_neg (by omega), hP]; simp only; rw [if_pos hlt])
      go_enter_defers Tryz.func5, Tryz.ntmps5
      go_wp2_with (first
        | (go_at_call 10; refine calls_at (fun W => Blk W w.heap.size 29 #[.int .i64 0, .int .i64 0, .string ⟨#[]⟩, .int .i64 0, .int .i64 0, .slice none 0 0, .slice none 0 0] ∧ Blk W (w.heap.size + 1) 3 #[.int .i64 0] ∧ Blk W (w.heap.size + 1 + 1) 33 #[.nilIface] ∧ Rd W (w.heap.size + 3) s 0 (400 : Nat) ∧ Below w.heap.size w W) (boxes4 w s) ?_; rintro W ⟨k2, k3, k4, kr, kb⟩; have HT1 := HT.out W kb kr; rw [hP] at HT1; refine HT1.mono ?_; intro e w1 hq; obtain ⟨T, rfl, rfl, ha2, hr4, hown, hnd, hlow, ho⟩ := hq.okd rfl; have hb2 := k2.only ho (by show w.heap.size ≠ w.heap.size + 3; omega); obtain ⟨r0, r1, r2, r3, r4, r5, r6, zr⟩ := res_cells hb2; obtain ⟨j0, j1, j2, y1, y2⟩ := hr4.cells; have HB := Lib.hid (And.intro hb2 (And.intro (k3.only ho (by show w.heap.size + 1 ≠ w.heap.size + 3; omega)) (And.intro (k4.only ho (by show w.heap.size + 1 + 1 ≠ w.heap.size + 3; omega)) (And.intro (And.intro hown (And.intro hnd hlow)) (kb.trans (ho.below kb.size (fun q hq e => by omega))))))); clear hb2 ha2 hr4 hown hnd hlow ho k2 k3 k4 kr kb HT1 hq)
        | (go_at_call 11; refine (fail_any _ _ a 2).mono ?_; unfold faultE; rintro e w7 ⟨rfl, rfl⟩))
      have o := only7 w1 w.heap.size (.int .i64 T.val.k) (.int .i64 T.val.n) (.string T.val.s) (.int .i64 T.val.o) (.int .i64 T.val.p) (.slice T.kA T.keys.length T.kc) (.slice T.cA T.kids.length T.cc) 0 1 2 3 4 5 6
      have HD := Lib.hid (And.intro (blk7 (.int .i64 T.val.k) (.int .i64 T.val.n) (.string T.val.s) (.int .i64 T.val.o) (.int .i64 T.val.p) (.slice T.kA T.keys.length T.kc) (.slice T.cA T.kids.length T.cc) HB.out.1) (And.intro (HB.out.2.1.only o (by show w.heap.size + 1 ≠ w.heap.size; omega)) (And.intro (HB.out.2.2.1.only o (by show w.heap.size + 1 + 1 ≠ w.heap.size; omega)) (HB.out.2.2.2.2.trans (o.below HB.out.2.2.2.2.size (fun q hq e => by omega))))))
      refine leaves_cons (f := 9) (args := #[.pointer (some ⟨w.heap.size, 0, none⟩), .pointer (some ⟨w.heap.size + 1, 0, none⟩), .pointer (some ⟨w.heap.size + 1 + 1, 0, none⟩)]) (by simp) (by simp [go_sem]) ?_
      refine (catch_fault w.heap.size (w.heap.size + 1) (w.heap.size + 1 + 1) a 2 _ _ _ _ _ _ _ _ _ _ HD.out.1 HD.out.2.1 HD.out.2.2.1 (by omega) (by omega) (by omega)).mono ?_
      rintro e u' w2 ⟨rfl, rfl, c2, c3, c4, co⟩
      refine Exists.intro _ (And.intro (results_parse _ _ w.heap.size (w.heap.size + 1) (w.heap.size + 1 + 1) _ _ _ _ _ _ _ _ _ rfl rfl rfl c2 (c3.cell 0) (c4.cell 0)) ?_)
      unfold ParseQ
      rw [HF.out]
      exact ⟨rfl, HD.out.2.2.2.trans (co.below HD.out.2.2.2.size (fun q hq e => by omega))⟩
    · have hlti : ¬ (a : Int) < (s.size : Int) := by omega
      have HF := Lib.hid (show parseF Num (toN s) = .ok t from by unfold parseF; rw [toN_len, if_neg (by omega), hP]; simp only; rw [if_neg hlt])
      go_enter_defers Tryz.func5, Tryz.ntmps5
      go_wp2_with (go_at_call 10; refine calls_at (fun W => Blk W w.heap.size 29 #[.int .i64 0, .int .i64 0, .string ⟨#[]⟩, .int .i64 0, .int .i64 0, .slice none 0 0, .slice none 0 0] ∧ Blk W (w.heap.size + 1) 3 #[.int .i64 0] ∧ Blk W (w.heap.size + 1 + 1) 33 #[.nilIface] ∧ Rd W (w.heap.size + 3) s 0 (400 : Nat) ∧ Below w.heap.size w W) (boxes4 w s) ?_; rintro W ⟨k2, k3, k4, kr, kb⟩; have HT1 := HT.out W kb kr; rw [hP] at HT1; refine HT1.mono ?_; intro e w1 hq; obtain ⟨T, rfl, rfl, ha2, hr4, hown, hnd, hlow, ho⟩ := hq.okd rfl; have hb2 := k2.only ho (by show w.heap.size ≠ w.heap.size + 3; omega); obtain ⟨r0, r1, r2, r3, r4, r5, r6, zr⟩ := res_cells hb2; obtain ⟨j0, j1, j2, y1, y2⟩ := hr4.cells; have hb3 := k3.only ho (by show w.heap.size + 1 ≠ w.heap.size + 3; omega); have hb4 := k4.only ho (by show w.heap.size + 1 + 1 ≠ w.heap.size + 3; omega); have u0 := hb3.cell 0; have z3 := hb3.frozen 0; have u1 := hb4.cell 0; have z4 := hb4.frozen 0; simp only [List.getElem?_toArray, List.getElem?_cons_zero] at u0 u1; have HB := Lib.hid (And.intro hb2 (And.intro hb3 (And.intro hb4 (And.intro (And.intro hown (And.intro hnd hlow)) (And.intro (kb.trans (ho.below kb.size (fun q hq e => by omega))) (Blk.lt kr)))))); clear hb2 hb3 hb4 ha2 hr4 hown hnd hlow ho k2 k3 k4 kr kb HT1 hq)
      have o12 := (only7 w1 w.heap.size (.int .i64 T.val.k) (.int .i64 T.val.n) (.string T.val.s) (.int .i64 T.val.o) (.int .i64 T.val.p) (.slice T.kA T.keys.length T.kc) (.slice T.cA T.kids.length T.cc) 0 1 2 3 4 5 6).trans (only7 _ w.heap.size (.int .i64 T.val.k) (.int .i64 T.val.n) (.string T.val.s) (.int .i64 T.val.o) (.int .i64 T.val.p) (.slice T.kA T.keys.length T.kc) (.slice T.cA T.kids.length T.cc) 0 1 2 3 4 5 6)
      have b12 := blk7 (.int .i64 T.val.k) (.int .i64 T.val.n) (.string T.val.s) (.int .i64 T.val.o) (.int .i64 T.val.p) (.slice T.kA T.keys.length T.kc) (.slice T.cA T.kids.length T.cc) (blk7 (.int .i64 T.val.k) (.int .i64 T.val.n) (.string T.val.s) (.int .i64 T.val.o) (.int .i64 T.val.p) (.slice T.kA T.keys.length T.kc) (.slice T.cA T.kids.length T.cc) HB.out.1)
      have b3 := HB.out.2.1.only o12 (by show w.heap.size + 1 ≠ w.heap.size; omega)
      have b4 := HB.out.2.2.1.only o12 (by show w.heap.size + 1 + 1 ≠ w.heap.size; omega)
      have c3 := Blk.setc (v := .int .i64 0) b3
      have c4 := b4.only ((Only.refl (· = w.heap.size + 1) _).setCell (p := ⟨w.heap.size + 1, 0, none⟩) rfl (.int .i64 0)) (by show w.heap.size + 1 + 1 ≠ w.heap.size + 1; omega)
      have c2 := b12.only ((Only.refl (· = w.heap.size + 1) _).setCell (p := ⟨w.heap.size + 1, 0, none⟩) rfl (.int .i64 0)) (by show w.heap.size ≠ w.heap.size + 1; omega)
      have d2 := c2.only ((Only.refl (· = w.heap.size + 1 + 1) _).setCell (p := ⟨w.heap.size + 1 + 1, 0, none⟩) rfl .nilIface) (by show w.heap.size ≠ w.heap.size + 1 + 1; omega)
      have d3 := c3.only ((Only.refl (· = w.heap.size + 1 + 1) _).setCell (p := ⟨w.heap.size + 1 + 1, 0, none⟩) rfl .nilIface) (by show w.heap.size + 1 ≠ w.heap.size + 1 + 1; omega)
      have d4 := Blk.setc (v := .nilIface) c4
      have o := ((o12.mono (T := fun k => k = w.heap.size ∨ k = w.heap.size + 1 ∨ k = w.heap.size + 1 + 1) (fun k _ hk => .inl hk)).setCell (p := ⟨w.heap.size + 1, 0, none⟩) (.inr (.inl rfl)) (.int .i64 0)).setCell (p := ⟨w.heap.size + 1 + 1, 0, none⟩) (.inr (.inr rfl)) .nilIface
      refine leaves_cons (f := 9) (args := #[.pointer (some ⟨w.heap.size, 0, none⟩), .pointer (some ⟨w.heap.size + 1, 0, none⟩), .pointer (some ⟨w.heap.size + 1 + 1, 0, none⟩)]) (by simp) (by simp [go_sem]) ?_
      refine (catch_idle w.heap.size (w.heap.size + 1) (w.heap.size + 1 + 1) _).mono ?_
      rintro e u' w2 ⟨rfl, rfl, rfl⟩
      refine Exists.intro _ (And.intro (results_parse _ _ w.heap.size (w.heap.size + 1) (w.heap.size + 1 + 1) _ _ _ _ _ _ _ _ _ rfl rfl rfl d2 (d3.cell 0) (d4.cell 0)) ?_)
      unfold ParseQ
      rw [HF.out]
      have hw := HB.out.2.2.2.2.2
      have hlo := HB.out.2.2.2.1.2.2
      exact ⟨⟨T, rfl, HB.out.2.2.2.1.1.only o (fun b hb e => by have := hlo b hb; omega), HB.out.2.2.2.1.2.1, fun b hb => by have := hlo b hb; omega, rfl⟩, HB.out.2.2.2.2.1.trans (o.below HB.out.2.2.2.2.1.size (fun q hq e => by omega))⟩
theorem parse_any (s : ByteArray) (hm : s.size ≤ maxLen) (w : World) (hp : Pow10 w) (he : ErrAt w) : Calls Tryz.prog 5 #[.string s] w (ParseQ s w) := by
  by_cases hs : s.size ≤ 60000
  · exact parse_some s hs w hp he
  · exact parse_full s (by omega) hm w
end Go.Proofs.YtpeckpiidgkgoaaGreatDoor
/- The reference's reader: its small methods. -/
namespace Go.Proofs.YtpeckpiidgkgoaaGreatDoor
open Go.RowKit
set_option linter.unusedVariables false
set_option linter.unusedSimpArgs false

/-- The reference's reader: its text, its place, how many trees; where it is wrong, and how. -/
def Rp (w : World) (pb : Nat) (s : ByteArray) (at_ : Nat) (tr wr bad : Int) : Prop := Blk w pb 40 #[.string s, .int .i64 at_, .int .i64 tr, .int .i64 wr, .int .i64 bad]
theorem Rp.cells {w : World} {pb : Nat} {s : ByteArray} {at_ : Nat} {tr wr bad : Int} (h : Rp w pb s at_ tr wr bad) : w.cell? ⟨pb, 0, none⟩ = some (.string s) ∧ w.cell? ⟨pb, 1, none⟩ = some (.int .i64 at_) ∧ w.cell? ⟨pb, 2, none⟩ = some (.int .i64 tr) ∧ w.cell? ⟨pb, 3, none⟩ = some (.int .i64 wr) ∧ w.cell? ⟨pb, 4, none⟩ = some (.int .i64 bad) ∧ ∀ i, w.frozen? ⟨pb, i, none⟩ = false :=
  ⟨Blk.cell h 0, Blk.cell h 1, Blk.cell h 2, Blk.cell h 3, Blk.cell h 4, Blk.frozen h⟩
theorem Rp.below {w w' : World} {pb : Nat} {s : ByteArray} {at_ : Nat} {tr wr bad : Int} (h : Rp w pb s at_ tr wr bad) (hb : Below w.heap.size w w') : Rp w' pb s at_ tr wr bad := Blk.below h hb (Blk.lt h)
theorem Rp.drewN {w : World} {pb : Nat} {s : ByteArray} {at_ : Nat} {tr wr bad : Int} (h : Rp w pb s at_ tr wr bad) (n : Nat) : Rp (w.drewN n) pb s at_ tr wr bad := Blk.drewN h n
theorem Rp.at {w : World} {pb : Nat} {s : ByteArray} {at_ : Nat} {tr wr bad : Int} (h : Rp w pb s at_ tr wr bad) {m : Nat} : Rp (w.setCell ⟨pb, 1, none⟩ (.int .i64 ((at_ : Int) + m))) pb s (at_ + m) tr wr bad := by
  have := Blk.set_ h 1 (.int .i64 ((at_ : Int) + m))
  unfold Rp
  rw [show ((at_ + m : Nat) : Int) = (at_ : Int) + m from by omega]
  exact this
theorem Only.one {w : World} (pb : Nat) (j : Nat) (u : Value) : Only (fun k => k = pb) w (w.setCell ⟨pb, j, none⟩ u) := Only.setCell (S := fun k => k = pb) (Only.refl _ w) (p := ⟨pb, j, none⟩) rfl u
set_option maxRecDepth 100000 in
set_option maxHeartbeats 1000000 in
theorem rfail_any (w : World) (pb : Nat) (s : ByteArray) (at_ : Nat) (tr wr bad : Int) (a : Nat) (x : Int) (h : Rp w pb s at_ tr wr bad) :
    Calls Tryz.prog 8 #[.pointer (some ⟨pb, 0, none⟩), .int .i64 a, .int .i64 x] w fun e w' => e = .returned (.tuple #[]) ∧ Rp w' pb s at_ tr (if bad = 0 then (a : Int) else wr) (if bad = 0 then x else bad) ∧ Only (fun k => k = pb) w w' := by
  obtain ⟨h0, h1, h2, h3, h4, hz⟩ := h.cells
  have HR := Lib.hid h
  clear h
  by_cases hb : bad = 0
  · subst hb
    go_enter Tryz.func8, Tryz.ntmps8
    go_wp2_with fail
    go_end0
    refine ⟨rfl, ?_, ((Only.one pb 4 _).trans (Only.one pb 3 _))⟩
    exact Blk.set_ (Blk.set_ HR.out 4 (.int .i64 x)) 3 (.int .i64 a)
  · have hb1 : (bad == 0) = false := by simpa using hb
    go_enter Tryz.func8, Tryz.ntmps8
    go_wp2_with fail
    go_end0
    exact ⟨rfl, HR.out, Only.refl _ _⟩
theorem prefB_take (p l : List Nat) : prefB p l = true ↔ l.take p.length = p := by
  unfold prefB
  rw [List.isPrefixOf_iff_prefix, List.prefix_iff_eq_take]
  exact ⟨fun h => h.symm, fun h => h.symm⟩
theorem toN_slice (s : ByteArray) (i m : Nat) : toN (s.extract i (i + m)) = ((toN s).drop i).take m := by
  unfold toN
  rw [Lib.extract_data, ← List.map_drop, ← List.map_take]
  congr 1
  rw [show i + m - i = m from by omega]
theorem toN_inj {a b : ByteArray} (h : toN a = toN b) : a = b := by
  have := congrArg ofN h
  rwa [ofN_toN, ofN_toN] at this
/-- What is answers. -/
def isB (s c : ByteArray) (at_ : Nat) : Bool := prefB (toN c) ((toN s).drop at_)
theorem isB_long {s c : ByteArray} {at_ : Nat} (hat : at_ ≤ s.size) (h : ¬ at_ + c.size ≤ s.size) : isB s c at_ = false := by
  cases hb : isB s c at_ with
  | false => rfl
  | true =>
    exfalso
    have := congrArg List.length ((prefB_take _ _).1 hb)
    rw [List.length_take, List.length_drop, toN_len, toN_len] at this
    omega
theorem isB_eq {s c : ByteArray} {at_ : Nat} (h : at_ + c.size ≤ s.size) : ((s.extract at_ (at_ + c.size)).toList == c.toList) = isB s c at_ := by
  have e : (s.extract at_ (at_ + c.size)).toList = c.toList ↔ isB s c at_ = true := by
    unfold isB
    rw [prefB_take, toN_len, ← toN_slice]
    constructor
    · intro h
      rw [ByteArray.toList_eq, ByteArray.toList_eq] at h
      unfold toN
      rw [h]
    · intro h
      rw [toN_inj h]
  cases hb : isB s c at_ with
  | true => rw [beq_iff_eq]; exact e.2 hb
  | false => rw [beq_eq_false_iff_ne]; intro h; rw [e.1 h] at hb; cases hb
set_option maxRecDepth 100000 in
set_option maxHeartbeats 1000000 in
theorem is_any (w : World) (pb : Nat) (s : ByteArray) (hs : s.size ≤ 60000) (at_ : Nat) (hat : at_ ≤ s.size) (tr wr bad : Int) (c : ByteArray) (hc : c.size ≤ 100) (h : Rp w pb s at_ tr wr bad) :
    Calls Tryz.prog 14 #[.pointer (some ⟨pb, 0, none⟩), .string c] w fun e w' => e = .returned (.bool (isB s c at_)) ∧ Rp w' pb s (if isB s c at_ then at_ + c.size else at_) tr wr bad ∧ Only (fun k => k = pb) w w' := by
  obtain ⟨h0, h1, h2, h3, h4, hz⟩ := h.cells
  have HR := Lib.hid h
  clear h
  by_cases hl : at_ + c.size ≤ s.size
  · have hli : (at_ : Int) + (c.size : Int) ≤ (s.size : Int) := by omega
    have hat1 : (at_ : Int) ≤ (at_ : Int) + (c.size : Int) := by omega
    have hq := isB_eq hl
    obtain ⟨b, hb⟩ : ∃ b, isB s c at_ = b := ⟨_, rfl⟩
    rw [hb] at hq ⊢
    obtain ⟨m, hm⟩ : ∃ m, at_ + c.size = m := ⟨_, rfl⟩
    rw [hm] at hq
    have hmi : (at_ : Int) + (c.size : Int) = (m : Int) := by omega
    have hms : (m : Int) ≤ (s.size : Int) := by omega
    have ham : (at_ : Int) ≤ (m : Int) := by omega
    have HM := Lib.hid hm
    clear hb hm hl
    go_enter Tryz.func14, Tryz.ntmps14
    cases b with
    | true =>
      go_wp2_with fail
      go_big_quiet (fail)
      go_wp2_with fail
      go_ret
      refine ⟨rfl, ?_, (Only.drewN (Only.refl (fun k => k = pb) w) _).setCell (p := ⟨pb, 1, none⟩) rfl _⟩
      rw [HM.out]
      exact Blk.set_ (HR.out.drewN _) 1 (.int .i64 m)
    | false =>
      go_wp2_with fail
      go_big_quiet (fail)
      go_wp2_with fail
      go_ret
      exact ⟨rfl, HR.out.drewN _, Only.drewN (Only.refl _ w) _⟩
  · have hli : ¬ (at_ : Int) + (c.size : Int) ≤ (s.size : Int) := by omega
    rw [isB_long hat hl]
    clear hl
    go_enter Tryz.func14, Tryz.ntmps14
    go_wp2_with fail
    have hld : decide ((at_ : Int) + (c.size : Int) ≤ (s.size : Int)) = false := by simpa using hli
    go_big_quiet (fail)
    go_wp2_with fail
    go_ret
    exact ⟨rfl, HR.out.drewN _, Only.drewN (Only.refl _ w) _⟩
end Go.Proofs.YtpeckpiidgkgoaaGreatDoor
