/- ParseAny, IdPlain. -/
import Derived.Test.YtmkebfclaehneaaDoorBg22
import Derived.Lib.ItoaNum
import Derived.Lib.ItoaMem
import Derived.Lib.Atoi
import Derived.Lib.IndexMore
import Derived.Lib.SlTrimSet
/- json.Parse: the contract. -/
namespace Go.Proofs.YtmkebfclaehneaaDoor
open Go.RowKit
set_option linter.unusedVariables false
set_option linter.unusedSimpArgs false

/-- What Parse answers. -/
def ParseQ (s : ByteArray) (w : World) (e : Ending) (w' : World) : Prop :=
  (match parseF Num (toN s) with
   | .ok t => ∃ T : PT, e = .returned (.tuple #[T.value, .int .i64 0, .nilIface]) ∧ OwnJ 9 29 w' T ∧ T.own.Nodup ∧ (∀ b ∈ T.own, w.heap.size ≤ b) ∧ T.tree = t
   | .error (a, x) => e = .returned (.tuple #[(leafP ⟨0, 0, ⟨#[]⟩, 0, 0⟩).value, .int .i64 a, .iface 44 (.int .i64 x)])) ∧ Below w.heap.size w w'
theorem results_parse (tmps : Array Value) (w : World) (g2 g3 g4 : Nat) (c0 c1 c2 c3 c4 c5 c6 v3 v4 : Value) (hp2 : tmps.getD 2 undef = .pointer (some ⟨g2, 0, none⟩)) (hp3 : tmps.getD 3 undef = .pointer (some ⟨g3, 0, none⟩)) (hp4 : tmps.getD 4 undef = .pointer (some ⟨g4, 0, none⟩))
    (h2 : Blk w g2 29 #[c0, c1, c2, c3, c4, c5, c6]) (h3 : w.cell? ⟨g3, 0, none⟩ = some v3) (h4 : w.cell? ⟨g4, 0, none⟩ = some v4) : (results Tryd.f4 tmps).run Tryd.prog w = .ok (.tuple #[.agg #[c0, c1, c2, c3, c4, c5, c6], v3, v4]) w := by
  have q2 : tmps[2]?.getD undef = .pointer (some ⟨g2, 0, none⟩) := by simpa using hp2
  have q3 : tmps[3]?.getD undef = .pointer (some ⟨g3, 0, none⟩) := by simpa using hp3
  have q4 : tmps[4]?.getD undef = .pointer (some ⟨g4, 0, none⟩) := by simpa using hp4
  obtain ⟨e0, e1, e2, e3, e4, e5, e6, _⟩ := res_cells h2
  simp [results, Tryd.results4, q2, q3, q4, asAddr, e0, e1, e2, e3, e4, e5, e6, go_sem, h3, h4, Result.andThen]
set_option maxRecDepth 100000 in
set_option maxHeartbeats 4000000 in
theorem parse_full (s : ByteArray) (hs : 60000 < s.size) (hm : s.size ≤ maxLen) (w : World) : Calls Tryd.prog 4 #[.string s] w (ParseQ s w) := by
  have hP : parseF Num (toN s) = .error (0, 4) := by unfold parseF; rw [toN_len, if_pos hs]
  have hsi : (60000 : Int) < (s.size : Int) := by omega
  have HP := Lib.hid hP
  clear hP
  have hmf : ∀ (fn : Fn) (first cap : Array Value) (w : World), (Instr.makeFunc fn first cap).run Tryd.prog w = .ok (.func fn first cap) w := fun _ _ _ _ => rfl
  go_enter_defers Tryd.func4, Tryd.ntmps4
  go_wp2
  refine Exists.intro _ (And.intro (results_parse _ _ w.heap.size (w.heap.size + 1) (w.heap.size + 1 + 1) _ _ _ _ _ _ _ _ _ rfl rfl rfl (((Blk.new w _ _).alloc _).alloc _) (Blk.cell ((Blk.newer (w.alloc (.cells #[.int .i64 0, .int .i64 0, .string ⟨#[]⟩, .int .i64 0, .int .i64 0, .slice none 0 0, .slice none 0 0] 29)) 3 #[.int .i64 0] (g := w.heap.size + 1) (by simp)).alloc _) 0) (Blk.cell (Blk.newer _ 31 #[.iface 44 (.int .i64 4)] (g := w.heap.size + 1 + 1) (by simp)) 0)) ?_)
  unfold ParseQ
  rw [HP.out]
  exact ⟨rfl, (((Below.refl _ w).alloc (Nat.le_refl _) _).alloc (by simp) _).alloc (by simp; omega) _⟩
theorem boxes4 (w : World) (s : ByteArray) : (fun W => Blk W w.heap.size 29 #[.int .i64 0, .int .i64 0, .string ⟨#[]⟩, .int .i64 0, .int .i64 0, .slice none 0 0, .slice none 0 0] ∧ Blk W (w.heap.size + 1) 3 #[.int .i64 0] ∧ Blk W (w.heap.size + 1 + 1) 31 #[.nilIface] ∧ Rd W (w.heap.size + 3) s 0 (400 : Nat) ∧ Below w.heap.size w W) ((((w.alloc (.cells #[.int .i64 0, .int .i64 0, .string ⟨#[]⟩, .int .i64 0, .int .i64 0, .slice none 0 0, .slice none 0 0] 29)).alloc (.cells #[.int .i64 0] 3)).alloc (.cells #[.nilIface] 31)).alloc (.cells #[.string s, .int .i64 0, .int .i64 400] 50)) :=
  ⟨(((Blk.new w _ _).alloc _).alloc _).alloc _, ((Blk.newer _ _ _ (by simp)).alloc _).alloc _, (Blk.newer _ _ _ (by simp)).alloc _, Blk.newer _ _ _ (by simp), ((((Below.refl _ w).alloc (Nat.le_refl _) _).alloc (by simp) _).alloc (by simp; omega) _).alloc (by simp; omega) _⟩
set_option maxRecDepth 100000 in
set_option maxHeartbeats 4000000 in
theorem parse_some (s : ByteArray) (hs : s.size ≤ 60000) (w : World) (hp : Pow10 w) (he : ErrAt w) : Calls Tryd.prog 4 #[.string s] w (ParseQ s w) := by
  have hsi : ¬ (60000 : Int) < (s.size : Int) := by omega
  have hmf : ∀ (fn : Fn) (first cap : Array Value) (w : World), (Instr.makeFunc fn first cap).run Tryd.prog w = .ok (.func fn first cap) w := fun _ _ _ _ => rfl
  have HT := Lib.hid (fun w1 (hb : Below w.heap.size w w1) (hr : Rd w1 (w.heap.size + 3) s 0 (400 : Nat)) => tree_all w (w.heap.size + 3) s hs 400 (Nat.le_refl _) 2000 0 w1 (by omega) (Nat.zero_le _) ⟨hb, by omega, hp, he⟩ hr)
  clear hp he
  cases hP : pT Num (toN s) 2000 0 400 with
  | bad a x =>
    go_enter_defers Tryd.func4, Tryd.ntmps4
    go_wp2_with (go_at_call 10; refine calls_at (fun W => Blk W w.heap.size 29 #[.int .i64 0, .int .i64 0, .string ⟨#[]⟩, .int .i64 0, .int .i64 0, .slice none 0 0, .slice none 0 0] ∧ Blk W (w.heap.size + 1) 3 #[.int .i64 0] ∧ Blk W (w.heap.size + 1 + 1) 31 #[.nilIface] ∧ Rd W (w.heap.size + 3) s 0 (400 : Nat) ∧ Below w.heap.size w W) (boxes4 w s) ?_; rintro W ⟨k2, k3, k4, kr, kb⟩; have HT1 := HT.out W kb kr; rw [hP] at HT1; refine HT1.mono ?_; intro e w1 hq; obtain ⟨rfl, ho⟩ := hq.badd rfl)
    have HD := Lib.hid (And.intro (k2.only ho (by show w.heap.size ≠ w.heap.size + 3; omega)) (And.intro (k3.only ho (by show w.heap.size + 1 ≠ w.heap.size + 3; omega)) (And.intro (k4.only ho (by show w.heap.size + 1 + 1 ≠ w.heap.size + 3; omega)) (kb.trans (ho.below kb.size (fun q hq e => by omega))))))
    have HF := Lib.hid (show parseF Num (toN s) = .error (a, x) from by unfold parseF; rw [toN_len, if_neg (by omega), hP])
    refine leaves_cons (f := 9) (args := #[.pointer (some ⟨w.heap.size, 0, none⟩), .pointer (some ⟨w.heap.size + 1, 0, none⟩), .pointer (some ⟨w.heap.size + 1 + 1, 0, none⟩)]) (by simp) (by simp [go_sem]) ?_
    refine (catch_fault w.heap.size (w.heap.size + 1) (w.heap.size + 1 + 1) a x w1 _ _ _ _ _ _ _ _ _ HD.out.1 HD.out.2.1 HD.out.2.2.1 (by omega) (by omega) (by omega)).mono ?_
    rintro e u' w2 ⟨rfl, rfl, c2, c3, c4, co⟩
    refine Exists.intro _ (And.intro (results_parse _ _ w.heap.size (w.heap.size + 1) (w.heap.size + 1 + 1) _ _ _ _ _ _ _ _ _ rfl rfl rfl c2 (c3.cell 0) (c4.cell 0)) ?_)
    unfold ParseQ
    rw [HF.out]
    exact ⟨rfl, HD.out.2.2.2.trans (co.below HD.out.2.2.2.size (fun q hq e => by omega))⟩
  | ok t a l =>
    by_cases hlt : a < s.size
    · have hlti : (a : Int) < (s.size : Int) := by omega
      have HF := Lib.hid (show parseF Num (toN s) = .error (a, 2) from by unfold parseF; rw [toN_len, if_neg (by omega), hP]; simp only; rw [if_pos hlt])
      go_enter_defers Tryd.func4, Tryd.ntmps4
      go_wp2_with (first
        | (go_at_call 10; refine calls_at (fun W => Blk W w.heap.size 29 #[.int .i64 0, .int .i64 0, .string ⟨#[]⟩, .int .i64 0, .int .i64 0, .slice none 0 0, .slice none 0 0] ∧ Blk W (w.heap.size + 1) 3 #[.int .i64 0] ∧ Blk W (w.heap.size + 1 + 1) 31 #[.nilIface] ∧ Rd W (w.heap.size + 3) s 0 (400 : Nat) ∧ Below w.heap.size w W) (boxes4 w s) ?_; rintro W ⟨k2, k3, k4, kr, kb⟩; have HT1 := HT.out W kb kr; rw [hP] at HT1; refine HT1.mono ?_; intro e w1 hq; obtain ⟨T, rfl, rfl, ha2, hr4, hown, hnd, hlow, ho⟩ := hq.okd rfl; have hb2 := k2.only ho (by show w.heap.size ≠ w.heap.size + 3; omega); obtain ⟨r0, r1, r2, r3, r4, r5, r6, zr⟩ := res_cells hb2; obtain ⟨j0, j1, j2, y1, y2⟩ := hr4.cells; have HB := Lib.hid (And.intro hb2 (And.intro (k3.only ho (by show w.heap.size + 1 ≠ w.heap.size + 3; omega)) (And.intro (k4.only ho (by show w.heap.size + 1 + 1 ≠ w.heap.size + 3; omega)) (And.intro (And.intro hown (And.intro hnd hlow)) (kb.trans (ho.below kb.size (fun q hq e => by omega))))))); clear hb2 ha2 hr4 hown hnd hlow ho k2 k3 k4 kr kb HT1 hq)
        | (go_at_call 11; refine (fail_any _ _ a 2).mono ?_; unfold faultE; rintro e w7 ⟨rfl, rfl⟩))
      have o := only7 w1 w.heap.size (.int .i64 T.val.k) (.int .i64 T.val.n) (.string T.val.s) (.int .i64 T.val.o) (.int .i64 T.val.p) (.slice T.kA T.keys.length T.kc) (.slice T.cA T.kids.length T.cc) 0 1 2 3 4 5 6
      have HD := Lib.hid (And.intro (blk7 (.int .i64 T.val.k) (.int .i64 T.val.n) (.string T.val.s) (.int .i64 T.val.o) (.int .i64 T.val.p) (.slice T.kA T.keys.length T.kc) (.slice T.cA T.kids.length T.cc) HB.out.1) (And.intro (HB.out.2.1.only o (by show w.heap.size + 1 ≠ w.heap.size; omega)) (And.intro (HB.out.2.2.1.only o (by show w.heap.size + 1 + 1 ≠ w.heap.size; omega)) (HB.out.2.2.2.2.trans (o.below HB.out.2.2.2.2.size (fun q hq e => by omega))))))
      refine leaves_cons (f := 9) (args := #[.pointer (some ⟨w.heap.size, 0, none⟩), .pointer (some ⟨w.heap.size + 1, 0, none⟩), .pointer (some ⟨w.heap.size + 1 + 1, 0, none⟩)]) (by simp) (by simp [go_sem]) ?_
      refine (catch_fault w.heap.size (w.heap.size + 1) (w.heap.size + 1 + 1) a 2 _ _ _ _ _ _ _ _ _ _ HD.out.1 HD.out.2.1 HD.out.2.2.1 (by omega) (by omega) (by omega)).mono ?_
      rintro e u' w2 ⟨rfl, rfl, c2, c3, c4, co⟩
      refine Exists.intro _ (And.intro (results_parse _ _ w.heap.size (w.heap.size + 1) (w.heap.size + 1 + 1) _ _ _ _ _ _ _ _ _ rfl rfl rfl c2 (c3.cell 0) (c4.cell 0)) ?_)
      unfold ParseQ
      rw [HF.out]
      exact ⟨rfl, HD.out.2.2.2.trans (co.below HD.out.2.2.2.size (fun q hq e => by omega))⟩
    · have hlti : ¬ (a : Int) < (s.size : Int) := by omega
      have HF := Lib.hid (show parseF Num (toN s) = .ok t from by unfold parseF; rw [toN_len, if_neg (by omega), hP]; simp only; rw [if_neg hlt])
      go_enter_defers Tryd.func4, Tryd.ntmps4
      go_wp2_with (go_at_call 10; refine calls_at (fun W => Blk W w.heap.size 29 #[.int .i64 0, .int .i64 0, .string ⟨#[]⟩, .int .i64 0, .int .i64 0, .slice none 0 0, .slice none 0 0] ∧ Blk W (w.heap.size + 1) 3 #[.int .i64 0] ∧ Blk W (w.heap.size + 1 + 1) 31 #[.nilIface] ∧ Rd W (w.heap.size + 3) s 0 (400 : Nat) ∧ Below w.heap.size w W) (boxes4 w s) ?_; rintro W ⟨k2, k3, k4, kr, kb⟩; have HT1 := HT.out W kb kr; rw [hP] at HT1; refine HT1.mono ?_; intro e w1 hq; obtain ⟨T, rfl, rfl, ha2, hr4, hown, hnd, hlow, ho⟩ := hq.okd rfl; have hb2 := k2.only ho (by show w.heap.size ≠ w.heap.size + 3; omega); obtain ⟨r0, r1, r2, r3, r4, r5, r6, zr⟩ := res_cells hb2; obtain ⟨j0, j1, j2, y1, y2⟩ := hr4.cells; have hb3 := k3.only ho (by show w.heap.size + 1 ≠ w.heap.size + 3; omega); have hb4 := k4.only ho (by show w.heap.size + 1 + 1 ≠ w.heap.size + 3; omega); have u0 := hb3.cell 0; have z3 := hb3.frozen 0; have u1 := hb4.cell 0; have z4 := hb4.frozen 0; simp only [List.getElem?_toArray, List.getElem?_cons_zero] at u0 u1; have HB := Lib.hid (And.intro hb2 (And.intro hb3 (And.intro hb4 (And.intro (And.intro hown (And.intro hnd hlow)) (And.intro (kb.trans (ho.below kb.size (fun q hq e => by omega))) (Blk.lt kr)))))); clear hb2 hb3 hb4 ha2 hr4 hown hnd hlow ho k2 k3 k4 kr kb HT1 hq)
      have o12 := (only7 w1 w.heap.size (.int .i64 T.val.k) (.int .i64 T.val.n) (.string T.val.s) (.int .i64 T.val.o) (.int .i64 T.val.p) (.slice T.kA T.keys.length T.kc) (.slice T.cA T.kids.length T.cc) 0 1 2 3 4 5 6).trans (only7 _ w.heap.size (.int .i64 T.val.k) (.int .i64 T.val.n) (.string T.val.s) (.int .i64 T.val.o) (.int .i64 T.val.p) (.slice T.kA T.keys.length T.kc) (.slice T.cA T.kids.length T.cc) 0 1 2 3 4 5 6)
      have b12 := blk7 (.int .i64 T.val.k) (.int .i64 T.val.n) (.string T.val.s) (.int .i64 T.val.o) (.int .i64 T.val.p) (.slice T.kA T.keys.length T.kc) (.slice T.cA T.kids.length T.cc) (blk7 (.int .i64 T.val.k) (.int .i64 T.val.n) (.string T.val.s) (.int .i64 T.val.o) (.int .i64 T.val.p) (.slice T.kA T.keys.length T.kc) (.slice T.cA T.kids.length T.cc) HB.out.1)
      have b3 := HB.out.2.1.only o12 (by show w.heap.size + 1 ≠ w.heap.size; omega)
      have b4 := HB.out.2.2.1.only o12 (by show w.heap.size + 1 + 1 ≠ w.heap.size; omega)
      have c3 := Blk.setc (v := .int .i64 0) b3
      have c4 := b4.only ((Only.refl (· = w.heap.size + 1) _).setCell (p := ⟨w.heap.size + 1, 0, none⟩) rfl (.int .i64 0)) (by show w.heap.size + 1 + 1 ≠ w.heap.size + 1; omega)
      have c2 := b12.only ((Only.refl (· = w.heap.size + 1) _).setCell (p := ⟨w.heap.size + 1, 0, none⟩) rfl (.int .i64 0)) (by show w.heap.size ≠ w.heap.size + 1; omega)
      have d2 := c2.only ((Only.refl (· = w.heap.size + 1 + 1) _).setCell (p := ⟨w.heap.size + 1 + 1, 0, none⟩) rfl .nilIface) (by show w.heap.size ≠ w.heap.size + 1 + 1; omega)
      have d3 := c3.only ((Only.refl (· = w.heap.size + 1 + 1) _).setCell (p := ⟨w.heap.size + 1 + 1, 0, none⟩) rfl .nilIface) (by show w.heap.size + 1 ≠ w.heap.size + 1 + 1; omega)
      have d4 := Blk.setc (v := .nilIface) c4
      have o := ((o12.mono (T := fun k => k = w.heap.size ∨ k = w.heap.size + 1 ∨ k = w.heap.size + 1 + 1) (fun k _ hk => .inl hk)).setCell (p := ⟨w.heap.size + 1, 0, none⟩) (.inr (.inl rfl)) (.int .i64 0)).setCell (p := ⟨w.heap.size + 1 + 1, 0, none⟩) (.inr (.inr rfl)) .nilIface
      refine leaves_cons (f := 9) (args := #[.pointer (some ⟨w.heap.size, 0, none⟩), .pointer (some ⟨w.heap.size + 1, 0, none⟩), .pointer (some ⟨w.heap.size + 1 + 1, 0, none⟩)]) (by simp) (by simp [go_sem]) ?_
      refine (catch_idle w.heap.size (w.heap.size + 1) (w.heap.size + 1 + 1) _).mono ?_
      rintro e u' w2 ⟨rfl, rfl, rfl⟩
      refine Exists.intro _ (And.intro (results_parse _ _ w.heap.size (w.heap.size + 1) (w.heap.size + 1 + 1) _ _ _ _ _ _ _ _ _ rfl rfl rfl d2 (d3.cell 0) (d4.cell 0)) ?_)
      unfold ParseQ
      rw [HF.out]
      have hw := HB.out.2.2.2.2.2
      have hlo := HB.out.2.2.2.1.2.2
      exact ⟨⟨T, rfl, HB.out.2.2.2.1.1.only o (fun b hb e => by have := hlo b hb; omega), HB.out.2.2.2.1.2.1, fun b hb => by have := hlo b hb; omega, rfl⟩, HB.out.2.2.2.2.1.trans (o.below HB.out.2.2.2.2.1.size (fun q hq e => by omega))⟩
theorem parse_any (s : ByteArray) (hm : s.size ≤ maxLen) (w : World) (hp : Pow10 w) (he : ErrAt w) : Calls Tryd.prog 4 #[.string s] w (ParseQ s w) := by
  by_cases hs : s.size ≤ 60000
  · exact parse_some s hs w hp he
  · exact parse_full s (by omega) hm w
end Go.Proofs.YtmkebfclaehneaaDoor
/- Names of ids, plain: decimal numerals read back. Over no program. -/
namespace Go.Proofs.YtmkebfclaehneaaDoor
open Go.Lib
set_option linter.unusedVariables false
set_option linter.unusedSimpArgs false

theorem u8_of {n : Nat} (h : n < 10) : (UInt8.ofNat (48 + n)).toNat = 48 + n := by
  simp [UInt8.toNat_ofNat']; omega
theorem dd_small {u : Nat} (h : u < 10) : decDigits u = [UInt8.ofNat (48 + u)] := by rw [decDigits, dif_pos h]
theorem dd_big {u : Nat} (h : ¬ u < 10) : decDigits u = decDigits (u / 10) ++ [UInt8.ofNat (48 + u % 10)] := by rw [decDigits, dif_neg h]
/-- Of the digits of a number. -/
theorem dd_ind {P : Nat → List UInt8 → Prop} (h1 : ∀ u, u < 10 → P u [UInt8.ofNat (48 + u)]) (h2 : ∀ u, ¬ u < 10 → P (u / 10) (decDigits (u / 10)) → P u (decDigits (u / 10) ++ [UInt8.ofNat (48 + u % 10)])) : ∀ u, P u (decDigits u) := by
  intro u
  induction u using Nat.strongRecOn with
  | _ u ih =>
    by_cases h : u < 10
    · rw [dd_small h]; exact h1 u h
    · rw [dd_big h]; exact h2 u h (ih (u / 10) (by omega))
theorem dd_digit (u : Nat) : ∀ b ∈ decDigits u, 48 ≤ b.toNat ∧ b.toNat ≤ 57 := by
  refine dd_ind (P := fun u l => ∀ b ∈ l, 48 ≤ b.toNat ∧ b.toNat ≤ 57) ?_ ?_ u
  · intro u h b hb
    rw [List.mem_singleton] at hb
    subst hb
    rw [u8_of h]; omega
  · intro u h ih b hb
    rcases List.mem_append.1 hb with g | g
    · exact ih b g
    · rw [List.mem_singleton] at g
      subst g
      rw [u8_of (Nat.mod_lt u (by omega))]; omega
theorem dd_ne (u : Nat) : decDigits u ≠ [] := by
  refine dd_ind (P := fun u l => l ≠ []) (fun _ _ => by simp) (fun _ _ _ => by simp) u
theorem dd_head (u : Nat) : 1 ≤ u → ∀ b r, decDigits u = b :: r → b.toNat ≠ 48 := by
  refine dd_ind (P := fun u l => 1 ≤ u → ∀ b r, l = b :: r → b.toNat ≠ 48) ?_ ?_ u
  · intro u h h1 b r e
    injection e with e _
    rw [← e, u8_of h]; omega
  · intro u h ih h1 b r e
    cases hd : decDigits (u / 10) with
    | nil => exact absurd hd (dd_ne _)
    | cons c t =>
      rw [hd, List.cons_append] at e
      injection e with e _
      exact ih (by omega) b t (by rw [hd, e])
theorem dd_len : ∀ (k u : Nat), u < 10 ^ (k + 1) → (decDigits u).length ≤ k + 1 := by
  intro k
  induction k with
  | zero => intro u h; rw [dd_small (by simpa using h)]; simp
  | succ k ih =>
    intro u h
    by_cases h1 : u < 10
    · rw [dd_small h1]; simp
    · rw [dd_big h1, List.length_append]
      have := ih (u / 10) (by rw [Nat.pow_succ] at h; omega)
      simp; omega
theorem decFrom_snoc (l : List UInt8) (b : UInt8) : ∀ acc, decFrom acc (l ++ [b]) = (decFrom acc l).bind fun n => (digitVal b).map fun d => n * 10 + d := by
  induction l with
  | nil => intro acc; simp only [List.nil_append, decFrom]; cases digitVal b <;> rfl
  | cons c l ih =>
    intro acc
    simp only [List.cons_append, decFrom]
    cases digitVal c with
    | none => rfl
    | some d => exact ih _
theorem digitVal_of {n : Nat} (h : n < 10) : digitVal (UInt8.ofNat (48 + n)) = some n := by
  unfold digitVal
  rw [u8_of h, if_pos (by omega)]
  congr 1; omega
theorem dd_dec (u : Nat) : decFrom 0 (decDigits u) = some u := by
  refine dd_ind (P := fun u l => decFrom 0 l = some u) ?_ ?_ u
  · intro u h
    show (match digitVal (UInt8.ofNat (48 + u)) with | some d => decFrom (0 * 10 + d) [] | none => none) = some u
    rw [digitVal_of h]
    simp [decFrom]
  · intro u h ih
    rw [decFrom_snoc, ih, digitVal_of (show u % 10 < 10 by omega)]
    simp; omega
theorem dd_atoi (u : Nat) : atoi (decDigits u) = some (u : Int) := by
  cases hd : decDigits u with
  | nil => exact absurd hd (dd_ne u)
  | cons b r =>
    have hb := dd_digit u b (by rw [hd]; simp)
    have h1 : (b == 45) = false := by
      cases h : b == 45 with
      | false => rfl
      | true => rw [beq_iff_eq] at h; subst h; simp at hb
    have h2 : (b == 43) = false := by
      cases h : b == 43 with
      | false => rfl
      | true => rw [beq_iff_eq] at h; subst h; simp at hb
    simp only [atoi, h1, h2, Bool.false_eq_true, if_false]
    unfold decNat
    rw [← hd, dd_dec]
    simp [hd]
def tenDigits : List UInt8 := [48, 49, 50, 51, 52, 53, 54, 55, 56, 57]
theorem digit_in {b : UInt8} (h : 48 ≤ b.toNat ∧ b.toNat ≤ 57) : tenDigits.contains b = true := by
  have hb : b = UInt8.ofNat b.toNat := by simp
  have : b.toNat = 48 ∨ b.toNat = 49 ∨ b.toNat = 50 ∨ b.toNat = 51 ∨ b.toNat = 52 ∨ b.toNat = 53 ∨ b.toNat = 54 ∨ b.toNat = 55 ∨ b.toNat = 56 ∨ b.toNat = 57 := by omega
  rcases this with g | g | g | g | g | g | g | g | g | g <;> (rw [g] at hb; rw [hb]; decide)
theorem dropWhile_all {p : UInt8 → Bool} : ∀ {l : List UInt8}, (∀ b ∈ l, p b = true) → l.dropWhile p = []
  | [], _ => rfl
  | b :: l, h => by rw [List.dropWhile_cons_of_pos (h b (by simp))]; exact dropWhile_all (fun x hx => h x (List.mem_cons_of_mem _ hx))
theorem dd_trim (u : Nat) : trimS (decDigits u) tenDigits = [] := by
  have h : trimRightS (decDigits u) tenDigits = [] := by
    unfold trimRightS
    rw [dropWhile_all (fun b hb => digit_in (dd_digit u b (List.mem_reverse.1 hb)))]
    rfl
  unfold trimS
  rw [h]; rfl
theorem index_at : ∀ (l r : List UInt8), (∀ b ∈ l, b.toNat ≠ 64) → index (l ++ 64 :: r) [64] = (l.length : Int)
  | [], r, _ => by simp [index]
  | b :: l, r, h => by
    have hb : (b == 64) = false := by
      cases g : b == 64 with
      | false => rfl
      | true => rw [beq_iff_eq] at g; exact absurd (by rw [g]; rfl) (h b (by simp))
    have ih := index_at l r (fun x hx => h x (List.mem_cons_of_mem _ hx))
    have h64 : ((64 : UInt8) == b) = false := by rw [beq_eq_false_iff_ne] at hb ⊢; exact fun e => hb e.symm
    simp only [List.cons_append, index, List.isPrefixOf, h64, Bool.false_and, Bool.false_eq_true, if_false, ih]
    rw [if_neg (by simp <;> omega)]
    simp
theorem name_cut (u a : Nat) : cut (decDigits u ++ 64 :: decDigits a) [64] = (decDigits u, decDigits a, true) := by
  have h := index_at (decDigits u) (decDigits a) (fun b hb => by have := dd_digit u b hb; omega)
  unfold cut
  rw [h, if_pos (by omega)]
  simp
end Go.Proofs.YtmkebfclaehneaaDoor
