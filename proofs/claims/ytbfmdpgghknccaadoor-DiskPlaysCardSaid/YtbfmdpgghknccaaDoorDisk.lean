/- package disk: what a disk is in memory; good, step, named. -/
import Derived.Test.YtbfmdpgghknccaaDoorShelfT
import Derived.Test.YtbfmdpgghknccaaDoorMapPtr
import Derived.Outline
import Derived.Lib.Hide
import Derived.Deep.Quiet
import Derived.Deep.QuietTactic
import Derived.BigQuiet
namespace Go.Proofs.YtbfmdpgghknccaaDoor
open Go.RowKit Go.Maps
set_option linter.unusedVariables false
set_option linter.unusedSimpArgs false

theorem belowN {B : Nat} {w w' : World} (h : Below B w w') (n : Nat) : Below B w (w'.drewN n) := ⟨h.os, h.tape, h.output, h.size, h.block⟩

/-- Names that may be. -/
def alnum : ByteArray := ⟨#[97, 98, 99, 100, 101, 102, 103, 104, 105, 106, 107, 108, 109, 110, 111, 112, 113, 114, 115, 116, 117, 118, 119, 120, 121, 122, 48, 49, 50, 51, 52, 53, 54, 55, 56, 57, 46]⟩
def goodB (s : ByteArray) : Bool := !(s.toList == []) && (decide (s.size ≤ 12) && ((Lib.trimS s.data.toList alnum.data.toList) == []))
theorem alnum_ascii : ∀ (j : Nat) b, alnum.data.toList[j]? = some b → b.toNat < 128 := by
  intro j b h
  have hm : b ∈ alnum.data.toList := List.mem_of_getElem? h
  have : ∀ x ∈ alnum.data.toList, x.toNat < 128 := by decide
  exact this b hm

/-- A map of files. -/
def MapIs (w : World) (b : Nat) (D : DataW Nat) : Prop := ∃ n, w.ownsMap Tryd.prog 9 ptrElem b n D
theorem lawS : Keyed Tryd.prog 9 := string_keyed Tryd.underlying9
theorem zeroF (w : World) : (zeroValue 93).run Tryd.prog w = .ok (.pointer none) w := by kernel_rfl
theorem keyS (s : ByteArray) (h : s.size ≤ maxLen) : keyOf Tryd.prog 9 (.string s) = some (.string s.data.toList) := WideMaps.keyOf_string_mk Tryd.underlying9 h

/-- A disk: its block, its two maps. -/
def dkCells (bn bs : Nat) (steps stop : Int) : Array Value := #[.map (some bn), .map (some bs), .int .i64 steps, .int .i64 stop]
structure Dk (w : World) (d bn bs : Nat) (N S : DataW Nat) (steps stop : Int) : Prop where
  blk : Blk w d 80 #[.map (some bn), .map (some bs), .int .i64 steps, .int .i64 stop]
  nm : MapIs w bn N
  sf : MapIs w bs S
  ne : bn ≠ bs
theorem MapIs.lt {w : World} {b : Nat} {D : DataW Nat} (h : MapIs w b D) : b < w.heap.size := by obtain ⟨n, h⟩ := h; exact h.lt
theorem MapIs.only {w w' : World} {b : Nat} {D : DataW Nat} (h : MapIs w b D) {S : Nat → Prop} (ho : Only S w w') (hn : ¬ S b) : MapIs w' b D := by
  obtain ⟨n, es, clock, hb, F, hs, hD⟩ := h
  have hlt := (Array.getElem?_eq_some_iff.1 hb).1
  exact ⟨n, es, clock, (ho.block b hlt hn).trans hb, F, hs, hD⟩
theorem MapIs.ne_blk {w : World} {b d : Nat} {D : DataW Nat} {t : TypeId} {cs : Array Value} (h : MapIs w b D) (hd : Blk w d t cs) : b ≠ d := by
  obtain ⟨n, es, clock, hb, F, hs, hD⟩ := h
  intro e
  subst e
  unfold Blk at hd
  rw [hb] at hd
  cases hd
theorem Dk.only {w w' : World} {d bn bs : Nat} {N S : DataW Nat} {steps stop : Int} (h : Dk w d bn bs N S steps stop) {X : Nat → Prop} (ho : Only X w w') (hd : ¬ X d) (hn : ¬ X bn) (hs : ¬ X bs) : Dk w' d bn bs N S steps stop :=
  ⟨h.blk.only ho hd, h.nm.only ho hn, h.sf.only ho hs, h.ne⟩
theorem Dk.below {w w' : World} {d bn bs : Nat} {N S : DataW Nat} {steps stop : Int} (h : Dk w d bn bs N S steps stop) (hb : Below w.heap.size w w') : Dk w' d bn bs N S steps stop :=
  h.only (Only.of_below hb (S := fun _ => False)) (fun h => h) (fun h => h) (fun h => h)

theorem toArray_beq (l : List UInt8) : ((⟨l.toArray⟩ : ByteArray).toList == []) = (l == []) := by
  rw [ByteArray.toList_eq]

set_option maxRecDepth 100000 in
theorem good_any (s : ByteArray) (w : World) (hs : s.size ≤ 9223372036854775807) : Calls Tryd.prog 57 #[.string s] w fun e w' => e = .returned (.bool (goodB s)) ∧ Below w.heap.size w w' := by
  have HT := Lib.hid (fun w1 => Tryd.strings_Trim s alnum w1 hs (by decide) alnum_ascii)
  obtain ⟨tr, htr⟩ : ∃ tr, Lib.trimS s.data.toList alnum.data.toList = tr := ⟨_, rfl⟩
  rw [htr] at HT
  have hg : goodB s = (!(s.toList == []) && (decide (s.size ≤ 12) && (tr == []))) := by unfold goodB; rw [htr]
  unfold alnum at HT
  clear htr
  cases h0 : (s.toList == []) with
  | true =>
    rw [h0] at hg
    rw [hg]
    clear hg
    go_enter Tryd.func57, Tryd.ntmps57
    go_wp2_with fail
    go_ret
    exact ⟨rfl, Below.refl _ _⟩
  | false =>
    rw [h0] at hg
    by_cases h1 : s.size ≤ 12
    · have h1d : decide (s.size ≤ 12) = true := by simpa using h1
      have h1i : decide ((s.size : Int) ≤ 12) = true := by simp; omega
      rw [h1d] at hg
      rw [hg]
      clear hg h1 h1d
      go_enter Tryd.func57, Tryd.ntmps57
      go_wp2_with fail
      refine (HT.out _).mono ?_
      rintro e w1 ⟨rfl, hb⟩
      go_wp2_with fail
      go_ret
      exact ⟨by simp [toArray_beq], hb⟩
    · have h1d : decide (s.size ≤ 12) = false := by simpa using h1
      have h1i : decide ((s.size : Int) ≤ 12) = false := by simp; omega
      rw [h1d] at hg
      rw [hg]
      clear hg h1 h1d
      go_enter Tryd.func57, Tryd.ntmps57
      go_wp2_with fail
      go_ret
      exact ⟨rfl, Below.refl _ _⟩

/-- What is wrong: nothing, or a number. -/
def errV : Option Int → Value
  | none => .nilIface
  | some n => .iface 98 (.int .i64 n)

/-- Whether one more step may be done. -/
def Goes (steps stop : Int) : Prop := ¬ (0 ≤ stop ∧ stop ≤ steps)
theorem goes_cases {steps stop : Int} (h : Goes steps stop) : (decide (0 ≤ stop) = false) ∨ (decide (0 ≤ stop) = true ∧ decide (stop ≤ steps) = false) := by
  unfold Goes at h
  by_cases h0 : 0 ≤ stop
  · refine .inr ⟨by simpa using h0, ?_⟩
    simp
    omega
  · exact .inl (by simpa using h0)

set_option maxRecDepth 100000 in
set_option maxHeartbeats 2000000 in
/-- step, nothing wrong. -/
theorem step_ok (d : Nat) (m1 m2 : Value) (steps stop : Int) (w : World) (hd : Blk w d 80 #[m1, m2, .int .i64 steps, .int .i64 stop]) (hgo : Goes steps stop) (h0 : 0 ≤ steps) (hk : steps ≤ 1000000000000) :
    Calls Tryd.prog 58 #[.pointer (some ⟨d, 0, none⟩), .nilIface] w fun e w' => e = .returned .nilIface ∧ Blk w' d 80 #[m1, m2, .int .i64 (steps + 1), .int .i64 stop] ∧ Only (fun k => k = d) w w' := by
  have HB := Lib.hid hd
  have c2 : w.cell? ⟨d, 2, none⟩ = some (.int .i64 steps) := hd.cell 2
  have c3 : w.cell? ⟨d, 3, none⟩ = some (.int .i64 stop) := hd.cell 3
  have z := hd.frozen
  have hw : IntKind.i64.wrap (steps + 1) = steps + 1 := by rw [IntKind.wrap_i64]; omega
  have hfin : ∀ n, Blk ((w.drewN n).setCell ⟨d, 2, none⟩ (.int .i64 (steps + 1))) d 80 #[m1, m2, .int .i64 (steps + 1), .int .i64 stop] ∧ Only (fun k => k = d) w ((w.drewN n).setCell ⟨d, 2, none⟩ (.int .i64 (steps + 1))) := fun n =>
    ⟨by have := (hd.drewN n).set_ 2 (.int .i64 (steps + 1)); simpa using this, ((Only.refl (fun k => k = d) w).drewN n).setCell (p := ⟨d, 2, none⟩) rfl _⟩
  have HF := Lib.hid hfin
  have HW := Lib.hid hw
  clear hd hfin hw
  rcases goes_cases hgo with d0 | ⟨d0, d1⟩
  all_goals
    clear hgo
    go_enter Tryd.func58, Tryd.ntmps58
    go_wp2_with fail
    go_quiet ((fail))
    go_wp2_with fail
    go_ret
    exact ⟨rfl, (HF.out nq).1, (HF.out nq).2⟩

set_option maxRecDepth 100000 in
set_option maxHeartbeats 2000000 in
/-- step, something wrong. -/
theorem step_err (d : Nat) (m1 m2 : Value) (steps stop n : Int) (w : World) (hd : Blk w d 80 #[m1, m2, .int .i64 steps, .int .i64 stop]) (hgo : Goes steps stop) :
    Calls Tryd.prog 58 #[.pointer (some ⟨d, 0, none⟩), errV (some n)] w fun e w' => e = .returned (errV (some n)) ∧ Below w.heap.size w w' := by
  unfold errV
  have c2 : w.cell? ⟨d, 2, none⟩ = some (.int .i64 steps) := hd.cell 2
  have c3 : w.cell? ⟨d, 3, none⟩ = some (.int .i64 stop) := hd.cell 3
  clear hd
  rcases goes_cases hgo with d0 | ⟨d0, d1⟩
  all_goals
    clear hgo
    go_enter Tryd.func58, Tryd.ntmps58
    go_wp2_with fail
    go_quiet ((fail))
    go_wp2_with fail
    go_ret
    exact ⟨rfl, belowN (Below.refl _ _) _⟩

/-- What named tells. -/
def namedE (s : ByteArray) (p : Option Nat) : Option Int := if goodB s then (if p = none then some 6 else none) else some 2

set_option maxRecDepth 100000 in
set_option maxHeartbeats 2000000 in
theorem named_any (d bn : Nat) (m2 : Value) (steps stop : Int) (N : DataW Nat) (s : ByteArray) (p : Option Nat) (w : World) (hd : Blk w d 80 #[.map (some bn), m2, .int .i64 steps, .int .i64 stop]) (hn : MapIs w bn N) (hs : s.size ≤ maxLen) (hat : N.atKey (.string s.data.toList) .nil = ptrD p) :
    Calls Tryd.prog 36 #[.pointer (some ⟨d, 0, none⟩), .string s] w fun e w' => e = .returned (errV (namedE s p)) ∧ Below w.heap.size w w' := by
  have HG := Lib.hid (fun w1 => good_any s w1 (Nat.le_trans hs (by decide)))
  have HD := Lib.hid (And.intro hd hn)
  unfold namedE
  have HK := Lib.hid (keyS s hs)
  have HA := Lib.hid hat
  clear hd hn hs hat
  cases hg : goodB s with
  | false =>
    rw [hg] at HG
    clear hg
    go_enter Tryd.func36, Tryd.ntmps36
    go_wp2_with fail
    refine (HG.out _).mono ?_
    rintro e w1 ⟨rfl, hb1⟩
    go_wp2_with fail
    go_ret
    exact ⟨rfl, hb1⟩
  | true =>
    rw [hg] at HG
    clear hg
    go_enter Tryd.func36, Tryd.ntmps36
    go_wp2_with fail
    refine (HG.out _).mono ?_
    rintro e w1 ⟨rfl, hb1⟩
    have hB := HD.out.1.below hb1 HD.out.1.lt
    have c0 : w1.cell? ⟨d, 0, none⟩ = some (.map (some bn)) := hB.cell 0
    obtain ⟨n1, hn1⟩ := HD.out.2.only (Only.of_below hb1 (S := fun _ => False)) (fun h => h)
    have HB1 := Lib.hid hb1
    clear hB hb1
    cases p with
    | none =>
      go_wp2_with (first | (at_lookup; refine wpList_lookup_nil _ rfl _ _ 78 rfl 9 93 lawS Tryd.underlying78 (zeroF _) bn n1 N rfl hn1 _ _ rfl HK.out HA.out ?_) | fail)
      go_ret
      exact ⟨rfl, HB1.out⟩
    | some f =>
      go_wp2_with (first | (at_lookup; refine wpList_lookup_to _ rfl _ _ 78 rfl 9 93 lawS Tryd.underlying78 (zeroF _) bn n1 N rfl hn1 _ _ rfl HK.out f HA.out ?_) | fail)
      go_ret
      exact ⟨rfl, HB1.out⟩
end Go.Proofs.YtbfmdpgghknccaaDoor
