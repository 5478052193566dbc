/- package disk: what is refused; Remove, Stop, Steps: contracts. -/
import Derived.Test.YtbfmdpgghknccaaDoorDiskCrash2
namespace Go.Proofs.YtbfmdpgghknccaaDoor
open Go.RowKit Go.Maps
set_option linter.unusedVariables false
set_option linter.unusedSimpArgs false

/-- What step tells, handed an error. -/
def stepE (steps stop : Int) (err : Option Int) : Option Int := if 0 ≤ stop ∧ stop ≤ steps then some 7 else err
theorem stepE_goes {steps stop : Int} {err : Option Int} (h : Goes steps stop) : stepE steps stop err = err := by unfold stepE; rw [if_neg h]

set_option maxRecDepth 100000 in
set_option maxHeartbeats 2000000 in
theorem step_no (d : Nat) (m1 m2 : Value) (steps stop : Int) (err : Option Int) (x : Int) (w : World) (hd : Blk w d 80 #[m1, m2, .int .i64 steps, .int .i64 stop]) (hx : stepE steps stop err = some x) :
    Calls Tryd.prog 58 #[.pointer (some ⟨d, 0, none⟩), errV err] w fun e w' => e = .returned (errV (some x)) ∧ Below w.heap.size w w' := by
  unfold stepE at hx
  by_cases hgo : 0 ≤ stop ∧ stop ≤ steps
  · rw [if_pos hgo] at hx
    injection hx with hx
    subst hx
    have c2 : w.cell? ⟨d, 2, none⟩ = some (.int .i64 steps) := hd.cell 2
    have c3 : w.cell? ⟨d, 3, none⟩ = some (.int .i64 stop) := hd.cell 3
    obtain ⟨h0, h1⟩ := hgo
    have d0 : decide (0 ≤ stop) = true := by simpa using h0
    have d1 : decide (stop ≤ steps) = true := by simpa using h1
    obtain ⟨ev, hev⟩ : ∃ ev, errV err = ev := ⟨_, rfl⟩
    rw [hev]
    clear hd hev h0 h1
    unfold errV
    go_enter Tryd.func58, Tryd.ntmps58
    go_wp2_with fail
    go_quiet ((fail))
    go_wp2_with fail
    go_ret
    exact ⟨rfl, belowN (Below.refl _ _) _⟩
  · rw [if_neg hgo] at hx
    subst hx
    exact step_err d m1 m2 steps stop x w hd hgo
theorem dkstep_no (d bn bs : Nat) (N S : DataW Nat) (steps stop : Int) (err : Option Int) (x : Int) (w : World) (hd : Dk w d bn bs N S steps stop) (hx : stepE steps stop err = some x) :
    Calls Tryd.prog 58 #[.pointer (some ⟨d, 0, none⟩), errV err] w fun e w' => e = .returned (errV (some x)) ∧ Below w.heap.size w w' := step_no d _ _ steps stop err x w hd.blk hx

/-- What Create finds wrong. -/
def createE (s : ByteArray) (p : Option Nat) : Option Int := if goodB s then (if p = none then none else some 8) else some 2
set_option maxRecDepth 100000 in
set_option maxHeartbeats 2000000 in
theorem create_no (d bn bs : Nat) (N S : DataW Nat) (steps stop : Int) (s : ByteArray) (p : Option Nat) (x : Int) (w : World) (hd : Dk w d bn bs N S steps stop) (hs : s.size ≤ maxLen) (hat : N.atKey (.string s.data.toList) .nil = ptrD p) (hx : stepE steps stop (createE s p) = some x) :
    Calls Tryd.prog 26 #[.pointer (some ⟨d, 0, none⟩), .string s] w fun e w' => e = .returned (errV (some x)) ∧ Below w.heap.size w w' := by
  have HG := Lib.hid (fun w1 => good_any s w1 (Nat.le_trans hs (by decide)))
  have HK := Lib.hid (keyS s hs)
  have HD := Lib.hid hd
  have HS := Lib.hid (fun w1 h => dkstep_no d bn bs N S steps stop (createE s p) x w1 h hx)
  have HA := Lib.hid hat
  clear hd hs hat hx
  unfold createE at HS
  cases hg : goodB s with
  | false =>
    rw [hg] at HG HS
    simp only [Bool.false_eq_true, if_false] at HS
    unfold errV at HS
    clear hg
    go_enter Tryd.func26, Tryd.ntmps26
    go_wp2_with fail
    refine (HG.out _).mono ?_
    rintro e w1 ⟨rfl, hb1⟩
    have hD1 := HD.out.below hb1
    have c0 := hD1.c0
    have hn1 := hD1.nm.tight
    have H1 := Lib.hid (And.intro hb1 hD1)
    clear hb1 hD1
    clear c0 hn1
    go_wp2_with fail
    refine (HS.out _ H1.out.2).mono ?_
    rintro e w2 ⟨rfl, hb2⟩
    go_wp2_with fail
    go_ret
    exact ⟨rfl, H1.out.1.trans (hb2.mono H1.out.1.size)⟩
  | true =>
    rw [hg] at HG HS
    simp only [if_true] at HS
    clear hg
    cases p with
    | none =>
      simp only [if_true] at HS
      unfold errV at HS
      go_enter Tryd.func26, Tryd.ntmps26
      go_wp2_with fail
      refine (HG.out _).mono ?_
      rintro e w1 ⟨rfl, hb1⟩
      have hD1 := HD.out.below hb1
      have c0 := hD1.c0
      have hn1 := hD1.nm.tight
      have H1 := Lib.hid (And.intro hb1 hD1)
      clear hb1 hD1
      go_wp2_with (first | (at_lookup; refine wpList_lookup_nil _ rfl _ _ 78 rfl 9 93 lawS Tryd.underlying78 (zeroF _) bn _ N rfl hn1 _ _ rfl HK.out HA.out ?_) | fail)
      clear c0 hn1
      refine (HS.out _ H1.out.2).mono ?_
      rintro e w2 ⟨rfl, hb2⟩
      go_wp2_with fail
      go_ret
      exact ⟨rfl, H1.out.1.trans (hb2.mono H1.out.1.size)⟩
    | some f =>
      simp only [reduceCtorEq, if_false] at HS
      unfold errV at HS
      go_enter Tryd.func26, Tryd.ntmps26
      go_wp2_with fail
      refine (HG.out _).mono ?_
      rintro e w1 ⟨rfl, hb1⟩
      have hD1 := HD.out.below hb1
      have c0 := hD1.c0
      have hn1 := hD1.nm.tight
      have H1 := Lib.hid (And.intro hb1 hD1)
      clear hb1 hD1
      go_wp2_with (first | (at_lookup; refine wpList_lookup_to _ rfl _ _ 78 rfl 9 93 lawS Tryd.underlying78 (zeroF _) bn _ N rfl hn1 _ _ rfl HK.out f HA.out ?_) | fail)
      clear c0 hn1
      refine (HS.out _ H1.out.2).mono ?_
      rintro e w2 ⟨rfl, hb2⟩
      go_wp2_with fail
      go_ret
      exact ⟨rfl, H1.out.1.trans (hb2.mono H1.out.1.size)⟩

set_option maxRecDepth 100000 in
set_option maxHeartbeats 2000000 in
theorem sync_no (d bn bs : Nat) (N S : DataW Nat) (steps stop : Int) (s : ByteArray) (p : Option Nat) (x : Int) (w : World) (hd : Dk w d bn bs N S steps stop) (hs : s.size ≤ maxLen) (hat : N.atKey (.string s.data.toList) .nil = ptrD p) (hx : stepE steps stop (namedE s p) = some x) :
    Calls Tryd.prog 28 #[.pointer (some ⟨d, 0, none⟩), .string s] w fun e w' => e = .returned (errV (some x)) ∧ Below w.heap.size w w' := by
  have HG := Lib.hid (fun w1 h => named_any d bn (.map (some bs)) steps stop N s p w1 h)
  have HD := Lib.hid hd
  have HS := Lib.hid (fun w1 h => dkstep_no d bn bs N S steps stop (namedE s p) x w1 h hx)
  have HA := Lib.hid (And.intro hat hs)
  obtain ⟨ev, hev⟩ : ∃ ev, errV (namedE s p) = ev := ⟨_, rfl⟩
  rw [hev] at HG HS
  clear hd hs hat hx hev
  unfold errV at HS ⊢
  go_enter Tryd.func28, Tryd.ntmps28
  go_wp2_with fail
  refine (HG.out _ HD.out.blk HD.out.nm HA.out.2 HA.out.1).mono ?_
  rintro e w1 ⟨rfl, hb1⟩
  have H1 := Lib.hid (And.intro hb1 (HD.out.below hb1))
  clear hb1
  go_wp2_with fail
  refine (HS.out _ H1.out.2).mono ?_
  rintro e w2 ⟨rfl, hb2⟩
  go_wp2_with fail
  go_ret
  exact ⟨rfl, H1.out.1.trans (hb2.mono H1.out.1.size)⟩

set_option maxRecDepth 100000 in
set_option maxHeartbeats 2000000 in
theorem remove_no (d bn bs : Nat) (N S : DataW Nat) (steps stop : Int) (s : ByteArray) (p : Option Nat) (x : Int) (w : World) (hd : Dk w d bn bs N S steps stop) (hs : s.size ≤ maxLen) (hat : N.atKey (.string s.data.toList) .nil = ptrD p) (hx : stepE steps stop (namedE s p) = some x) :
    Calls Tryd.prog 31 #[.pointer (some ⟨d, 0, none⟩), .string s] w fun e w' => e = .returned (errV (some x)) ∧ Below w.heap.size w w' := by
  have HG := Lib.hid (fun w1 h => named_any d bn (.map (some bs)) steps stop N s p w1 h)
  have HD := Lib.hid hd
  have HS := Lib.hid (fun w1 h => dkstep_no d bn bs N S steps stop (namedE s p) x w1 h hx)
  have HA := Lib.hid (And.intro hat hs)
  obtain ⟨ev, hev⟩ : ∃ ev, errV (namedE s p) = ev := ⟨_, rfl⟩
  rw [hev] at HG HS
  clear hd hs hat hx hev
  unfold errV at HS ⊢
  go_enter Tryd.func31, Tryd.ntmps31
  go_wp2_with fail
  refine (HG.out _ HD.out.blk HD.out.nm HA.out.2 HA.out.1).mono ?_
  rintro e w1 ⟨rfl, hb1⟩
  have H1 := Lib.hid (And.intro hb1 (HD.out.below hb1))
  clear hb1
  go_wp2_with fail
  refine (HS.out _ H1.out.2).mono ?_
  rintro e w2 ⟨rfl, hb2⟩
  go_wp2_with fail
  go_ret
  exact ⟨rfl, H1.out.1.trans (hb2.mono H1.out.1.size)⟩

set_option maxRecDepth 100000 in
set_option maxHeartbeats 2000000 in
theorem syncNames_no (d bn bs : Nat) (N S : DataW Nat) (steps stop : Int) (x : Int) (w : World) (hd : Dk w d bn bs N S steps stop) (hx : stepE steps stop none = some x) :
    Calls Tryd.prog 29 #[.pointer (some ⟨d, 0, none⟩)] w fun e w' => e = .returned (errV (some x)) ∧ Below w.heap.size w w' := by
  have HS := Lib.hid (dkstep_no d bn bs N S steps stop none x w hd hx)
  clear hd hx
  unfold errV at HS ⊢
  go_enter Tryd.func29, Tryd.ntmps29
  go_wp2_with fail
  refine HS.out.mono ?_
  rintro e w2 ⟨rfl, hb2⟩
  go_wp2_with fail
  go_ret
  exact ⟨rfl, hb2⟩

set_option maxRecDepth 100000 in
set_option maxHeartbeats 2000000 in
theorem read_no (d bn bs : Nat) (N S : DataW Nat) (steps stop : Int) (s : ByteArray) (p : Option Nat) (x : Int) (w : World) (hd : Dk w d bn bs N S steps stop) (hs : s.size ≤ maxLen) (hat : N.atKey (.string s.data.toList) .nil = ptrD p) (hx : namedE s p = some x) :
    Calls Tryd.prog 15 #[.pointer (some ⟨d, 0, none⟩), .string s] w fun e w' => e = .returned (.tuple #[.slice none 0 0, errV (some x)]) ∧ Below w.heap.size w w' := by
  have HG := Lib.hid (fun w1 h => named_any d bn (.map (some bs)) steps stop N s p w1 h)
  rw [hx] at HG
  have HD := Lib.hid hd
  have HA := Lib.hid (And.intro hat hs)
  clear hd hs hat hx
  unfold errV at HG ⊢
  go_enter Tryd.func15, Tryd.ntmps15
  go_wp2_with fail
  refine (HG.out _ HD.out.blk HD.out.nm HA.out.2 HA.out.1).mono ?_
  rintro e w1 ⟨rfl, hb1⟩
  go_wp2_with fail
  go_ret2
  exact ⟨rfl, hb1⟩

/-- What Rename finds wrong. -/
def renameE (s u : ByteArray) (p : Option Nat) : Option Int := if goodB u then namedE s p else some 2
set_option maxRecDepth 100000 in
set_option maxHeartbeats 2000000 in
theorem rename_no (d bn bs : Nat) (N S : DataW Nat) (steps stop : Int) (s u : ByteArray) (p : Option Nat) (x : Int) (w : World) (hd : Dk w d bn bs N S steps stop) (hs : s.size ≤ maxLen) (hu : u.size ≤ maxLen) (hat : N.atKey (.string s.data.toList) .nil = ptrD p) (hx : stepE steps stop (renameE s u p) = some x) :
    Calls Tryd.prog 30 #[.pointer (some ⟨d, 0, none⟩), .string s, .string u] w fun e w' => e = .returned (errV (some x)) ∧ Below w.heap.size w w' := by
  have HG := Lib.hid (fun w1 h => named_any d bn (.map (some bs)) steps stop N s p w1 h)
  have HU := Lib.hid (fun w1 => good_any u w1 (Nat.le_trans hu (by decide)))
  have HD := Lib.hid hd
  have HS := Lib.hid (fun w1 h => dkstep_no d bn bs N S steps stop (renameE s u p) x w1 h hx)
  have HA := Lib.hid (And.intro hat hs)
  clear hd hs hu hat hx
  unfold renameE at HS
  cases hg : goodB u with
  | false =>
    rw [hg] at HU HS
    simp only [Bool.false_eq_true, if_false] at HS
    obtain ⟨ev, hev⟩ : ∃ ev, errV (namedE s p) = ev := ⟨_, rfl⟩
    rw [hev] at HG
    clear hg hev
    unfold errV at HS ⊢
    go_enter Tryd.func30, Tryd.ntmps30
    go_wp2_with fail
    refine (HG.out _ HD.out.blk HD.out.nm HA.out.2 HA.out.1).mono ?_
    rintro e w1 ⟨rfl, hb1⟩
    have H0 := Lib.hid (And.intro hb1 (HD.out.below hb1))
    clear hb1
    go_wp2_with fail
    refine (HU.out _).mono ?_
    rintro e w2 ⟨rfl, hb2⟩
    have H1 := Lib.hid (And.intro (H0.out.1.trans (hb2.mono H0.out.1.size)) (H0.out.2.below hb2))
    clear hb2
    go_wp2_with fail
    refine (HS.out _ H1.out.2).mono ?_
    rintro e w3 ⟨rfl, hb3⟩
    go_wp2_with fail
    go_ret
    exact ⟨rfl, H1.out.1.trans (hb3.mono H1.out.1.size)⟩
  | true =>
    rw [hg] at HU HS
    simp only [if_true] at HS
    obtain ⟨ev, hev⟩ : ∃ ev, errV (namedE s p) = ev := ⟨_, rfl⟩
    rw [hev] at HG HS
    clear hg hev
    unfold errV at HS ⊢
    go_enter Tryd.func30, Tryd.ntmps30
    go_wp2_with fail
    refine (HG.out _ HD.out.blk HD.out.nm HA.out.2 HA.out.1).mono ?_
    rintro e w1 ⟨rfl, hb1⟩
    have H0 := Lib.hid (And.intro hb1 (HD.out.below hb1))
    clear hb1
    go_wp2_with fail
    refine (HU.out _).mono ?_
    rintro e w2 ⟨rfl, hb2⟩
    have H1 := Lib.hid (And.intro (H0.out.1.trans (hb2.mono H0.out.1.size)) (H0.out.2.below hb2))
    clear hb2
    go_wp2_with fail
    refine (HS.out _ H1.out.2).mono ?_
    rintro e w3 ⟨rfl, hb3⟩
    go_wp2_with fail
    go_ret
    exact ⟨rfl, H1.out.1.trans (hb3.mono H1.out.1.size)⟩

set_option maxRecDepth 100000 in
set_option maxHeartbeats 2000000 in
/-- Append at a name that is none, or at which nothing is. -/
theorem append_no (d bn bs : Nat) (N S : DataW Nat) (steps stop : Int) (s : ByteArray) (p : Option Nat) (B : Option Addr) (m k : Nat) (y x : Int) (w : World) (hd : Dk w d bn bs N S steps stop) (hs : s.size ≤ maxLen) (hat : N.atKey (.string s.data.toList) .nil = ptrD p) (hy : namedE s p = some y) (hx : stepE steps stop (some y) = some x) :
    Calls Tryd.prog 27 #[.pointer (some ⟨d, 0, none⟩), .string s, .slice B m k] w fun e w' => e = .returned (errV (some x)) ∧ Below w.heap.size w w' := by
  have HG := Lib.hid (fun w1 h => named_any d bn (.map (some bs)) steps stop N s p w1 h)
  rw [hy] at HG
  have HD := Lib.hid (And.intro hd trivial)
  have HS := Lib.hid (fun w1 h => dkstep_no d bn bs N S steps stop (some y) x w1 h hx)
  have HA := Lib.hid (And.intro hat hs)
  clear hd hs hat hx hy
  unfold errV at HG HS ⊢
  go_enter Tryd.func27, Tryd.ntmps27
  go_wp2_with fail
  refine (HG.out _ HD.out.1.blk HD.out.1.nm HA.out.2 HA.out.1).mono ?_
  rintro e w1 ⟨rfl, hb1⟩
  have H1 := Lib.hid (And.intro hb1 (HD.out.1.below hb1))
  clear hb1
  go_wp2_with fail
  refine (HS.out _ H1.out.2).mono ?_
  rintro e w2 ⟨rfl, hb2⟩
  go_wp2_with fail
  go_ret
  exact ⟨rfl, H1.out.1.trans (hb2.mono H1.out.1.size)⟩

set_option maxRecDepth 100000 in
set_option maxHeartbeats 2000000 in
/-- Append where there is a file: no room, or no more steps. -/
theorem append_no2 (d bn bs : Nat) (N S : DataW Nat) (steps stop : Int) (s : ByteArray) (f : Nat) (A : Option Addr) (c : Nat) (xs : List Int) (sf : Int) (B : Option Addr) (m k : Nat) (x : Int) (w : World) (hd : Dk w d bn bs N S steps stop) (hs : s.size ≤ maxLen) (hg : goodB s = true)
    (hat : N.atKey (.string s.data.toList) .nil = ptrD (some f)) (hf : Fl w f A c xs sf) (hlx : xs.length ≤ 60000) (hm : m ≤ maxLen) (hx : stepE steps stop (if 60000 < xs.length + m then some 4 else none) = some x) :
    Calls Tryd.prog 27 #[.pointer (some ⟨d, 0, none⟩), .string s, .slice B m k] w fun e w' => e = .returned (errV (some x)) ∧ Below w.heap.size w w' := by
  have HG := Lib.hid (fun w1 h => named_any d bn (.map (some bs)) steps stop N s (some f) w1 h)
  have he : errV (namedE s (some f)) = .nilIface := by unfold namedE; rw [hg]; rfl
  rw [he] at HG
  have HK := Lib.hid (keyS s hs)
  have HD := Lib.hid (And.intro hd hf)
  have HS := Lib.hid (fun w1 h => dkstep_no d bn bs N S steps stop _ x w1 h hx)
  have HA := Lib.hid (And.intro hat hs)
  have hmi : (m : Int) ≤ 9223372036854775807 := by simp only [maxLen] at hm; omega
  have hxi : (xs.length : Int) ≤ 60000 := by omega
  by_cases hfull : 60000 < xs.length + m
  · rw [if_pos hfull] at HS
    have hfi : decide ((60000 : Int) - (xs.length : Int) < (m : Int)) = true := by simp; omega
    unfold errV at HS ⊢
    clear hd hs hg hat hf he hm hx hlx hfull
    go_enter Tryd.func27, Tryd.ntmps27
    go_wp2_with fail
    refine (HG.out _ HD.out.1.blk HD.out.1.nm HA.out.2 HA.out.1).mono ?_
    rintro e w1 ⟨rfl, hb1⟩
    have hD1 := HD.out.1.below hb1
    have hF1 := HD.out.2.below hb1
    have c0 := hD1.c0
    have hn1 := hD1.nm.tight
    have f0 : w1.cell? ⟨f, 0, none⟩ = some (.slice A xs.length c) := hF1.blk.cell 0
    have H1 := Lib.hid (And.intro hb1 hD1)
    clear hb1 hD1 hF1
    have hr1 : (Instr.lookup 78 (.map (some bn)) (.string s) false).run Tryd.prog w1 = .ok (.pointer (some ⟨f, 0, none⟩)) w1 := run_lookup_ptr lawS Tryd.underlying78 (zeroF _) hn1 HK.out (some f) HA.out.1
    clear hn1
    go_wp2_with fail
    clear c0 f0 hr1
    refine (HS.out _ H1.out.2).mono ?_
    rintro e w2 ⟨rfl, hb2⟩
    go_wp2_with fail
    go_ret
    exact ⟨rfl, H1.out.1.trans (hb2.mono H1.out.1.size)⟩
  · rw [if_neg hfull] at HS
    have hfi : decide ((60000 : Int) - (xs.length : Int) < (m : Int)) = false := by simp; omega
    unfold errV at HS ⊢
    clear hd hs hg hat hf he hm hx hlx hfull
    go_enter Tryd.func27, Tryd.ntmps27
    go_wp2_with fail
    refine (HG.out _ HD.out.1.blk HD.out.1.nm HA.out.2 HA.out.1).mono ?_
    rintro e w1 ⟨rfl, hb1⟩
    have hD1 := HD.out.1.below hb1
    have hF1 := HD.out.2.below hb1
    have c0 := hD1.c0
    have hn1 := hD1.nm.tight
    have f0 : w1.cell? ⟨f, 0, none⟩ = some (.slice A xs.length c) := hF1.blk.cell 0
    have H1 := Lib.hid (And.intro hb1 hD1)
    clear hb1 hD1 hF1
    have hr1 : (Instr.lookup 78 (.map (some bn)) (.string s) false).run Tryd.prog w1 = .ok (.pointer (some ⟨f, 0, none⟩)) w1 := run_lookup_ptr lawS Tryd.underlying78 (zeroF _) hn1 HK.out (some f) HA.out.1
    clear hn1
    go_wp2_with fail
    clear c0 f0 hr1
    refine (HS.out _ H1.out.2).mono ?_
    rintro e w2 ⟨rfl, hb2⟩
    go_wp2_with fail
    go_ret
    exact ⟨rfl, H1.out.1.trans (hb2.mono H1.out.1.size)⟩

set_option maxRecDepth 100000 in
set_option maxHeartbeats 1000000 in
theorem remove_ok (d bn bs : Nat) (N S : DataW Nat) (steps stop : Int) (s : ByteArray) (f : Nat) (w : World) (hd : Dk w d bn bs N S steps stop) (hgo : Goes steps stop) (h0 : 0 ≤ steps) (hk : steps ≤ 1000000000000) (hs : s.size ≤ maxLen) (hg : goodB s = true)
    (hat : N.atKey (.string s.data.toList) .nil = ptrD (some f)) :
    Calls Tryd.prog 31 #[.pointer (some ⟨d, 0, none⟩), .string s] w fun e w' => e = .returned .nilIface ∧ Dk w' d bn bs (N.del (.string s.data.toList)) S (steps + 1) stop ∧ Only (fun k => k = d ∨ k = bn) w w' := by
  have HG := Lib.hid (fun w1 h => named_any d bn (.map (some bs)) steps stop N s (some f) w1 h)
  have he : errV (namedE s (some f)) = .nilIface := by unfold namedE; rw [hg]; rfl
  rw [he] at HG
  have HK := Lib.hid (keyS s hs)
  have HD := Lib.hid hd
  have HS := Lib.hid (fun w1 h => dkstep_ok d bn bs N S steps stop w1 h hgo h0 hk)
  have HA := Lib.hid (And.intro hat hs)
  clear hd hgo h0 hk hs hg hat he
  go_enter Tryd.func31, Tryd.ntmps31
  go_wp2_with fail
  refine (HG.out _ HD.out.blk HD.out.nm HA.out.2 HA.out.1).mono ?_
  rintro e w1 ⟨rfl, hb1⟩
  have H1 := Lib.hid (And.intro hb1 (HD.out.below hb1))
  clear hb1
  go_wp2_with fail
  refine (HS.out _ H1.out.2).mono ?_
  rintro e w3 ⟨rfl, hD3, ho3⟩
  have c0 := hD3.c0
  have hn3 := hD3.nm.tight
  have H3 := Lib.hid (And.intro hD3 ho3)
  clear hD3 ho3
  go_wp2_with (first | (at_delete; refine wpList_delete_own _ rfl _ _ 78 9 rfl 93 lawS Tryd.underlying78 ptrElem bn _ _ rfl hn3 _ _ rfl HK.out ?_; intro w4 hn4 ht4) | fail)
  clear c0 hn3
  go_ret
  obtain ⟨hD3, ho3⟩ := H3.out
  have ho5 : Only (fun k => k = bn) w3 w4 := Only.of_grown ht4.grown
  refine ⟨rfl, ⟨hD3.blk.only ho5 (fun e => hD3.nd.1 e.symm), ⟨_, hn4⟩, hD3.sf.only ho5 (fun e => hD3.ne e.symm), hD3.ne⟩, ?_⟩
  exact ((Only.of_below H1.out.1).trans (ho3.mono (fun k _ h => Or.inl h))).trans (ho5.mono (fun k _ h => Or.inr h))

set_option maxRecDepth 100000 in
theorem steps_any (d bn bs : Nat) (N S : DataW Nat) (steps stop : Int) (w : World) (hd : Dk w d bn bs N S steps stop) : Calls Tryd.prog 14 #[.pointer (some ⟨d, 0, none⟩)] w fun e w' => e = .returned (.int .i64 steps) ∧ Below w.heap.size w w' := by
  have c2 : w.cell? ⟨d, 2, none⟩ = some (.int .i64 steps) := hd.blk.cell 2
  clear hd
  go_enter Tryd.func14, Tryd.ntmps14
  go_wp2_with fail
  go_ret
  exact ⟨rfl, Below.refl _ _⟩

set_option maxRecDepth 100000 in
theorem stop_any (d bn bs : Nat) (N S : DataW Nat) (steps stop at_ : Int) (w : World) (hd : Dk w d bn bs N S steps stop) : Calls Tryd.prog 33 #[.pointer (some ⟨d, 0, none⟩), .int .i64 at_] w fun e w' => e = .returned (.tuple #[]) ∧ Dk w' d bn bs N S steps (max (-1) at_) ∧ Only (fun k => k = d) w w' := by
  have HD := Lib.hid hd
  have c3 : w.cell? ⟨d, 3, none⟩ = some (.int .i64 stop) := hd.blk.cell 3
  have z := hd.blk.frozen
  clear hd
  go_enter Tryd.func33, Tryd.ntmps33
  go_wp2_with fail
  go_end0
  have ho : Only (fun k => k = d) w (w.setCell ⟨d, 3, none⟩ (.int .i64 (max (-1) at_))) := (Only.refl (fun k => k = d) w).setCell (p := ⟨d, 3, none⟩) rfl _
  refine ⟨rfl, ⟨?_, HD.out.nm.only ho HD.out.nd.1, HD.out.sf.only ho HD.out.nd.2, HD.out.ne⟩, ho⟩
  have := HD.out.blk.set_ 3 (.int .i64 (max (-1) at_))
  simpa using this
end Go.Proofs.YtbfmdpgghknccaaDoor
