/- Reader, Quoted. -/
import Derived.Test.YtpeckpiidgkgoaaGreatDoorPg6
import Derived.BigQuiet
import Derived.Lib.Strings
import Derived.WalkLawsBesides
import Derived.Deep.RegionHeld3
import Derived.Deep.RegionWith
import Derived.Deep.RegionLaw
/- The reader of json: its small methods. -/
namespace Go.Proofs.YtpeckpiidgkgoaaGreatDoor
open Go.RowKit
set_option linter.unusedVariables false
set_option linter.unusedSimpArgs false

/-- A reader. -/
def Rd (w : World) (rb : Nat) (s : ByteArray) (at_ : Nat) (left : Int) : Prop := Blk w rb 49 #[.string s, .int .i64 at_, .int .i64 left]
theorem Rd.cells {w : World} {rb : Nat} {s : ByteArray} {at_ : Nat} {left : Int} (h : Rd w rb s at_ left) : w.cell? ⟨rb, 0, none⟩ = some (.string s) ∧ w.cell? ⟨rb, 1, none⟩ = some (.int .i64 at_) ∧ w.cell? ⟨rb, 2, none⟩ = some (.int .i64 left) ∧ w.frozen? ⟨rb, 1, none⟩ = false ∧ w.frozen? ⟨rb, 2, none⟩ = false :=
  ⟨Blk.cell h 0, Blk.cell h 1, Blk.cell h 2, Blk.frozen h 1, Blk.frozen h 2⟩
theorem Rd.drew {w : World} {rb : Nat} {s : ByteArray} {at_ : Nat} {left : Int} (h : Rd w rb s at_ left) (n : Nat) : Rd (w.drewN n) rb s at_ left := Blk.drewN h n
theorem Rd.at {w : World} {rb : Nat} {s : ByteArray} {at_ : Nat} {left : Int} (h : Rd w rb s at_ left) {m : Nat} : Rd (w.setCell ⟨rb, 1, none⟩ (.int .i64 ((at_ : Int) + m))) rb s (at_ + m) left := by
  have := Blk.set_ h 1 (.int .i64 ((at_ : Int) + m))
  unfold Rd
  rw [show ((at_ + m : Nat) : Int) = (at_ : Int) + m from by omega]
  exact this
theorem Only.drewN' {S : Nat → Prop} (w : World) (n : Nat) : Only S w (w.drewN n) := ⟨rfl, rfl, rfl, Nat.le_refl _, fun _ _ _ => rfl⟩
/-- What takes answers. -/
def TakesQ (w : World) (rb : Nat) (s : ByteArray) (at_ : Nat) (left : Int) (c : Nat) (e : Ending) (w' : World) : Prop :=
  (((toN s)[at_]? = some c ∧ e = .returned (.bool true) ∧ Rd w' rb s (at_ + 1) left) ∨ ((toN s)[at_]? ≠ some c ∧ e = .returned (.bool false) ∧ Rd w' rb s at_ left)) ∧ Only (fun k => k = rb) w w'
set_option maxRecDepth 100000 in
set_option maxHeartbeats 1000000 in
theorem takes_any (w : World) (rb : Nat) (s : ByteArray) (hs : s.size ≤ 60000) (at_ : Nat) (hat : at_ ≤ s.size) (left : Int) (c : Nat) (hc : c < 256) (h : Rd w rb s at_ left) :
    Calls Tryz.prog 23 #[.pointer (some ⟨rb, 0, none⟩), .int .u8 c] w (TakesQ w rb s at_ left c) := by
  obtain ⟨h0, h1, h2, f1, f2⟩ := h.cells
  have HR := Lib.hid h
  have HN := Lib.hid (toN_len s)
  clear h
  by_cases hlt : at_ < s.size
  case neg =>
    have hlt1 : ¬ (at_ : Int) < (s.size : Int) := by omega
    have hno : (toN s)[at_]? ≠ some c := by rw [List.getElem?_eq_none (by rw [HN.out]; omega)]; simp
    have HQ := Lib.hid hno
    clear hno
    go_enter Tryz.func23, Tryz.ntmps23
    go_wp2_with fail
    go_big_quiet (fail)
    go_wp2_with fail
    go_ret
    exact ⟨.inr ⟨HQ.out, rfl, Blk.drewN HR.out _⟩, ⟨rfl, rfl, rfl, Nat.le_refl _, fun _ _ _ => rfl⟩⟩
  have hlt1 : (at_ : Int) < (s.size : Int) := by omega
  have ha := toN_at hlt
  obtain ⟨x, hx⟩ : ∃ x, (s[at_]'hlt).toNat = x := ⟨_, rfl⟩
  have hcell : ∀ h, ((s[at_]'h).toNat : Int) = (x : Int) := by intro h; rw [hx]
  rw [hx] at ha
  clear hx
  by_cases he : x = c
  · subst he
    have HQ := Lib.hid ha
    clear ha
    go_enter Tryz.func23, Tryz.ntmps23
    go_wp2_with fail
    go_big_quiet (fail)
    go_wp2_with fail
    go_ret
    refine ⟨.inl ⟨HQ.out, rfl, ?_⟩, Only.setCell (S := fun k => k = rb) (p := ⟨rb, 1, none⟩) (Only.drewN' w _) rfl _⟩
    exact (HR.out.drew _).at (m := 1)
  · have e1 : ((x : Int) == (c : Int)) = false := by simp; omega
    have e2 : ¬ ((x : Int) = (c : Int)) := by omega
    have HQ := Lib.hid (show (toN s)[at_]? ≠ some c by rw [ha]; simpa using he)
    clear ha he
    go_enter Tryz.func23, Tryz.ntmps23
    go_wp2_with fail
    go_big_quiet (fail)
    go_wp2_with fail
    go_ret
    exact ⟨.inr ⟨HQ.out, rfl, Blk.drewN HR.out _⟩, ⟨rfl, rfl, rfl, Nat.le_refl _, fun _ _ _ => rfl⟩⟩
/-- The end that a fault makes. -/
def faultE (at_ : Nat) (x : Int) : Ending := .panicked [{ v := .iface 45 (.agg #[.int .i64 at_, .iface 43 (.int .i64 x)]), recovered := false }]
set_option maxRecDepth 100000 in
set_option maxHeartbeats 1000000 in
theorem fail_any (w : World) (rb : Nat) (at_ : Nat) (x : Int) :
    Calls Tryz.prog 11 #[.pointer (some ⟨rb, 0, none⟩), .int .i64 at_, .iface 43 (.int .i64 x)] w fun e w' => e = faultE at_ x ∧ w' = w := by
  go_enter Tryz.func11, Tryz.ntmps11
  go_wp2_with fail
  all_goals first | exact ⟨rfl, rfl⟩ | exact ⟨rfl, rfl, rfl⟩
/-- What want does. -/
def WantQ (w : World) (rb : Nat) (s : ByteArray) (at_ : Nat) (left : Int) (c : Nat) (e : Ending) (w' : World) : Prop :=
  (((toN s)[at_]? = some c ∧ e = .returned (.tuple #[]) ∧ Rd w' rb s (at_ + 1) left) ∨ ((toN s)[at_]? ≠ some c ∧ e = faultE at_ 2)) ∧ Only (fun k => k = rb) w w'
set_option maxRecDepth 100000 in
set_option maxHeartbeats 1000000 in
theorem want_any (w : World) (rb : Nat) (s : ByteArray) (hs : s.size ≤ 60000) (at_ : Nat) (hat : at_ ≤ s.size) (left : Int) (c : Nat) (hc : c < 256) (h : Rd w rb s at_ left) :
    Calls Tryz.prog 43 #[.pointer (some ⟨rb, 0, none⟩), .int .u8 c] w (WantQ w rb s at_ left c) := by
  have HT := Lib.hid (takes_any w rb s hs at_ hat left c hc h)
  clear h
  go_enter Tryz.func43, Tryz.ntmps43
  go_wp2_with (first
    | (go_at_call 23; refine HT.out.mono ?_; rintro e w1 ⟨⟨ha, rfl, hr⟩ | ⟨ha, rfl, hr⟩, ho⟩ <;> obtain ⟨h0, h1, h2, f1, f2⟩ := hr.cells)
    | (go_at_call 11; refine (fail_any _ rb at_ 2).mono ?_; unfold faultE; rintro e w2 ⟨rfl, rfl⟩))
  · go_end0
    exact ⟨.inl ⟨ha, rfl, hr⟩, ho⟩
  · exact ⟨rfl, .inr ⟨ha, rfl⟩, ho⟩
theorem toN_extract (s : ByteArray) (i : Nat) : toN (s.extract i s.size) = (toN s).drop i := by
  unfold toN
  rw [← List.map_drop, Lib.extract_data]
  congr 1
  have : s.size = s.data.toList.length := rfl
  rw [List.take_of_length_le (by simp)]
end Go.Proofs.YtpeckpiidgkgoaaGreatDoor
/- The reader of json: a quoted text. -/
namespace Go.Proofs.YtpeckpiidgkgoaaGreatDoor
open Go.RowKit
set_option linter.unusedVariables false
set_option linter.unusedSimpArgs false

/-- What quoted answers: the text, or a fault. -/
def QuotedQ (w : World) (rb : Nat) (s : ByteArray) (at_ : Nat) (left : Int) (m : Nat) (e : Ending) (w' : World) : Prop :=
  ((∃ k n, txtF m ((toN s).drop at_) = some (k, n) ∧ at_ + n ≤ s.size ∧ e = .returned (.string k) ∧ Rd w' rb s (at_ + n) left) ∨ (txtF m ((toN s).drop at_) = none ∧ e = faultE at_ 2)) ∧ Only (fun k => k = rb) w w'
theorem Rd.below {w w' : World} {rb : Nat} {s : ByteArray} {at_ : Nat} {left : Int} (h : Rd w rb s at_ left) (hb : Below w.heap.size w w') : Rd w' rb s at_ left := Blk.below h hb (Blk.lt h)
/-- What unqV is, and txtF with it. -/
theorem quoted_cases (s : ByteArray) (at_ m : Nat) (hat : at_ ≤ s.size) :
    (unqV (s.extract at_ s.size) = .tuple #[.string ⟨#[]⟩, .int .i64 0, .iface 43 (.int .i64 2)] ∧ txtF m ((toN s).drop at_) = none) ∨
    (∃ k n, unqV (s.extract at_ s.size) = .tuple #[.string k, .int .i64 (n : Nat), .nilIface] ∧ at_ + n ≤ s.size ∧ ((k.size ≤ m ∧ txtF m ((toN s).drop at_) = some (k, n)) ∨ (m < k.size ∧ txtF m ((toN s).drop at_) = none))) := by
  have e := toN_extract s at_
  cases hu : unq (toN (s.extract at_ s.size)) with
  | none =>
    left
    refine ⟨unqV_none hu, ?_⟩
    rw [e] at hu
    unfold txtF
    rw [hu]
  | some p =>
    obtain ⟨b, n⟩ := p
    right
    have hl := (unq_len hu).2
    have hz : (ofN b).size = b.length := by unfold ofN; simp [ByteArray.size]
    refine ⟨ofN b, n, unqV_some hu, ?_, ?_⟩
    · rw [e, List.length_drop, toN_len] at hl
      omega
    · rw [e] at hu
      unfold txtF
      rw [hu, hz]
      by_cases hm : b.length ≤ m
      · left; exact ⟨hm, if_pos hm⟩
      · right; exact ⟨by omega, if_neg hm⟩
theorem quoted_cases' (s : ByteArray) (at_ m : Nat) (hat : at_ ≤ s.size) :
    (unqV (s.extract at_ s.size) = .tuple #[.string ⟨#[]⟩, .int .i64 0, .iface 43 (.int .i64 2)] ∧ txtF m ((toN s).drop at_) = none) ∨
    (∃ (k : ByteArray) (n : Nat), unqV (s.extract at_ s.size) = .tuple #[.string k, .int .i64 (n : Nat), .nilIface] ∧ at_ + n ≤ s.size ∧ ¬ m < k.size ∧ txtF m ((toN s).drop at_) = some (k, n) ∧ True) ∨
    (∃ (k : ByteArray) (n : Nat), unqV (s.extract at_ s.size) = .tuple #[.string k, .int .i64 (n : Nat), .nilIface] ∧ at_ + n ≤ s.size ∧ m < k.size ∧ txtF m ((toN s).drop at_) = none ∧ True) := by
  rcases quoted_cases s at_ m hat with h | ⟨k, n, q1, q2, ⟨q3, q4⟩ | ⟨q3, q4⟩⟩
  · exact .inl h
  · exact .inr (.inl ⟨k, n, q1, q2, by omega, q4, trivial⟩)
  · exact .inr (.inr ⟨k, n, q1, q2, by omega, q4, trivial⟩)
set_option maxRecDepth 100000 in
set_option maxHeartbeats 1000000 in
theorem quoted_any (w : World) (rb : Nat) (s : ByteArray) (hs : s.size ≤ 60000) (at_ : Nat) (hat : at_ ≤ s.size) (left : Int) (m : Nat) (hm : m ≤ 60) (h : Rd w rb s at_ left) :
    Calls Tryz.prog 25 #[.pointer (some ⟨rb, 0, none⟩), .int .i64 m] w (QuotedQ w rb s at_ left m) := by
  obtain ⟨h0, h1, h2, f1, f2⟩ := h.cells
  have hU := fun wx => unquote_any (s.extract at_ s.size) (by simp; omega) wx
  have HR := Lib.hid h
  have hat1 : (at_ : Int) ≤ (s.size : Int) := by omega
  have hm' : (m : Int) ≤ 60 := by omega
  rcases quoted_cases' s at_ m hat with ⟨q1, q2⟩ | ⟨k, n, q1, q2, q3, q4, q5⟩ | ⟨k, n, q1, q2, q3, q4, q5⟩
  all_goals
    rw [q1] at hU
    have HU := Lib.hid hU
    have HQ := Lib.hid q2
    clear h hU q1
    go_enter Tryz.func25, Tryz.ntmps25
    go_wp2_with fail
    go_region_with (go_at_call 44; refine (HU.out _).mono ?_; rintro e w3 ⟨rfl, hb3⟩; have hr3 : Rd w3 rb s at_ left := (show Rd w.drew rb s at_ left from HR.out).below hb3; obtain ⟨j0, j1, j2, g1, g2⟩ := hr3.cells; have HR3 := Lib.hid hr3; have HO3 := Lib.hid (Only.of_below (S := fun k => k = rb) (show Below w.heap.size w w3 from ⟨hb3.os, hb3.tape, hb3.output, hb3.size, hb3.block⟩)); clear hb3 hr3)
    go_wp2_with (go_at_call 11; refine (fail_any _ rb at_ 2).mono ?_; unfold faultE; rintro e w2 ⟨rfl, rfl⟩)
    all_goals first
      | (exfalso; omega)
      | exact ⟨rfl, .inr ⟨HQ.out, rfl⟩, HO3.out⟩
      | exact ⟨rfl, .inr ⟨q4, rfl⟩, HO3.out⟩
      | (go_ret; exact ⟨.inl ⟨k, n, q4, q2, rfl, HR3.out.at⟩, Only.setCell (S := fun k => k = rb) (p := ⟨rb, 1, none⟩) HO3.out rfl _⟩)
end Go.Proofs.YtpeckpiidgkgoaaGreatDoor
