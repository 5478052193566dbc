/- bookref3: Read; Do, where something is wrong. -/
import Derived.Test.YtbfmdpgghknccaaDoorKMem
namespace Go.Proofs.YtbfmdpgghknccaaDoor
open Go.RowKit Go.Maps
set_option linter.unusedVariables false
set_option linter.unusedSimpArgs false

/-- What is done. -/
def wV (kind : Int) (nm tn : ByteArray) (B : Option Addr) (bl bc : Nat) (n : Int) : Value := .agg #[.int .i64 kind, .string nm, .string tn, .slice B bl bc, .int .i64 n]
theorem FM.at_ {w : World} {k : Nat} {fm : List FM} {names safe : Nms} {steps stop : Int} {FA : Option Addr} {Fc : Nat} {NA : Option Addr} {Nc : Nat} {SA : Option Addr} {Sc : Nat} (h : KAt w k fm names safe steps stop FA Fc NA Nc SA Sc) {i : Nat} {f : FM} (hi : fm[i]? = some f) :
    ∃ b, FA = some ⟨b, 0, none⟩ ∧ w.cell? ⟨b, i * 2, none⟩ = some (.slice f.A f.b.length f.c) ∧ w.cell? ⟨b, i * 2 + 1, none⟩ = some (.int .i64 f.s) ∧ i < fm.length ∧ ∃ cur, Blk w b 97 cur := by
  have hlt : i < fm.length := (List.getElem?_eq_some_iff.1 hi).1
  obtain ⟨h0, h1⟩ := fcells_at fm i f hi
  rcases h.fl.2 with ⟨hv, hz⟩ | ⟨g, cap, cur, hv, _, hg, hnc, hcm, hcs, htake⟩
  · omega
  · injection hv with hA _ _
    subst hA
    have hc := h.fl.cells (g := g) rfl
    have e : ∀ j, (⟨g, 0, none⟩ : Addr).add j = ⟨g, j, none⟩ := fun j => by unfold Addr.add; split <;> simp_all
    have c0 := hc _ _ h0
    have c1 := hc _ _ h1
    rw [e] at c0 c1
    exact ⟨g, rfl, c0, c1, hlt, cur, hg⟩

/-- What Read gives: the bytes themselves. -/
def KReadQ (w : World) (fm : List FM) (g : Bool) (at_ : Option Nat) (e : Ending) (w' : World) : Prop :=
  ∃ A l c x, e = .returned (.tuple #[.slice A l.length c, .int .i64 x]) ∧ SlAt w' A (u8s l) ∧ Below w.heap.size w w' ∧
    (if g = false then l = [] ∧ x = 2 else match at_ with | none => l = [] ∧ x = 6 | some i => x = 0 ∧ ∃ f, fm[i]? = some f ∧ l = f.b)

set_option maxRecDepth 100000 in
set_option maxHeartbeats 1000000 in
theorem kread_any (k : Nat) (fm : List FM) (names safe : Nms) (steps stop : Int) (FA : Option Addr) (Fc : Nat) (NA : Option Addr) (Nc : Nat) (SA : Option Addr) (Sc : Nat) (s : ByteArray) (at_ : Option Nat) (w : World) (h : KAt w k fm names safe steps stop FA Fc NA Nc SA Sc) (hl : names.length ≤ 1000000) (hs : s.size ≤ maxLen) (hat : kFile names s.data.toList = at_) (hix : ∀ i, at_ = some i → i < fm.length) (hfl : fm.length ≤ 1000000) :
    Calls Tryd.prog 16 #[.pointer (some ⟨k, 0, none⟩), .string s] w (KReadQ w fm (rnamedB s) at_) := by
  have HN := Lib.hid (fun w1 => rnamed_any s w1 (Nat.le_trans hs (by decide)))
  have HF := Lib.hid (fun w1 h => kfile_any k fm names safe steps stop FA Fc NA Nc SA Sc s w1 h hl)
  have HK := Lib.hid h
  rw [hat] at HF
  clear h hs hat
  cases hg : rnamedB s with
  | false =>
    rw [hg] at HN
    clear hg
    go_enter Tryd.func16, Tryd.ntmps16
    go_wp2_with fail
    refine (HN.out _).mono ?_
    rintro e w1 ⟨rfl, hb1⟩
    go_wp2_with fail
    go_ret2
    exact ⟨none, [], 0, 2, rfl, .inl rfl, hb1, ⟨rfl, rfl⟩⟩
  | true =>
    rw [hg] at HN
    clear hg
    go_enter Tryd.func16, Tryd.ntmps16
    go_wp2_with fail
    refine (HN.out _).mono ?_
    rintro e w1 ⟨rfl, hb1⟩
    have H1 := Lib.hid (And.intro hb1 (HK.out.below hb1))
    clear hb1
    go_wp2_with fail
    refine (HF.out _ H1.out.2).mono ?_
    rintro e w2 ⟨rfl, hb2⟩
    have H2 := Lib.hid (And.intro (H1.out.1.trans (hb2.mono H1.out.1.size)) (H1.out.2.below hb2))
    clear hb2
    cases at_ with
    | none =>
      unfold atV
      go_wp2_with fail
      go_ret2
      exact ⟨none, [], 0, 6, rfl, .inl rfl, H2.out.1, ⟨rfl, rfl⟩⟩
    | some i =>
      have hi := hix i rfl
      obtain ⟨f, hf⟩ : ∃ f, fm[i]? = some f := ⟨_, List.getElem?_eq_getElem hi⟩
      have c0 : w2.cell? ⟨k, 0, none⟩ = some (.slice FA fm.length Fc) := H2.out.2.blk.cell 0
      obtain ⟨b, rfl, f0, f1, _⟩ := FM.at_ H2.out.2 hf
      have hii : (i : Int) < (fm.length : Int) := by omega
      have hn : ¬ (i : Int) < 0 := by omega
      unfold atV
      have HX := Lib.hid hf
      clear hf hi hix
      go_wp2_with fail
      go_ret2
      exact ⟨f.A, f.b, f.c, 0, rfl, SlAt.of_owns (H2.out.2.fb f (List.mem_of_getElem? HX.out)), H2.out.1, rfl, f, HX.out, rfl⟩

set_option maxRecDepth 100000 in
set_option maxHeartbeats 2000000 in
theorem kdo_8 (k : Nat) (fm : List FM) (names safe : Nms) (steps stop : Int) (FA : Option Addr) (Fc : Nat) (NA : Option Addr) (Nc : Nat) (SA : Option Addr) (Sc : Nat) (nm tn : ByteArray) (B : Option Addr) (bl bc : Nat) (n : Int) (w : World) (h : KAt w k fm names safe steps stop FA Fc NA Nc SA Sc) :
    Calls Tryd.prog 34 #[.pointer (some ⟨k, 0, none⟩), wV 8 nm tn B bl bc n] w fun e w' => e = .returned (.int .i64 0) ∧ KAt w' k fm names safe steps (max (-1) n) FA Fc NA Nc SA Sc ∧ Only (fun q => q = k) w w' := by
  unfold wV
  have hkl := h.blk.lt
  have c4 : w.cell? ⟨k, 4, none⟩ = some (.int .i64 stop) := h.blk.cell 4
  have z := h.blk.frozen
  have hne : ¬ w.heap.size = k := by omega
  have hfin : ∀ w' : World, ∀ x : Int, Blk w' k 47 #[.slice FA fm.length Fc, .slice NA names.length Nc, .slice SA safe.length Sc, .int .i64 steps, .int .i64 x] → Only (fun q => q = k) w w' → KAt w' k fm names safe steps x FA Fc NA Nc SA Sc := by
    intro w' x hb ho
    exact ⟨hb, row_only h.fl ho (row_ne_blk h.fl h.blk (by decide)), fun f hf => row_only (h.fb f hf) ho (row_ne_blk (h.fb f hf) h.blk (by decide)), row_only h.nm ho (row_ne_blk h.nm h.blk (by decide)), row_only h.sf ho (row_ne_blk h.sf h.blk (by decide))⟩
  have HH := Lib.hid (And.intro h hfin)
  clear h hfin
  by_cases hn : n < 0
  · have hm : max (-1) n = -1 := by omega
    have d0 : decide (n < 0) = true := by simpa using hn
    rw [hm]
    clear hm hn
    go_enter Tryd.func34, Tryd.ntmps34
    go_wp2_with fail
    go_ret
    have hB := (HH.out.1.blk.set_ 4 (.int .i64 n)).set_ 4 (.int .i64 (-1))
    have ho : Only (fun q => q = k) w ((w.setCell ⟨k, 4, none⟩ (.int .i64 n)).setCell ⟨k, 4, none⟩ (.int .i64 (-1))) := ((Only.refl (fun q => q = k) w).setCell (p := ⟨k, 4, none⟩) rfl _).setCell (p := ⟨k, 4, none⟩) rfl _
    exact ⟨rfl, (HH.out.2 _ _ (by simpa using hB) ho).below ((Below.refl _ _).alloc (Nat.le_refl _) _), ho.alloc _⟩
  · have hm : max (-1) n = n := by omega
    have d0 : decide (n < 0) = false := by simpa using hn
    rw [hm]
    clear hm hn
    go_enter Tryd.func34, Tryd.ntmps34
    go_wp2_with fail
    go_ret
    have hB := HH.out.1.blk.set_ 4 (.int .i64 n)
    have ho : Only (fun q => q = k) w (w.setCell ⟨k, 4, none⟩ (.int .i64 n)) := (Only.refl (fun q => q = k) w).setCell (p := ⟨k, 4, none⟩) rfl _
    exact ⟨rfl, (HH.out.2 _ _ (by simpa using hB) ho).below ((Below.refl _ _).alloc (Nat.le_refl _) _), ho.alloc _⟩

theorem KAt.drewN {w : World} {k : Nat} {fm : List FM} {names safe : Nms} {steps stop : Int} {FA : Option Addr} {Fc : Nat} {NA : Option Addr} {Nc : Nat} {SA : Option Addr} {Sc : Nat} (h : KAt w k fm names safe steps stop FA Fc NA Nc SA Sc) (n : Nat) : KAt (w.drewN n) k fm names safe steps stop FA Fc NA Nc SA Sc := h.only ((Only.refl (fun _ => False) w).drewN n) (fun _ _ _ _ _ h => h)

set_option maxRecDepth 100000 in
set_option maxHeartbeats 2000000 in
/-- No more steps. -/
theorem kdo_stopped (k : Nat) (fm : List FM) (names safe : Nms) (steps stop : Int) (FA : Option Addr) (Fc : Nat) (NA : Option Addr) (Nc : Nat) (SA : Option Addr) (Sc : Nat) (nm tn : ByteArray) (B : Option Addr) (bl bc : Nat) (n : Int) (kind : Int) (w : World) (h : KAt w k fm names safe steps stop FA Fc NA Nc SA Sc) (h7 : (kind == 7) = false) (h8 : (kind == 8) = false) (hgo : ¬ Goes steps stop) :
    Calls Tryd.prog 34 #[.pointer (some ⟨k, 0, none⟩), wV kind nm tn B bl bc n] w fun e w' => e = .returned (.int .i64 7) ∧ Below w.heap.size w w' := by
  unfold wV
  have hkl := h.blk.lt
  have c3 : w.cell? ⟨k, 3, none⟩ = some (.int .i64 steps) := h.blk.cell 3
  have c4 : w.cell? ⟨k, 4, none⟩ = some (.int .i64 stop) := h.blk.cell 4
  have hg : 0 ≤ stop ∧ stop ≤ steps := by
    unfold Goes at hgo
    exact Classical.not_not.1 hgo
  have d0 : decide (0 ≤ stop) = true := by simpa using hg.1
  have d1 : decide (stop ≤ steps) = true := by simpa using hg.2
  clear h hgo hg
  go_enter Tryd.func34, Tryd.ntmps34
  go_wp2_with fail
  go_quiet ((fail))
  go_wp2_with fail
  go_ret
  exact ⟨rfl, belowN ((Below.refl _ w).alloc (Nat.le_refl _) _) _⟩

set_option maxRecDepth 100000 in
set_option maxHeartbeats 2000000 in
theorem kdo_1_bad (k : Nat) (fm : List FM) (names safe : Nms) (steps stop : Int) (FA : Option Addr) (Fc : Nat) (NA : Option Addr) (Nc : Nat) (SA : Option Addr) (Sc : Nat) (nm tn : ByteArray) (B : Option Addr) (bl bc : Nat) (n : Int) (at_ : Option Nat) (w : World) (h : KAt w k fm names safe steps stop FA Fc NA Nc SA Sc) (hl : names.length ≤ 1000000) (hs : nm.size ≤ maxLen) (ht : tn.size ≤ maxLen) (hat : kFile names nm.data.toList = at_) (hgo : Goes steps stop) (hg : rnamedB nm = false) :
    Calls Tryd.prog 34 #[.pointer (some ⟨k, 0, none⟩), wV 1 nm tn B bl bc n] w fun e w' => e = .returned (.int .i64 2) ∧ Below w.heap.size w w' := by
  unfold wV
  have HN := Lib.hid (fun w1 => rnamed_any nm w1 (Nat.le_trans hs (by decide)))
  have HT := Lib.hid (fun w1 => rnamed_any tn w1 (Nat.le_trans ht (by decide)))
  have HF := Lib.hid (fun w1 h => kfile_any k fm names safe steps stop FA Fc NA Nc SA Sc nm w1 h hl)
  have HH := Lib.hid h
  rw [hat] at HF
  have hkl := h.blk.lt
  have c3 : w.cell? ⟨k, 3, none⟩ = some (.int .i64 steps) := h.blk.cell 3
  have c4 : w.cell? ⟨k, 4, none⟩ = some (.int .i64 stop) := h.blk.cell 4
  clear h hs ht hat hl
  rw [hg] at HN
  clear hg
  rcases goes_cases hgo with d0 | ⟨d0, d1⟩
  all_goals
    clear hgo
    go_enter Tryd.func34, Tryd.ntmps34
    go_wp2_with fail
    go_quiet ((fail))
    go_wp2_with fail
    clear c3 c4
    refine (HN.out _).mono ?_
    rintro e w1 ⟨rfl, hb1⟩
    have H1 := Lib.hid (show Below w.heap.size w w1 ∧ KAt w1 k fm names safe steps stop FA Fc NA Nc SA Sc ∧ Blk w1 w.heap.size 53 #[.int .i64 1, .string nm, .string tn, .slice B bl bc, .int .i64 n] from by
      have ht : Below w.heap.size w w1 := (belowN ((Below.refl _ w).alloc (Nat.le_refl _) _) _).trans (hb1.mono (by simp))
      exact ⟨ht, HH.out.below ht, ((Blk.new w _ _).drewN _).below hb1 (by simp)⟩)
    clear hb1
    have b0 : w1.cell? ⟨w.heap.size, 0, none⟩ = some (.int .i64 1) := H1.out.2.2.cell 0
    have b1 : w1.cell? ⟨w.heap.size, 1, none⟩ = some (.string nm) := H1.out.2.2.cell 1
    have b2 : w1.cell? ⟨w.heap.size, 2, none⟩ = some (.string tn) := H1.out.2.2.cell 2
    have b3 : w1.cell? ⟨w.heap.size, 3, none⟩ = some (.slice B bl bc) := H1.out.2.2.cell 3
    have b4 : w1.cell? ⟨w.heap.size, 4, none⟩ = some (.int .i64 n) := H1.out.2.2.cell 4
    go_wp2_with fail
    clear b0 b1 b2 b3 b4
    refine (HF.out _ H1.out.2.1).mono ?_
    rintro e w2 ⟨rfl, hb2⟩
    have H2 := Lib.hid (And.intro (H1.out.1.trans (hb2.mono H1.out.1.size)) (And.intro (H1.out.2.1.below hb2) (H1.out.2.2.below hb2 H1.out.2.2.lt)))
    clear hb2
    have b0 : w2.cell? ⟨w.heap.size, 0, none⟩ = some (.int .i64 1) := H2.out.2.2.cell 0
    have b1 : w2.cell? ⟨w.heap.size, 1, none⟩ = some (.string nm) := H2.out.2.2.cell 1
    have b2 : w2.cell? ⟨w.heap.size, 2, none⟩ = some (.string tn) := H2.out.2.2.cell 2
    have b3 : w2.cell? ⟨w.heap.size, 3, none⟩ = some (.slice B bl bc) := H2.out.2.2.cell 3
    have b4 : w2.cell? ⟨w.heap.size, 4, none⟩ = some (.int .i64 n) := H2.out.2.2.cell 4
    go_wp2_with fail
    clear b0 b1 b2 b3 b4
    go_ret
    exact ⟨rfl, H2.out.1⟩

set_option maxRecDepth 100000 in
set_option maxHeartbeats 2000000 in
theorem kdo_2_bad (k : Nat) (fm : List FM) (names safe : Nms) (steps stop : Int) (FA : Option Addr) (Fc : Nat) (NA : Option Addr) (Nc : Nat) (SA : Option Addr) (Sc : Nat) (nm tn : ByteArray) (B : Option Addr) (bl bc : Nat) (n : Int) (at_ : Option Nat) (w : World) (h : KAt w k fm names safe steps stop FA Fc NA Nc SA Sc) (hl : names.length ≤ 1000000) (hs : nm.size ≤ maxLen) (ht : tn.size ≤ maxLen) (hat : kFile names nm.data.toList = at_) (hgo : Goes steps stop) (hg : rnamedB nm = false) :
    Calls Tryd.prog 34 #[.pointer (some ⟨k, 0, none⟩), wV 2 nm tn B bl bc n] w fun e w' => e = .returned (.int .i64 2) ∧ Below w.heap.size w w' := by
  unfold wV
  have HN := Lib.hid (fun w1 => rnamed_any nm w1 (Nat.le_trans hs (by decide)))
  have HT := Lib.hid (fun w1 => rnamed_any tn w1 (Nat.le_trans ht (by decide)))
  have HF := Lib.hid (fun w1 h => kfile_any k fm names safe steps stop FA Fc NA Nc SA Sc nm w1 h hl)
  have HH := Lib.hid h
  rw [hat] at HF
  have hkl := h.blk.lt
  have c3 : w.cell? ⟨k, 3, none⟩ = some (.int .i64 steps) := h.blk.cell 3
  have c4 : w.cell? ⟨k, 4, none⟩ = some (.int .i64 stop) := h.blk.cell 4
  clear h hs ht hat hl
  rw [hg] at HN
  clear hg
  rcases goes_cases hgo with d0 | ⟨d0, d1⟩
  all_goals
    clear hgo
    go_enter Tryd.func34, Tryd.ntmps34
    go_wp2_with fail
    go_quiet ((fail))
    go_wp2_with fail
    clear c3 c4
    refine (HN.out _).mono ?_
    rintro e w1 ⟨rfl, hb1⟩
    have H1 := Lib.hid (show Below w.heap.size w w1 ∧ KAt w1 k fm names safe steps stop FA Fc NA Nc SA Sc ∧ Blk w1 w.heap.size 53 #[.int .i64 2, .string nm, .string tn, .slice B bl bc, .int .i64 n] from by
      have ht : Below w.heap.size w w1 := (belowN ((Below.refl _ w).alloc (Nat.le_refl _) _) _).trans (hb1.mono (by simp))
      exact ⟨ht, HH.out.below ht, ((Blk.new w _ _).drewN _).below hb1 (by simp)⟩)
    clear hb1
    have b0 : w1.cell? ⟨w.heap.size, 0, none⟩ = some (.int .i64 2) := H1.out.2.2.cell 0
    have b1 : w1.cell? ⟨w.heap.size, 1, none⟩ = some (.string nm) := H1.out.2.2.cell 1
    have b2 : w1.cell? ⟨w.heap.size, 2, none⟩ = some (.string tn) := H1.out.2.2.cell 2
    have b3 : w1.cell? ⟨w.heap.size, 3, none⟩ = some (.slice B bl bc) := H1.out.2.2.cell 3
    have b4 : w1.cell? ⟨w.heap.size, 4, none⟩ = some (.int .i64 n) := H1.out.2.2.cell 4
    go_wp2_with fail
    clear b0 b1 b2 b3 b4
    refine (HF.out _ H1.out.2.1).mono ?_
    rintro e w2 ⟨rfl, hb2⟩
    have H2 := Lib.hid (And.intro (H1.out.1.trans (hb2.mono H1.out.1.size)) (And.intro (H1.out.2.1.below hb2) (H1.out.2.2.below hb2 H1.out.2.2.lt)))
    clear hb2
    have b0 : w2.cell? ⟨w.heap.size, 0, none⟩ = some (.int .i64 2) := H2.out.2.2.cell 0
    have b1 : w2.cell? ⟨w.heap.size, 1, none⟩ = some (.string nm) := H2.out.2.2.cell 1
    have b2 : w2.cell? ⟨w.heap.size, 2, none⟩ = some (.string tn) := H2.out.2.2.cell 2
    have b3 : w2.cell? ⟨w.heap.size, 3, none⟩ = some (.slice B bl bc) := H2.out.2.2.cell 3
    have b4 : w2.cell? ⟨w.heap.size, 4, none⟩ = some (.int .i64 n) := H2.out.2.2.cell 4
    go_wp2_with fail
    clear b0 b1 b2 b3 b4
    go_ret
    exact ⟨rfl, H2.out.1⟩

set_option maxRecDepth 100000 in
set_option maxHeartbeats 2000000 in
theorem kdo_3_bad (k : Nat) (fm : List FM) (names safe : Nms) (steps stop : Int) (FA : Option Addr) (Fc : Nat) (NA : Option Addr) (Nc : Nat) (SA : Option Addr) (Sc : Nat) (nm tn : ByteArray) (B : Option Addr) (bl bc : Nat) (n : Int) (at_ : Option Nat) (w : World) (h : KAt w k fm names safe steps stop FA Fc NA Nc SA Sc) (hl : names.length ≤ 1000000) (hs : nm.size ≤ maxLen) (ht : tn.size ≤ maxLen) (hat : kFile names nm.data.toList = at_) (hgo : Goes steps stop) (hg : rnamedB nm = false) :
    Calls Tryd.prog 34 #[.pointer (some ⟨k, 0, none⟩), wV 3 nm tn B bl bc n] w fun e w' => e = .returned (.int .i64 2) ∧ Below w.heap.size w w' := by
  unfold wV
  have HN := Lib.hid (fun w1 => rnamed_any nm w1 (Nat.le_trans hs (by decide)))
  have HT := Lib.hid (fun w1 => rnamed_any tn w1 (Nat.le_trans ht (by decide)))
  have HF := Lib.hid (fun w1 h => kfile_any k fm names safe steps stop FA Fc NA Nc SA Sc nm w1 h hl)
  have HH := Lib.hid h
  rw [hat] at HF
  have hkl := h.blk.lt
  have c3 : w.cell? ⟨k, 3, none⟩ = some (.int .i64 steps) := h.blk.cell 3
  have c4 : w.cell? ⟨k, 4, none⟩ = some (.int .i64 stop) := h.blk.cell 4
  clear h hs ht hat hl
  rw [hg] at HN
  clear hg
  rcases goes_cases hgo with d0 | ⟨d0, d1⟩
  all_goals
    clear hgo
    go_enter Tryd.func34, Tryd.ntmps34
    go_wp2_with fail
    go_quiet ((fail))
    go_wp2_with fail
    clear c3 c4
    refine (HN.out _).mono ?_
    rintro e w1 ⟨rfl, hb1⟩
    have H1 := Lib.hid (show Below w.heap.size w w1 ∧ KAt w1 k fm names safe steps stop FA Fc NA Nc SA Sc ∧ Blk w1 w.heap.size 53 #[.int .i64 3, .string nm, .string tn, .slice B bl bc, .int .i64 n] from by
      have ht : Below w.heap.size w w1 := (belowN ((Below.refl _ w).alloc (Nat.le_refl _) _) _).trans (hb1.mono (by simp))
      exact ⟨ht, HH.out.below ht, ((Blk.new w _ _).drewN _).below hb1 (by simp)⟩)
    clear hb1
    have b0 : w1.cell? ⟨w.heap.size, 0, none⟩ = some (.int .i64 3) := H1.out.2.2.cell 0
    have b1 : w1.cell? ⟨w.heap.size, 1, none⟩ = some (.string nm) := H1.out.2.2.cell 1
    have b2 : w1.cell? ⟨w.heap.size, 2, none⟩ = some (.string tn) := H1.out.2.2.cell 2
    have b3 : w1.cell? ⟨w.heap.size, 3, none⟩ = some (.slice B bl bc) := H1.out.2.2.cell 3
    have b4 : w1.cell? ⟨w.heap.size, 4, none⟩ = some (.int .i64 n) := H1.out.2.2.cell 4
    go_wp2_with fail
    clear b0 b1 b2 b3 b4
    refine (HF.out _ H1.out.2.1).mono ?_
    rintro e w2 ⟨rfl, hb2⟩
    have H2 := Lib.hid (And.intro (H1.out.1.trans (hb2.mono H1.out.1.size)) (And.intro (H1.out.2.1.below hb2) (H1.out.2.2.below hb2 H1.out.2.2.lt)))
    clear hb2
    have b0 : w2.cell? ⟨w.heap.size, 0, none⟩ = some (.int .i64 3) := H2.out.2.2.cell 0
    have b1 : w2.cell? ⟨w.heap.size, 1, none⟩ = some (.string nm) := H2.out.2.2.cell 1
    have b2 : w2.cell? ⟨w.heap.size, 2, none⟩ = some (.string tn) := H2.out.2.2.cell 2
    have b3 : w2.cell? ⟨w.heap.size, 3, none⟩ = some (.slice B bl bc) := H2.out.2.2.cell 3
    have b4 : w2.cell? ⟨w.heap.size, 4, none⟩ = some (.int .i64 n) := H2.out.2.2.cell 4
    go_wp2_with fail
    clear b0 b1 b2 b3 b4
    go_ret
    exact ⟨rfl, H2.out.1⟩

set_option maxRecDepth 100000 in
set_option maxHeartbeats 2000000 in
theorem kdo_6_bad (k : Nat) (fm : List FM) (names safe : Nms) (steps stop : Int) (FA : Option Addr) (Fc : Nat) (NA : Option Addr) (Nc : Nat) (SA : Option Addr) (Sc : Nat) (nm tn : ByteArray) (B : Option Addr) (bl bc : Nat) (n : Int) (at_ : Option Nat) (w : World) (h : KAt w k fm names safe steps stop FA Fc NA Nc SA Sc) (hl : names.length ≤ 1000000) (hs : nm.size ≤ maxLen) (ht : tn.size ≤ maxLen) (hat : kFile names nm.data.toList = at_) (hgo : Goes steps stop) (hg : rnamedB nm = false) :
    Calls Tryd.prog 34 #[.pointer (some ⟨k, 0, none⟩), wV 6 nm tn B bl bc n] w fun e w' => e = .returned (.int .i64 2) ∧ Below w.heap.size w w' := by
  unfold wV
  have HN := Lib.hid (fun w1 => rnamed_any nm w1 (Nat.le_trans hs (by decide)))
  have HT := Lib.hid (fun w1 => rnamed_any tn w1 (Nat.le_trans ht (by decide)))
  have HF := Lib.hid (fun w1 h => kfile_any k fm names safe steps stop FA Fc NA Nc SA Sc nm w1 h hl)
  have HH := Lib.hid h
  rw [hat] at HF
  have hkl := h.blk.lt
  have c3 : w.cell? ⟨k, 3, none⟩ = some (.int .i64 steps) := h.blk.cell 3
  have c4 : w.cell? ⟨k, 4, none⟩ = some (.int .i64 stop) := h.blk.cell 4
  clear h hs ht hat hl
  rw [hg] at HN
  clear hg
  rcases goes_cases hgo with d0 | ⟨d0, d1⟩
  all_goals
    clear hgo
    go_enter Tryd.func34, Tryd.ntmps34
    go_wp2_with fail
    go_quiet ((fail))
    go_wp2_with fail
    clear c3 c4
    refine (HN.out _).mono ?_
    rintro e w1 ⟨rfl, hb1⟩
    have H1 := Lib.hid (show Below w.heap.size w w1 ∧ KAt w1 k fm names safe steps stop FA Fc NA Nc SA Sc ∧ Blk w1 w.heap.size 53 #[.int .i64 6, .string nm, .string tn, .slice B bl bc, .int .i64 n] from by
      have ht : Below w.heap.size w w1 := (belowN ((Below.refl _ w).alloc (Nat.le_refl _) _) _).trans (hb1.mono (by simp))
      exact ⟨ht, HH.out.below ht, ((Blk.new w _ _).drewN _).below hb1 (by simp)⟩)
    clear hb1
    have b0 : w1.cell? ⟨w.heap.size, 0, none⟩ = some (.int .i64 6) := H1.out.2.2.cell 0
    have b1 : w1.cell? ⟨w.heap.size, 1, none⟩ = some (.string nm) := H1.out.2.2.cell 1
    have b2 : w1.cell? ⟨w.heap.size, 2, none⟩ = some (.string tn) := H1.out.2.2.cell 2
    have b3 : w1.cell? ⟨w.heap.size, 3, none⟩ = some (.slice B bl bc) := H1.out.2.2.cell 3
    have b4 : w1.cell? ⟨w.heap.size, 4, none⟩ = some (.int .i64 n) := H1.out.2.2.cell 4
    go_wp2_with fail
    clear b0 b1 b2 b3 b4
    refine (HF.out _ H1.out.2.1).mono ?_
    rintro e w2 ⟨rfl, hb2⟩
    have H2 := Lib.hid (And.intro (H1.out.1.trans (hb2.mono H1.out.1.size)) (And.intro (H1.out.2.1.below hb2) (H1.out.2.2.below hb2 H1.out.2.2.lt)))
    clear hb2
    have b0 : w2.cell? ⟨w.heap.size, 0, none⟩ = some (.int .i64 6) := H2.out.2.2.cell 0
    have b1 : w2.cell? ⟨w.heap.size, 1, none⟩ = some (.string nm) := H2.out.2.2.cell 1
    have b2 : w2.cell? ⟨w.heap.size, 2, none⟩ = some (.string tn) := H2.out.2.2.cell 2
    have b3 : w2.cell? ⟨w.heap.size, 3, none⟩ = some (.slice B bl bc) := H2.out.2.2.cell 3
    have b4 : w2.cell? ⟨w.heap.size, 4, none⟩ = some (.int .i64 n) := H2.out.2.2.cell 4
    go_wp2_with fail
    clear b0 b1 b2 b3 b4
    go_ret
    exact ⟨rfl, H2.out.1⟩

set_option maxRecDepth 100000 in
set_option maxHeartbeats 2000000 in
theorem kdo_5_bad (k : Nat) (fm : List FM) (names safe : Nms) (steps stop : Int) (FA : Option Addr) (Fc : Nat) (NA : Option Addr) (Nc : Nat) (SA : Option Addr) (Sc : Nat) (nm tn : ByteArray) (B : Option Addr) (bl bc : Nat) (n : Int) (at_ : Option Nat) (w : World) (h : KAt w k fm names safe steps stop FA Fc NA Nc SA Sc) (hl : names.length ≤ 1000000) (hs : nm.size ≤ maxLen) (ht : tn.size ≤ maxLen) (hat : kFile names nm.data.toList = at_) (hgo : Goes steps stop) (hg : rnamedB nm = false) :
    Calls Tryd.prog 34 #[.pointer (some ⟨k, 0, none⟩), wV 5 nm tn B bl bc n] w fun e w' => e = .returned (.int .i64 2) ∧ Below w.heap.size w w' := by
  unfold wV
  have HN := Lib.hid (fun w1 => rnamed_any nm w1 (Nat.le_trans hs (by decide)))
  have HT := Lib.hid (fun w1 => rnamed_any tn w1 (Nat.le_trans ht (by decide)))
  have HF := Lib.hid (fun w1 h => kfile_any k fm names safe steps stop FA Fc NA Nc SA Sc nm w1 h hl)
  have HH := Lib.hid h
  rw [hat] at HF
  have hkl := h.blk.lt
  have c3 : w.cell? ⟨k, 3, none⟩ = some (.int .i64 steps) := h.blk.cell 3
  have c4 : w.cell? ⟨k, 4, none⟩ = some (.int .i64 stop) := h.blk.cell 4
  clear h hs ht hat hl
  rw [hg] at HN
  clear hg
  obtain ⟨gt, hgt⟩ : ∃ gt, rnamedB tn = gt := ⟨_, rfl⟩
  rw [hgt] at HT
  clear hgt
  rcases goes_cases hgo with d0 | ⟨d0, d1⟩
  all_goals
    clear hgo
    go_enter Tryd.func34, Tryd.ntmps34
    go_wp2_with fail
    go_quiet ((fail))
    go_wp2_with fail
    clear c3 c4
    refine (HN.out _).mono ?_
    rintro e w1 ⟨rfl, hb1⟩
    have H1 := Lib.hid (show Below w.heap.size w w1 ∧ KAt w1 k fm names safe steps stop FA Fc NA Nc SA Sc ∧ Blk w1 w.heap.size 53 #[.int .i64 5, .string nm, .string tn, .slice B bl bc, .int .i64 n] from by
      have ht : Below w.heap.size w w1 := (belowN ((Below.refl _ w).alloc (Nat.le_refl _) _) _).trans (hb1.mono (by simp))
      exact ⟨ht, HH.out.below ht, ((Blk.new w _ _).drewN _).below hb1 (by simp)⟩)
    clear hb1
    have b0 : w1.cell? ⟨w.heap.size, 0, none⟩ = some (.int .i64 5) := H1.out.2.2.cell 0
    have b1 : w1.cell? ⟨w.heap.size, 1, none⟩ = some (.string nm) := H1.out.2.2.cell 1
    have b2 : w1.cell? ⟨w.heap.size, 2, none⟩ = some (.string tn) := H1.out.2.2.cell 2
    have b3 : w1.cell? ⟨w.heap.size, 3, none⟩ = some (.slice B bl bc) := H1.out.2.2.cell 3
    have b4 : w1.cell? ⟨w.heap.size, 4, none⟩ = some (.int .i64 n) := H1.out.2.2.cell 4
    go_wp2_with fail
    clear b0 b1 b2 b3 b4
    refine (HF.out _ H1.out.2.1).mono ?_
    rintro e w2 ⟨rfl, hb2⟩
    have H2 := Lib.hid (And.intro (H1.out.1.trans (hb2.mono H1.out.1.size)) (And.intro (H1.out.2.1.below hb2) (H1.out.2.2.below hb2 H1.out.2.2.lt)))
    clear hb2
    have b0 : w2.cell? ⟨w.heap.size, 0, none⟩ = some (.int .i64 5) := H2.out.2.2.cell 0
    have b1 : w2.cell? ⟨w.heap.size, 1, none⟩ = some (.string nm) := H2.out.2.2.cell 1
    have b2 : w2.cell? ⟨w.heap.size, 2, none⟩ = some (.string tn) := H2.out.2.2.cell 2
    have b3 : w2.cell? ⟨w.heap.size, 3, none⟩ = some (.slice B bl bc) := H2.out.2.2.cell 3
    have b4 : w2.cell? ⟨w.heap.size, 4, none⟩ = some (.int .i64 n) := H2.out.2.2.cell 4
    go_wp2_with fail
    clear b0 b1 b2 b3 b4
    refine (HT.out _).mono ?_
    rintro e w3 ⟨rfl, hb3⟩
    have H3 := Lib.hid (And.intro (H2.out.1.trans (hb3.mono H2.out.1.size)) (And.intro (H2.out.2.1.below hb3) (H2.out.2.2.below hb3 H2.out.2.2.lt)))
    clear hb3
    have b0 : w3.cell? ⟨w.heap.size, 0, none⟩ = some (.int .i64 5) := H3.out.2.2.cell 0
    have b1 : w3.cell? ⟨w.heap.size, 1, none⟩ = some (.string nm) := H3.out.2.2.cell 1
    have b2 : w3.cell? ⟨w.heap.size, 2, none⟩ = some (.string tn) := H3.out.2.2.cell 2
    have b3 : w3.cell? ⟨w.heap.size, 3, none⟩ = some (.slice B bl bc) := H3.out.2.2.cell 3
    have b4 : w3.cell? ⟨w.heap.size, 4, none⟩ = some (.int .i64 n) := H3.out.2.2.cell 4
    go_wp2_with fail
    clear b0 b1 b2 b3 b4
    go_ret
    exact ⟨rfl, H3.out.1⟩

set_option maxRecDepth 100000 in
set_option maxHeartbeats 2000000 in
theorem kdo_5_bad2 (k : Nat) (fm : List FM) (names safe : Nms) (steps stop : Int) (FA : Option Addr) (Fc : Nat) (NA : Option Addr) (Nc : Nat) (SA : Option Addr) (Sc : Nat) (nm tn : ByteArray) (B : Option Addr) (bl bc : Nat) (n : Int) (at_ : Option Nat) (w : World) (h : KAt w k fm names safe steps stop FA Fc NA Nc SA Sc) (hl : names.length ≤ 1000000) (hs : nm.size ≤ maxLen) (ht : tn.size ≤ maxLen) (hat : kFile names nm.data.toList = at_) (hgo : Goes steps stop) (hg : rnamedB nm = true) (hgt : rnamedB tn = false) :
    Calls Tryd.prog 34 #[.pointer (some ⟨k, 0, none⟩), wV 5 nm tn B bl bc n] w fun e w' => e = .returned (.int .i64 2) ∧ Below w.heap.size w w' := by
  unfold wV
  have HN := Lib.hid (fun w1 => rnamed_any nm w1 (Nat.le_trans hs (by decide)))
  have HT := Lib.hid (fun w1 => rnamed_any tn w1 (Nat.le_trans ht (by decide)))
  have HF := Lib.hid (fun w1 h => kfile_any k fm names safe steps stop FA Fc NA Nc SA Sc nm w1 h hl)
  have HH := Lib.hid h
  rw [hat] at HF
  have hkl := h.blk.lt
  have c3 : w.cell? ⟨k, 3, none⟩ = some (.int .i64 steps) := h.blk.cell 3
  have c4 : w.cell? ⟨k, 4, none⟩ = some (.int .i64 stop) := h.blk.cell 4
  clear h hs ht hat hl
  rw [hg] at HN
  clear hg
  rw [hgt] at HT
  clear hgt
  rcases goes_cases hgo with d0 | ⟨d0, d1⟩
  all_goals
    clear hgo
    go_enter Tryd.func34, Tryd.ntmps34
    go_wp2_with fail
    go_quiet ((fail))
    go_wp2_with fail
    clear c3 c4
    refine (HN.out _).mono ?_
    rintro e w1 ⟨rfl, hb1⟩
    have H1 := Lib.hid (show Below w.heap.size w w1 ∧ KAt w1 k fm names safe steps stop FA Fc NA Nc SA Sc ∧ Blk w1 w.heap.size 53 #[.int .i64 5, .string nm, .string tn, .slice B bl bc, .int .i64 n] from by
      have ht : Below w.heap.size w w1 := (belowN ((Below.refl _ w).alloc (Nat.le_refl _) _) _).trans (hb1.mono (by simp))
      exact ⟨ht, HH.out.below ht, ((Blk.new w _ _).drewN _).below hb1 (by simp)⟩)
    clear hb1
    have b0 : w1.cell? ⟨w.heap.size, 0, none⟩ = some (.int .i64 5) := H1.out.2.2.cell 0
    have b1 : w1.cell? ⟨w.heap.size, 1, none⟩ = some (.string nm) := H1.out.2.2.cell 1
    have b2 : w1.cell? ⟨w.heap.size, 2, none⟩ = some (.string tn) := H1.out.2.2.cell 2
    have b3 : w1.cell? ⟨w.heap.size, 3, none⟩ = some (.slice B bl bc) := H1.out.2.2.cell 3
    have b4 : w1.cell? ⟨w.heap.size, 4, none⟩ = some (.int .i64 n) := H1.out.2.2.cell 4
    go_wp2_with fail
    clear b0 b1 b2 b3 b4
    refine (HF.out _ H1.out.2.1).mono ?_
    rintro e w2 ⟨rfl, hb2⟩
    have H2 := Lib.hid (And.intro (H1.out.1.trans (hb2.mono H1.out.1.size)) (And.intro (H1.out.2.1.below hb2) (H1.out.2.2.below hb2 H1.out.2.2.lt)))
    clear hb2
    have b0 : w2.cell? ⟨w.heap.size, 0, none⟩ = some (.int .i64 5) := H2.out.2.2.cell 0
    have b1 : w2.cell? ⟨w.heap.size, 1, none⟩ = some (.string nm) := H2.out.2.2.cell 1
    have b2 : w2.cell? ⟨w.heap.size, 2, none⟩ = some (.string tn) := H2.out.2.2.cell 2
    have b3 : w2.cell? ⟨w.heap.size, 3, none⟩ = some (.slice B bl bc) := H2.out.2.2.cell 3
    have b4 : w2.cell? ⟨w.heap.size, 4, none⟩ = some (.int .i64 n) := H2.out.2.2.cell 4
    go_wp2_with fail
    clear b0 b1 b2 b3 b4
    refine (HT.out _).mono ?_
    rintro e w3 ⟨rfl, hb3⟩
    have H3 := Lib.hid (And.intro (H2.out.1.trans (hb3.mono H2.out.1.size)) (And.intro (H2.out.2.1.below hb3) (H2.out.2.2.below hb3 H2.out.2.2.lt)))
    clear hb3
    have b0 : w3.cell? ⟨w.heap.size, 0, none⟩ = some (.int .i64 5) := H3.out.2.2.cell 0
    have b1 : w3.cell? ⟨w.heap.size, 1, none⟩ = some (.string nm) := H3.out.2.2.cell 1
    have b2 : w3.cell? ⟨w.heap.size, 2, none⟩ = some (.string tn) := H3.out.2.2.cell 2
    have b3 : w3.cell? ⟨w.heap.size, 3, none⟩ = some (.slice B bl bc) := H3.out.2.2.cell 3
    have b4 : w3.cell? ⟨w.heap.size, 4, none⟩ = some (.int .i64 n) := H3.out.2.2.cell 4
    go_wp2_with fail
    clear b0 b1 b2 b3 b4
    go_ret
    exact ⟨rfl, H3.out.1⟩

set_option maxRecDepth 100000 in
set_option maxHeartbeats 2000000 in
theorem kdo_1_there (k : Nat) (fm : List FM) (names safe : Nms) (steps stop : Int) (FA : Option Addr) (Fc : Nat) (NA : Option Addr) (Nc : Nat) (SA : Option Addr) (Sc : Nat) (nm tn : ByteArray) (B : Option Addr) (bl bc : Nat) (n : Int) (at_ : Option Nat) (w : World) (h : KAt w k fm names safe steps stop FA Fc NA Nc SA Sc) (hl : names.length ≤ 1000000) (hs : nm.size ≤ maxLen) (ht : tn.size ≤ maxLen) (hat : kFile names nm.data.toList = at_) (hgo : Goes steps stop) (hg : rnamedB nm = true) (i : Nat) (hi : at_ = some i) :
    Calls Tryd.prog 34 #[.pointer (some ⟨k, 0, none⟩), wV 1 nm tn B bl bc n] w fun e w' => e = .returned (.int .i64 8) ∧ Below w.heap.size w w' := by
  unfold wV
  have HN := Lib.hid (fun w1 => rnamed_any nm w1 (Nat.le_trans hs (by decide)))
  have HT := Lib.hid (fun w1 => rnamed_any tn w1 (Nat.le_trans ht (by decide)))
  have HF := Lib.hid (fun w1 h => kfile_any k fm names safe steps stop FA Fc NA Nc SA Sc nm w1 h hl)
  have HH := Lib.hid h
  rw [hat] at HF
  have hkl := h.blk.lt
  have c3 : w.cell? ⟨k, 3, none⟩ = some (.int .i64 steps) := h.blk.cell 3
  have c4 : w.cell? ⟨k, 4, none⟩ = some (.int .i64 stop) := h.blk.cell 4
  clear h hs ht hat hl
  rw [hg] at HN
  clear hg
  subst hi
  unfold atV at HF
  rcases goes_cases hgo with d0 | ⟨d0, d1⟩
  all_goals
    clear hgo
    go_enter Tryd.func34, Tryd.ntmps34
    go_wp2_with fail
    go_quiet ((fail))
    go_wp2_with fail
    clear c3 c4
    refine (HN.out _).mono ?_
    rintro e w1 ⟨rfl, hb1⟩
    have H1 := Lib.hid (show Below w.heap.size w w1 ∧ KAt w1 k fm names safe steps stop FA Fc NA Nc SA Sc ∧ Blk w1 w.heap.size 53 #[.int .i64 1, .string nm, .string tn, .slice B bl bc, .int .i64 n] from by
      have ht : Below w.heap.size w w1 := (belowN ((Below.refl _ w).alloc (Nat.le_refl _) _) _).trans (hb1.mono (by simp))
      exact ⟨ht, HH.out.below ht, ((Blk.new w _ _).drewN _).below hb1 (by simp)⟩)
    clear hb1
    have b0 : w1.cell? ⟨w.heap.size, 0, none⟩ = some (.int .i64 1) := H1.out.2.2.cell 0
    have b1 : w1.cell? ⟨w.heap.size, 1, none⟩ = some (.string nm) := H1.out.2.2.cell 1
    have b2 : w1.cell? ⟨w.heap.size, 2, none⟩ = some (.string tn) := H1.out.2.2.cell 2
    have b3 : w1.cell? ⟨w.heap.size, 3, none⟩ = some (.slice B bl bc) := H1.out.2.2.cell 3
    have b4 : w1.cell? ⟨w.heap.size, 4, none⟩ = some (.int .i64 n) := H1.out.2.2.cell 4
    go_wp2_with fail
    clear b0 b1 b2 b3 b4
    refine (HF.out _ H1.out.2.1).mono ?_
    rintro e w2 ⟨rfl, hb2⟩
    have H2 := Lib.hid (And.intro (H1.out.1.trans (hb2.mono H1.out.1.size)) (And.intro (H1.out.2.1.below hb2) (H1.out.2.2.below hb2 H1.out.2.2.lt)))
    clear hb2
    have b0 : w2.cell? ⟨w.heap.size, 0, none⟩ = some (.int .i64 1) := H2.out.2.2.cell 0
    have b1 : w2.cell? ⟨w.heap.size, 1, none⟩ = some (.string nm) := H2.out.2.2.cell 1
    have b2 : w2.cell? ⟨w.heap.size, 2, none⟩ = some (.string tn) := H2.out.2.2.cell 2
    have b3 : w2.cell? ⟨w.heap.size, 3, none⟩ = some (.slice B bl bc) := H2.out.2.2.cell 3
    have b4 : w2.cell? ⟨w.heap.size, 4, none⟩ = some (.int .i64 n) := H2.out.2.2.cell 4
    go_wp2_with fail
    clear b0 b1 b2 b3 b4
    go_ret
    exact ⟨rfl, H2.out.1⟩

set_option maxRecDepth 100000 in
set_option maxHeartbeats 2000000 in
theorem kdo_2_none (k : Nat) (fm : List FM) (names safe : Nms) (steps stop : Int) (FA : Option Addr) (Fc : Nat) (NA : Option Addr) (Nc : Nat) (SA : Option Addr) (Sc : Nat) (nm tn : ByteArray) (B : Option Addr) (bl bc : Nat) (n : Int) (at_ : Option Nat) (w : World) (h : KAt w k fm names safe steps stop FA Fc NA Nc SA Sc) (hl : names.length ≤ 1000000) (hs : nm.size ≤ maxLen) (ht : tn.size ≤ maxLen) (hat : kFile names nm.data.toList = at_) (hgo : Goes steps stop) (hg : rnamedB nm = true) (hi : at_ = none) :
    Calls Tryd.prog 34 #[.pointer (some ⟨k, 0, none⟩), wV 2 nm tn B bl bc n] w fun e w' => e = .returned (.int .i64 6) ∧ Below w.heap.size w w' := by
  unfold wV
  have HN := Lib.hid (fun w1 => rnamed_any nm w1 (Nat.le_trans hs (by decide)))
  have HT := Lib.hid (fun w1 => rnamed_any tn w1 (Nat.le_trans ht (by decide)))
  have HF := Lib.hid (fun w1 h => kfile_any k fm names safe steps stop FA Fc NA Nc SA Sc nm w1 h hl)
  have HH := Lib.hid h
  rw [hat] at HF
  have hkl := h.blk.lt
  have c3 : w.cell? ⟨k, 3, none⟩ = some (.int .i64 steps) := h.blk.cell 3
  have c4 : w.cell? ⟨k, 4, none⟩ = some (.int .i64 stop) := h.blk.cell 4
  clear h hs ht hat hl
  rw [hg] at HN
  clear hg
  subst hi
  unfold atV at HF
  rcases goes_cases hgo with d0 | ⟨d0, d1⟩
  all_goals
    clear hgo
    go_enter Tryd.func34, Tryd.ntmps34
    go_wp2_with fail
    go_quiet ((fail))
    go_wp2_with fail
    clear c3 c4
    refine (HN.out _).mono ?_
    rintro e w1 ⟨rfl, hb1⟩
    have H1 := Lib.hid (show Below w.heap.size w w1 ∧ KAt w1 k fm names safe steps stop FA Fc NA Nc SA Sc ∧ Blk w1 w.heap.size 53 #[.int .i64 2, .string nm, .string tn, .slice B bl bc, .int .i64 n] from by
      have ht : Below w.heap.size w w1 := (belowN ((Below.refl _ w).alloc (Nat.le_refl _) _) _).trans (hb1.mono (by simp))
      exact ⟨ht, HH.out.below ht, ((Blk.new w _ _).drewN _).below hb1 (by simp)⟩)
    clear hb1
    have b0 : w1.cell? ⟨w.heap.size, 0, none⟩ = some (.int .i64 2) := H1.out.2.2.cell 0
    have b1 : w1.cell? ⟨w.heap.size, 1, none⟩ = some (.string nm) := H1.out.2.2.cell 1
    have b2 : w1.cell? ⟨w.heap.size, 2, none⟩ = some (.string tn) := H1.out.2.2.cell 2
    have b3 : w1.cell? ⟨w.heap.size, 3, none⟩ = some (.slice B bl bc) := H1.out.2.2.cell 3
    have b4 : w1.cell? ⟨w.heap.size, 4, none⟩ = some (.int .i64 n) := H1.out.2.2.cell 4
    go_wp2_with fail
    clear b0 b1 b2 b3 b4
    refine (HF.out _ H1.out.2.1).mono ?_
    rintro e w2 ⟨rfl, hb2⟩
    have H2 := Lib.hid (And.intro (H1.out.1.trans (hb2.mono H1.out.1.size)) (And.intro (H1.out.2.1.below hb2) (H1.out.2.2.below hb2 H1.out.2.2.lt)))
    clear hb2
    have b0 : w2.cell? ⟨w.heap.size, 0, none⟩ = some (.int .i64 2) := H2.out.2.2.cell 0
    have b1 : w2.cell? ⟨w.heap.size, 1, none⟩ = some (.string nm) := H2.out.2.2.cell 1
    have b2 : w2.cell? ⟨w.heap.size, 2, none⟩ = some (.string tn) := H2.out.2.2.cell 2
    have b3 : w2.cell? ⟨w.heap.size, 3, none⟩ = some (.slice B bl bc) := H2.out.2.2.cell 3
    have b4 : w2.cell? ⟨w.heap.size, 4, none⟩ = some (.int .i64 n) := H2.out.2.2.cell 4
    go_wp2_with fail
    clear b0 b1 b2 b3 b4
    go_ret
    exact ⟨rfl, H2.out.1⟩

set_option maxRecDepth 100000 in
set_option maxHeartbeats 2000000 in
theorem kdo_3_none (k : Nat) (fm : List FM) (names safe : Nms) (steps stop : Int) (FA : Option Addr) (Fc : Nat) (NA : Option Addr) (Nc : Nat) (SA : Option Addr) (Sc : Nat) (nm tn : ByteArray) (B : Option Addr) (bl bc : Nat) (n : Int) (at_ : Option Nat) (w : World) (h : KAt w k fm names safe steps stop FA Fc NA Nc SA Sc) (hl : names.length ≤ 1000000) (hs : nm.size ≤ maxLen) (ht : tn.size ≤ maxLen) (hat : kFile names nm.data.toList = at_) (hgo : Goes steps stop) (hg : rnamedB nm = true) (hi : at_ = none) :
    Calls Tryd.prog 34 #[.pointer (some ⟨k, 0, none⟩), wV 3 nm tn B bl bc n] w fun e w' => e = .returned (.int .i64 6) ∧ Below w.heap.size w w' := by
  unfold wV
  have HN := Lib.hid (fun w1 => rnamed_any nm w1 (Nat.le_trans hs (by decide)))
  have HT := Lib.hid (fun w1 => rnamed_any tn w1 (Nat.le_trans ht (by decide)))
  have HF := Lib.hid (fun w1 h => kfile_any k fm names safe steps stop FA Fc NA Nc SA Sc nm w1 h hl)
  have HH := Lib.hid h
  rw [hat] at HF
  have hkl := h.blk.lt
  have c3 : w.cell? ⟨k, 3, none⟩ = some (.int .i64 steps) := h.blk.cell 3
  have c4 : w.cell? ⟨k, 4, none⟩ = some (.int .i64 stop) := h.blk.cell 4
  clear h hs ht hat hl
  rw [hg] at HN
  clear hg
  subst hi
  unfold atV at HF
  rcases goes_cases hgo with d0 | ⟨d0, d1⟩
  all_goals
    clear hgo
    go_enter Tryd.func34, Tryd.ntmps34
    go_wp2_with fail
    go_quiet ((fail))
    go_wp2_with fail
    clear c3 c4
    refine (HN.out _).mono ?_
    rintro e w1 ⟨rfl, hb1⟩
    have H1 := Lib.hid (show Below w.heap.size w w1 ∧ KAt w1 k fm names safe steps stop FA Fc NA Nc SA Sc ∧ Blk w1 w.heap.size 53 #[.int .i64 3, .string nm, .string tn, .slice B bl bc, .int .i64 n] from by
      have ht : Below w.heap.size w w1 := (belowN ((Below.refl _ w).alloc (Nat.le_refl _) _) _).trans (hb1.mono (by simp))
      exact ⟨ht, HH.out.below ht, ((Blk.new w _ _).drewN _).below hb1 (by simp)⟩)
    clear hb1
    have b0 : w1.cell? ⟨w.heap.size, 0, none⟩ = some (.int .i64 3) := H1.out.2.2.cell 0
    have b1 : w1.cell? ⟨w.heap.size, 1, none⟩ = some (.string nm) := H1.out.2.2.cell 1
    have b2 : w1.cell? ⟨w.heap.size, 2, none⟩ = some (.string tn) := H1.out.2.2.cell 2
    have b3 : w1.cell? ⟨w.heap.size, 3, none⟩ = some (.slice B bl bc) := H1.out.2.2.cell 3
    have b4 : w1.cell? ⟨w.heap.size, 4, none⟩ = some (.int .i64 n) := H1.out.2.2.cell 4
    go_wp2_with fail
    clear b0 b1 b2 b3 b4
    refine (HF.out _ H1.out.2.1).mono ?_
    rintro e w2 ⟨rfl, hb2⟩
    have H2 := Lib.hid (And.intro (H1.out.1.trans (hb2.mono H1.out.1.size)) (And.intro (H1.out.2.1.below hb2) (H1.out.2.2.below hb2 H1.out.2.2.lt)))
    clear hb2
    have b0 : w2.cell? ⟨w.heap.size, 0, none⟩ = some (.int .i64 3) := H2.out.2.2.cell 0
    have b1 : w2.cell? ⟨w.heap.size, 1, none⟩ = some (.string nm) := H2.out.2.2.cell 1
    have b2 : w2.cell? ⟨w.heap.size, 2, none⟩ = some (.string tn) := H2.out.2.2.cell 2
    have b3 : w2.cell? ⟨w.heap.size, 3, none⟩ = some (.slice B bl bc) := H2.out.2.2.cell 3
    have b4 : w2.cell? ⟨w.heap.size, 4, none⟩ = some (.int .i64 n) := H2.out.2.2.cell 4
    go_wp2_with fail
    clear b0 b1 b2 b3 b4
    go_ret
    exact ⟨rfl, H2.out.1⟩

set_option maxRecDepth 100000 in
set_option maxHeartbeats 2000000 in
theorem kdo_6_none (k : Nat) (fm : List FM) (names safe : Nms) (steps stop : Int) (FA : Option Addr) (Fc : Nat) (NA : Option Addr) (Nc : Nat) (SA : Option Addr) (Sc : Nat) (nm tn : ByteArray) (B : Option Addr) (bl bc : Nat) (n : Int) (at_ : Option Nat) (w : World) (h : KAt w k fm names safe steps stop FA Fc NA Nc SA Sc) (hl : names.length ≤ 1000000) (hs : nm.size ≤ maxLen) (ht : tn.size ≤ maxLen) (hat : kFile names nm.data.toList = at_) (hgo : Goes steps stop) (hg : rnamedB nm = true) (hi : at_ = none) :
    Calls Tryd.prog 34 #[.pointer (some ⟨k, 0, none⟩), wV 6 nm tn B bl bc n] w fun e w' => e = .returned (.int .i64 6) ∧ Below w.heap.size w w' := by
  unfold wV
  have HN := Lib.hid (fun w1 => rnamed_any nm w1 (Nat.le_trans hs (by decide)))
  have HT := Lib.hid (fun w1 => rnamed_any tn w1 (Nat.le_trans ht (by decide)))
  have HF := Lib.hid (fun w1 h => kfile_any k fm names safe steps stop FA Fc NA Nc SA Sc nm w1 h hl)
  have HH := Lib.hid h
  rw [hat] at HF
  have hkl := h.blk.lt
  have c3 : w.cell? ⟨k, 3, none⟩ = some (.int .i64 steps) := h.blk.cell 3
  have c4 : w.cell? ⟨k, 4, none⟩ = some (.int .i64 stop) := h.blk.cell 4
  clear h hs ht hat hl
  rw [hg] at HN
  clear hg
  subst hi
  unfold atV at HF
  rcases goes_cases hgo with d0 | ⟨d0, d1⟩
  all_goals
    clear hgo
    go_enter Tryd.func34, Tryd.ntmps34
    go_wp2_with fail
    go_quiet ((fail))
    go_wp2_with fail
    clear c3 c4
    refine (HN.out _).mono ?_
    rintro e w1 ⟨rfl, hb1⟩
    have H1 := Lib.hid (show Below w.heap.size w w1 ∧ KAt w1 k fm names safe steps stop FA Fc NA Nc SA Sc ∧ Blk w1 w.heap.size 53 #[.int .i64 6, .string nm, .string tn, .slice B bl bc, .int .i64 n] from by
      have ht : Below w.heap.size w w1 := (belowN ((Below.refl _ w).alloc (Nat.le_refl _) _) _).trans (hb1.mono (by simp))
      exact ⟨ht, HH.out.below ht, ((Blk.new w _ _).drewN _).below hb1 (by simp)⟩)
    clear hb1
    have b0 : w1.cell? ⟨w.heap.size, 0, none⟩ = some (.int .i64 6) := H1.out.2.2.cell 0
    have b1 : w1.cell? ⟨w.heap.size, 1, none⟩ = some (.string nm) := H1.out.2.2.cell 1
    have b2 : w1.cell? ⟨w.heap.size, 2, none⟩ = some (.string tn) := H1.out.2.2.cell 2
    have b3 : w1.cell? ⟨w.heap.size, 3, none⟩ = some (.slice B bl bc) := H1.out.2.2.cell 3
    have b4 : w1.cell? ⟨w.heap.size, 4, none⟩ = some (.int .i64 n) := H1.out.2.2.cell 4
    go_wp2_with fail
    clear b0 b1 b2 b3 b4
    refine (HF.out _ H1.out.2.1).mono ?_
    rintro e w2 ⟨rfl, hb2⟩
    have H2 := Lib.hid (And.intro (H1.out.1.trans (hb2.mono H1.out.1.size)) (And.intro (H1.out.2.1.below hb2) (H1.out.2.2.below hb2 H1.out.2.2.lt)))
    clear hb2
    have b0 : w2.cell? ⟨w.heap.size, 0, none⟩ = some (.int .i64 6) := H2.out.2.2.cell 0
    have b1 : w2.cell? ⟨w.heap.size, 1, none⟩ = some (.string nm) := H2.out.2.2.cell 1
    have b2 : w2.cell? ⟨w.heap.size, 2, none⟩ = some (.string tn) := H2.out.2.2.cell 2
    have b3 : w2.cell? ⟨w.heap.size, 3, none⟩ = some (.slice B bl bc) := H2.out.2.2.cell 3
    have b4 : w2.cell? ⟨w.heap.size, 4, none⟩ = some (.int .i64 n) := H2.out.2.2.cell 4
    go_wp2_with fail
    clear b0 b1 b2 b3 b4
    go_ret
    exact ⟨rfl, H2.out.1⟩

set_option maxRecDepth 100000 in
set_option maxHeartbeats 2000000 in
theorem kdo_5_none (k : Nat) (fm : List FM) (names safe : Nms) (steps stop : Int) (FA : Option Addr) (Fc : Nat) (NA : Option Addr) (Nc : Nat) (SA : Option Addr) (Sc : Nat) (nm tn : ByteArray) (B : Option Addr) (bl bc : Nat) (n : Int) (at_ : Option Nat) (w : World) (h : KAt w k fm names safe steps stop FA Fc NA Nc SA Sc) (hl : names.length ≤ 1000000) (hs : nm.size ≤ maxLen) (ht : tn.size ≤ maxLen) (hat : kFile names nm.data.toList = at_) (hgo : Goes steps stop) (hg : rnamedB nm = true) (hgt : rnamedB tn = true) (hi : at_ = none) :
    Calls Tryd.prog 34 #[.pointer (some ⟨k, 0, none⟩), wV 5 nm tn B bl bc n] w fun e w' => e = .returned (.int .i64 6) ∧ Below w.heap.size w w' := by
  unfold wV
  have HN := Lib.hid (fun w1 => rnamed_any nm w1 (Nat.le_trans hs (by decide)))
  have HT := Lib.hid (fun w1 => rnamed_any tn w1 (Nat.le_trans ht (by decide)))
  have HF := Lib.hid (fun w1 h => kfile_any k fm names safe steps stop FA Fc NA Nc SA Sc nm w1 h hl)
  have HH := Lib.hid h
  rw [hat] at HF
  have hkl := h.blk.lt
  have c3 : w.cell? ⟨k, 3, none⟩ = some (.int .i64 steps) := h.blk.cell 3
  have c4 : w.cell? ⟨k, 4, none⟩ = some (.int .i64 stop) := h.blk.cell 4
  clear h hs ht hat hl
  rw [hg] at HN
  clear hg
  rw [hgt] at HT
  clear hgt
  subst hi
  unfold atV at HF
  rcases goes_cases hgo with d0 | ⟨d0, d1⟩
  all_goals
    clear hgo
    go_enter Tryd.func34, Tryd.ntmps34
    go_wp2_with fail
    go_quiet ((fail))
    go_wp2_with fail
    clear c3 c4
    refine (HN.out _).mono ?_
    rintro e w1 ⟨rfl, hb1⟩
    have H1 := Lib.hid (show Below w.heap.size w w1 ∧ KAt w1 k fm names safe steps stop FA Fc NA Nc SA Sc ∧ Blk w1 w.heap.size 53 #[.int .i64 5, .string nm, .string tn, .slice B bl bc, .int .i64 n] from by
      have ht : Below w.heap.size w w1 := (belowN ((Below.refl _ w).alloc (Nat.le_refl _) _) _).trans (hb1.mono (by simp))
      exact ⟨ht, HH.out.below ht, ((Blk.new w _ _).drewN _).below hb1 (by simp)⟩)
    clear hb1
    have b0 : w1.cell? ⟨w.heap.size, 0, none⟩ = some (.int .i64 5) := H1.out.2.2.cell 0
    have b1 : w1.cell? ⟨w.heap.size, 1, none⟩ = some (.string nm) := H1.out.2.2.cell 1
    have b2 : w1.cell? ⟨w.heap.size, 2, none⟩ = some (.string tn) := H1.out.2.2.cell 2
    have b3 : w1.cell? ⟨w.heap.size, 3, none⟩ = some (.slice B bl bc) := H1.out.2.2.cell 3
    have b4 : w1.cell? ⟨w.heap.size, 4, none⟩ = some (.int .i64 n) := H1.out.2.2.cell 4
    go_wp2_with fail
    clear b0 b1 b2 b3 b4
    refine (HF.out _ H1.out.2.1).mono ?_
    rintro e w2 ⟨rfl, hb2⟩
    have H2 := Lib.hid (And.intro (H1.out.1.trans (hb2.mono H1.out.1.size)) (And.intro (H1.out.2.1.below hb2) (H1.out.2.2.below hb2 H1.out.2.2.lt)))
    clear hb2
    have b0 : w2.cell? ⟨w.heap.size, 0, none⟩ = some (.int .i64 5) := H2.out.2.2.cell 0
    have b1 : w2.cell? ⟨w.heap.size, 1, none⟩ = some (.string nm) := H2.out.2.2.cell 1
    have b2 : w2.cell? ⟨w.heap.size, 2, none⟩ = some (.string tn) := H2.out.2.2.cell 2
    have b3 : w2.cell? ⟨w.heap.size, 3, none⟩ = some (.slice B bl bc) := H2.out.2.2.cell 3
    have b4 : w2.cell? ⟨w.heap.size, 4, none⟩ = some (.int .i64 n) := H2.out.2.2.cell 4
    go_wp2_with fail
    clear b0 b1 b2 b3 b4
    refine (HT.out _).mono ?_
    rintro e w3 ⟨rfl, hb3⟩
    have H3 := Lib.hid (And.intro (H2.out.1.trans (hb3.mono H2.out.1.size)) (And.intro (H2.out.2.1.below hb3) (H2.out.2.2.below hb3 H2.out.2.2.lt)))
    clear hb3
    have b0 : w3.cell? ⟨w.heap.size, 0, none⟩ = some (.int .i64 5) := H3.out.2.2.cell 0
    have b1 : w3.cell? ⟨w.heap.size, 1, none⟩ = some (.string nm) := H3.out.2.2.cell 1
    have b2 : w3.cell? ⟨w.heap.size, 2, none⟩ = some (.string tn) := H3.out.2.2.cell 2
    have b3 : w3.cell? ⟨w.heap.size, 3, none⟩ = some (.slice B bl bc) := H3.out.2.2.cell 3
    have b4 : w3.cell? ⟨w.heap.size, 4, none⟩ = some (.int .i64 n) := H3.out.2.2.cell 4
    go_wp2_with fail
    clear b0 b1 b2 b3 b4
    go_ret
    exact ⟨rfl, H3.out.1⟩
end Go.Proofs.YtbfmdpgghknccaaDoor
