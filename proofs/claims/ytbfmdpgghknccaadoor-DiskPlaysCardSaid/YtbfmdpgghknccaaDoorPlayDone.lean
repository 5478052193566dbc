/- booklaw3.done, file, booksame.Texts: contracts. -/
import Derived.Test.YtbfmdpgghknccaaDoorPlayK
import Derived.Test.YtbfmdpgghknccaaDoorPlayWf
import Derived.Test.YtbfmdpgghknccaaDoorTold
namespace Go.Proofs.YtbfmdpgghknccaaDoor
open Go.RowKit Go.Maps
set_option linter.unusedVariables false
set_option linter.unusedSimpArgs false

/-- The name of a number. -/
def fileN (v : Int) : ByteArray := if v = 0 ∨ v = 1 then ⟨#[97]⟩ else if v = 2 then ⟨#[98, 46, 98]⟩ else if v = 3 then ⟨#[99, 57]⟩ else if v = 4 then ⟨#[]⟩ else if v = 5 then ⟨#[65]⟩ else ⟨#[120]⟩
theorem fileN_cases (P : ByteArray → Prop) (h1 : P ⟨#[97]⟩) (h2 : P ⟨#[98, 46, 98]⟩) (h3 : P ⟨#[99, 57]⟩) (h4 : P ⟨#[]⟩) (h5 : P ⟨#[65]⟩) (h6 : P ⟨#[120]⟩) (v : Int) : P (fileN v) := by
  unfold fileN
  repeat (split; · assumption)
  assumption
theorem fileN_size (v : Int) : (fileN v).size ≤ maxLen := fileN_cases (fun s => s.size ≤ maxLen) (by decide) (by decide) (by decide) (by decide) (by decide) (by decide) v
theorem fileN_good (v : Int) : goodB (fileN v) = rnamedB (fileN v) := fileN_cases (fun s => goodB s = rnamedB s) (by decide +kernel) (by decide +kernel) (by decide +kernel) (by decide +kernel) (by decide +kernel) (by decide +kernel) v
theorem rnamed_ne (s : ByteArray) (h : rnamedB s = true) : s.data.toList ≠ [] := by
  unfold rnamedB at h
  intro e
  rw [ByteArray.toList_eq, e] at h
  cases h

theorem file_any (v : Int) (w : World) : Calls Tryd.prog 10 #[.int .i64 v] w fun e w' => e = .returned (.string (fileN v)) ∧ w = w' := by
  unfold fileN
  by_cases h0 : v = 0
  · subst h0
    go_enter Tryd.func10, Tryd.ntmps10
    go_wp2_with fail
    go_ret
    exact ⟨rfl, rfl⟩
  by_cases h1 : v = 1
  · subst h1
    go_enter Tryd.func10, Tryd.ntmps10
    go_wp2_with fail
    go_ret
    exact ⟨rfl, rfl⟩
  by_cases h2 : v = 2
  · subst h2
    go_enter Tryd.func10, Tryd.ntmps10
    go_wp2_with fail
    go_ret
    exact ⟨rfl, rfl⟩
  by_cases h3 : v = 3
  · subst h3
    go_enter Tryd.func10, Tryd.ntmps10
    go_wp2_with fail
    go_ret
    exact ⟨rfl, rfl⟩
  by_cases h4 : v = 4
  · subst h4
    go_enter Tryd.func10, Tryd.ntmps10
    go_wp2_with fail
    go_ret
    exact ⟨rfl, rfl⟩
  by_cases h5 : v = 5
  · subst h5
    go_enter Tryd.func10, Tryd.ntmps10
    go_wp2_with fail
    go_ret
    exact ⟨rfl, rfl⟩
  rw [if_neg (by omega), if_neg h2, if_neg h3, if_neg h4, if_neg h5]
  have f0 : (v == 0) = false := by simpa using h0
  have f1 : (v == 1) = false := by simpa using h1
  have f2 : (v == 2) = false := by simpa using h2
  have f3 : (v == 3) = false := by simpa using h3
  have f4 : (v == 4) = false := by simpa using h4
  have f5 : (v == 5) = false := by simpa using h5
  clear h0 h1 h2 h3 h4 h5
  go_enter Tryd.func10, Tryd.ntmps10
  go_wp2_with fail
  go_ret
  exact ⟨rfl, rfl⟩

set_option maxRecDepth 100000 in
set_option maxHeartbeats 800000 in
/-- Two texts' lists that read alike. -/
theorem texts_same (A B : Option Addr) (c d : Nat) (l : List (List UInt8)) (w : World) (hA : SlAt w A (strs l)) (hB : SlAt w B (strs l)) (hl : l.length ≤ 1000000) :
    Calls Tryd.prog 13 #[.slice A l.length c, .slice B l.length d] w fun e w' => e = .returned (.bool true) ∧ Below w.heap.size w w' := by
  obtain ⟨n, hn⟩ : ∃ n, l.length = n := ⟨_, rfl⟩
  rw [hn]
  have hli : (n : Int) ≤ 1000000 := by omega
  have HL := Lib.hid (And.intro hn (And.intro hA hB))
  clear hn hl hA hB
  go_enter Tryd.func13, Tryd.ntmps13
  go_wp2_with fail
  go_loopw [5] (fun i wr => ∃ k : Nat, k ≤ n ∧ i = .int .i64 k ∧ Below w.heap.size w wr) (fun i _ => n - (intOf i).toNat)
  case atStart => exact ⟨0, by omega, rfl, Below.refl _ _⟩
  case round =>
    obtain ⟨k, hk, rfl, hbr⟩ := hrel
    by_cases hlt : k < n
    · have d0 : decide ((k : Int) < (n : Int)) = true := by simp; omega
      obtain ⟨x, hx⟩ : ∃ x, l[k]? = some x := ⟨_, List.getElem?_eq_getElem (by rw [HL.out.1]; exact hlt)⟩
      obtain ⟨b1, o1, hA, c1⟩ := (HL.out.2.1.below hbr).at_ (strs_at l k x hx)
      obtain ⟨b2, o2, hB, c2⟩ := (HL.out.2.2.below hbr).at_ (strs_at l k x hx)
      obtain ⟨xb, hxb⟩ : ∃ xb : ByteArray, xb = ⟨x.toArray⟩ := ⟨_, rfl⟩
      rw [← hxb] at c1 c2
      have e1 : wr.cell? ⟨b1, o1 + k * 1, none⟩ = some (.string xb) := by rw [Nat.mul_one]; exact c1
      have e2 : wr.cell? ⟨b2, o2 + k * 1, none⟩ = some (.string xb) := by rw [Nat.mul_one]; exact c2
      subst hA hB
      have HB := Lib.hid hbr
      clear hx hxb hbr
      go_wp2_with fail
      go_quiet (fail)
      go_wp2_with fail
      go_roundw
      case rel => exact ⟨k + 1, by omega, by go_num, belowN HB.out _⟩
      case measure => simp [intOf] <;> omega
    · obtain rfl : k = n := by omega
      have d0 : decide ((k : Int) < (k : Int)) = false := by simp
      have HB := Lib.hid hbr
      clear hbr
      go_wp2_with fail
      go_ret
      exact ⟨rfl, HB.out⟩

/-- The error that was told is the fault. -/
theorem error_of (x : Int) (h : 0 ≤ x ∧ x ≤ 8) (w : World) (hE : ErrVar w) : Calls Tryd.prog 17 #[errV (errOf x), .int .i64 x] w fun e w' => e = .returned (.bool true) ∧ Below w.heap.size w w' := by
  by_cases h0 : x = 0
  · subst h0
    refine (error_nil 0 w).mono ?_
    rintro e w' ⟨rfl, rfl⟩
    exact ⟨rfl, Below.refl _ _⟩
  · have e1 : errV (errOf x) = .iface 98 (.int .i64 x) := by unfold errOf; rw [if_neg h0]; rfl
    rw [e1]
    refine (error_is x x w hE (by constructor <;> omega)).mono ?_
    rintro e w' ⟨rfl, hb⟩
    exact ⟨by simp, hb⟩

/-- A disk and its likeness, side by side. -/
def Play (W0 w : World) (d k : Nat) (ks : KZ) (m : Nat) : Prop :=
  ∃ bn bs N S dl fm FA Fc NA Nc SA Sc, DSide W0.heap.size w d bn bs N S dl ks ∧ KSide W0.heap.size w k fm FA Fc NA Nc SA Sc ks ∧ Apart dl fm ∧ Wf ks m ∧ Below W0.heap.size W0 w
theorem Play.below {W0 w w' : World} {d k : Nat} {ks : KZ} {m : Nat} (h : Play W0 w d k ks m) (hb : Below w.heap.size w w') : Play W0 w' d k ks m := by
  obtain ⟨bn, bs, N, S, dl, fm, FA, Fc, NA, Nc, SA, Sc, hd, hk, hap, hw, hbl⟩ := h
  exact ⟨bn, bs, N, S, dl, fm, FA, Fc, NA, Nc, SA, Sc, hd.below hb, hk.below hb, hap, hw, hbl.trans (hb.mono hbl.size)⟩
theorem Below.under {w0 w w' : World} (h : Below w0.heap.size w0 w) (k : Below w0.heap.size w w') : Below w0.heap.size w0 w' := h.trans k
def DoneQ (W0 : World) (d k m : Nat) (w : World) (e : Ending) (w' : World) : Prop := e = .returned (.bool true) ∧ (∃ ks', Play W0 w' d k ks' (m + 1)) ∧ ∀ q cs, Blk w q 48 cs → Blk w' q 48 cs

set_option maxRecDepth 100000 in
set_option maxHeartbeats 1000000 in
theorem done_1 (W0 w : World) (hE : ErrVar W0) (d k m : Nat) (ks : KZ) (hp : Play W0 w d k ks m) (hm : m ≤ 900) (u v : Int) (B : Option Addr) (ys : List Int) (bc : Nat) (n : Int) (hB : SlAt W0 B (u8s ys)) (hBd : ys ≠ [] → ∀ a, B = some a → a.block < W0.heap.size) (hl : ys.length ≤ maxLen) :
    Calls Tryd.prog 9 #[.pointer (some ⟨d, 0, none⟩), .pointer (some ⟨k, 0, none⟩), wV 1 (fileN u) (fileN v) B ys.length bc n] w (DoneQ W0 d k m w) := by
  obtain ⟨bn, bs, N, S, dl, fm, FA, Fc, NA, Nc, SA, Sc, hd, hk, hap, hw, hbl⟩ := hp
  obtain ⟨nm, hnm⟩ : ∃ nm, fileN u = nm := ⟨_, rfl⟩
  obtain ⟨tn, htn⟩ : ∃ tn, fileN v = tn := ⟨_, rfl⟩
  have hs : nm.size ≤ maxLen := by rw [← hnm]; exact fileN_size u
  have ht : tn.size ≤ maxLen := by rw [← htn]; exact fileN_size v
  have hgs : goodB nm = rnamedB nm := by rw [← hnm]; exact fileN_good u
  have hgt : goodB tn = rnamedB tn := by rw [← htn]; exact fileN_good v
  have hm9 : m ≤ 1000 := by omega
  rw [hnm, htn]
  unfold wV
  obtain ⟨bl, hbl2⟩ : ∃ bl, ys.length = bl := ⟨_, rfl⟩
  rw [hbl2]
  have hb1 : Below w.heap.size w (w.alloc (.cells #[.int .i64 1, .string nm, .string tn, .slice B bl bc, .int .i64 n] 53)) := (Below.refl _ w).alloc (Nat.le_refl _) _
  have hd1 := hd.below hb1
  have hk1 := hk.below hb1
  have hB1 : SlAt (w.alloc (.cells #[.int .i64 1, .string nm, .string tn, .slice B bl bc, .int .i64 n] 53)) B (u8s ys) := hB.below (hbl.trans (hb1.mono hbl.size))
  have hbx : Blk (w.alloc (.cells #[.int .i64 1, .string nm, .string tn, .slice B bl bc, .int .i64 n] 53)) w.heap.size 53 #[.int .i64 1, .string nm, .string tn, .slice B bl bc, .int .i64 n] := Blk.new w _ _
  have hcD := d_create hd1 hw hm9 nm hs
  rw [hgs] at hcD
  obtain ⟨x, hx⟩ : ∃ x, ks.fault 1 (rnamedB nm) (kFile ks.names nm.data.toList) 0 = x := ⟨_, rfl⟩
  obtain ⟨ks', hks⟩ : ∃ ks', ks.nx 1 (rnamedB nm) nm.data.toList [] [] = ks' := ⟨_, rfl⟩
  have hx9 : 0 ≤ x ∧ x ≤ 8 := by rw [← hx]; exact KZ.fault_in _ _ _ _ _
  have hw' : Wf ks' (m + 1) := by rw [← hks]; exact wf_nx hw 1 (by decide) _ _ _ _ (fun h => rnamed_ne nm h) (fun h5 h => by cases h5)
  rw [hx, hks] at hcD
  have HD := Lib.hid hcD
  have HX := Lib.hid (And.intro hd1 (And.intro hk1 (And.intro hap (And.intro hw (And.intro hbx (And.intro (hbl.trans (hb1.mono hbl.size)) (And.intro hB (And.intro hBd (And.intro hl (And.intro hs (And.intro ht (And.intro hw' (And.intro hx9 (And.intro hbl2 (And.intro hx hks)))))))))))))))
  clear hcD hd1 hk1 hap hw hbx hb1 hB1 hd hk hbl hnm htn hs ht hgs hgt hB hBd hl hw' hbl2 hks hx hx9 hm9
  go_enter Tryd.func9, Tryd.ntmps9
  go_wp2_with fail
  refine HD.out.mono ?_
  intro e w2 hq
  have hb1w : Below w.heap.size w (w.alloc (.cells #[.int .i64 1, .string nm, .string tn, .slice B bl bc, .int .i64 n] 53)) := (Below.refl _ w).alloc (Nat.le_refl _) _
  obtain ⟨hd1, hk1, hap, hw, hbx, hbl, hB, hBd, hl, hs, ht, hw', hx9, hbl2, hx, hks⟩ := HX.out
  have hm9 : m ≤ 1000 := by omega
  obtain ⟨rfl, ⟨bn', bs', N', S', dl', hd2, hap2⟩, hk2, hbox2, hb2⟩ := mid_make hd1 hk1 hap hq
  have hB2 : SlAt w2 B (u8s ys) := hB.below (hbl.trans hb2)
  have hx2 := hbox2 _ _ _ (by decide) (by decide) (by decide) hbx
  have c0 : w2.cell? ⟨w.heap.size, 0, none⟩ = some (.int .i64 1) := hx2.cell 0
  have c1 : w2.cell? ⟨w.heap.size, 1, none⟩ = some (.string nm) := hx2.cell 1
  have c2 : w2.cell? ⟨w.heap.size, 2, none⟩ = some (.string tn) := hx2.cell 2
  have c3 : w2.cell? ⟨w.heap.size, 3, none⟩ = some (.slice B bl bc) := hx2.cell 3
  have c4 : w2.cell? ⟨w.heap.size, 4, none⟩ = some (.int .i64 n) := hx2.cell 4
  have hcK := k_1 hk2 hw hm9 nm tn hs ht B n bl bc
  unfold wV at hcK
  try rw [hbl2] at hcK
  rw [hx, hks] at hcK
  have HK := Lib.hid hcK
  have harr : ∀ q cs, Blk w q 48 cs → Blk w2 q 48 cs := fun q cs hq => hbox2 q _ cs (by decide) (by decide) (by decide) (hq.below hb1w hq.lt)
  have H2 := Lib.hid (And.intro hd2 (And.intro hk2 (And.intro hap2 (And.intro (hbl.trans hb2) harr))))
  clear harr hcK hd2 hk2 hap2 hb2 hB2 hx2 hbox2 hd1 hk1 hap hw hbx hbl hB hBd hl hs ht hw' hx9 hbl2 hx hks hm9 hq hb1w
  go_wp2_with fail
  refine HK.out.mono ?_
  intro e w3 hq
  obtain ⟨hd2, hk2, hap2, hb3, harr⟩ := H2.out
  obtain ⟨rfl, hend, hbox3, hb⟩ := end_make hd2 hk2 hap2 hq
  have hb4 := hb3.trans hb
  have hx9 := HX.out.2.2.2.2.2.2.2.2.2.2.2.2.1
  have HEr := Lib.hid (error_of x hx9 _ (hE.below hb4))
  have harr3 : ∀ q cs, Blk w q 48 cs → Blk w3 q 48 cs := fun q cs hq => hbox3 q _ cs (by decide) (by decide) (harr q cs hq)
  have H3 := Lib.hid (And.intro hend (And.intro hb4 harr3))
  clear harr3 harr hbox3 hend hb4 hb hd2 hk2 hap2 hb3 hq hx9 c0 c1 c2 c3 c4
  go_wp2_with fail
  refine HEr.out.mono ?_
  rintro e w4 ⟨rfl, hb5⟩
  go_wp2_with fail
  go_ret
  obtain ⟨⟨fm', FA', Fc', NA', Nc', SA', Sc', hk4, hd4, hap4⟩, hb4, harr3⟩ := H3.out
  exact ⟨rfl, ⟨ks', Play.below ⟨_, _, _, _, _, _, _, _, _, _, _, _, hd4, hk4, hap4, HX.out.2.2.2.2.2.2.2.2.2.2.2.1, hb4⟩ hb5⟩, fun q cs hq => (harr3 q cs hq).below hb5 (harr3 q cs hq).lt⟩

set_option maxRecDepth 100000 in
set_option maxHeartbeats 1000000 in
theorem done_2 (W0 w : World) (hE : ErrVar W0) (d k m : Nat) (ks : KZ) (hp : Play W0 w d k ks m) (hm : m ≤ 900) (u v : Int) (B : Option Addr) (ys : List Int) (bc : Nat) (n : Int) (hB : SlAt W0 B (u8s ys)) (hBd : ys ≠ [] → ∀ a, B = some a → a.block < W0.heap.size) (hl : ys.length ≤ maxLen) :
    Calls Tryd.prog 9 #[.pointer (some ⟨d, 0, none⟩), .pointer (some ⟨k, 0, none⟩), wV 2 (fileN u) (fileN v) B ys.length bc n] w (DoneQ W0 d k m w) := by
  obtain ⟨bn, bs, N, S, dl, fm, FA, Fc, NA, Nc, SA, Sc, hd, hk, hap, hw, hbl⟩ := hp
  obtain ⟨nm, hnm⟩ : ∃ nm, fileN u = nm := ⟨_, rfl⟩
  obtain ⟨tn, htn⟩ : ∃ tn, fileN v = tn := ⟨_, rfl⟩
  have hs : nm.size ≤ maxLen := by rw [← hnm]; exact fileN_size u
  have ht : tn.size ≤ maxLen := by rw [← htn]; exact fileN_size v
  have hgs : goodB nm = rnamedB nm := by rw [← hnm]; exact fileN_good u
  have hgt : goodB tn = rnamedB tn := by rw [← htn]; exact fileN_good v
  have hm9 : m ≤ 1000 := by omega
  rw [hnm, htn]
  unfold wV
  obtain ⟨bl, hbl2⟩ : ∃ bl, ys.length = bl := ⟨_, rfl⟩
  rw [hbl2]
  have hb1 : Below w.heap.size w (w.alloc (.cells #[.int .i64 2, .string nm, .string tn, .slice B bl bc, .int .i64 n] 53)) := (Below.refl _ w).alloc (Nat.le_refl _) _
  have hd1 := hd.below hb1
  have hk1 := hk.below hb1
  have hB1 : SlAt (w.alloc (.cells #[.int .i64 2, .string nm, .string tn, .slice B bl bc, .int .i64 n] 53)) B (u8s ys) := hB.below (hbl.trans (hb1.mono hbl.size))
  have hbx : Blk (w.alloc (.cells #[.int .i64 2, .string nm, .string tn, .slice B bl bc, .int .i64 n] 53)) w.heap.size 53 #[.int .i64 2, .string nm, .string tn, .slice B bl bc, .int .i64 n] := Blk.new w _ _
  have hcD := d_append hd1 hw hm9 nm hs B ys bc hB1 hBd hl
  rw [hgs] at hcD
  rw [hbl2] at hcD
  obtain ⟨x, hx⟩ : ∃ x, ks.fault 2 (rnamedB nm) (kFile ks.names nm.data.toList) bl = x := ⟨_, rfl⟩
  obtain ⟨ks', hks⟩ : ∃ ks', ks.nx 2 (rnamedB nm) nm.data.toList [] ys = ks' := ⟨_, rfl⟩
  have hx9 : 0 ≤ x ∧ x ≤ 8 := by rw [← hx]; exact KZ.fault_in _ _ _ _ _
  have hw' : Wf ks' (m + 1) := by rw [← hks]; exact wf_nx hw 2 (by decide) _ _ _ _ (fun h => rnamed_ne nm h) (fun h5 h => by cases h5)
  rw [hx, hks] at hcD
  have HD := Lib.hid hcD
  have HX := Lib.hid (And.intro hd1 (And.intro hk1 (And.intro hap (And.intro hw (And.intro hbx (And.intro (hbl.trans (hb1.mono hbl.size)) (And.intro hB (And.intro hBd (And.intro hl (And.intro hs (And.intro ht (And.intro hw' (And.intro hx9 (And.intro hbl2 (And.intro hx hks)))))))))))))))
  clear hcD hd1 hk1 hap hw hbx hb1 hB1 hd hk hbl hnm htn hs ht hgs hgt hB hBd hl hw' hbl2 hks hx hx9 hm9
  go_enter Tryd.func9, Tryd.ntmps9
  go_wp2_with fail
  refine HD.out.mono ?_
  intro e w2 hq
  have hb1w : Below w.heap.size w (w.alloc (.cells #[.int .i64 2, .string nm, .string tn, .slice B bl bc, .int .i64 n] 53)) := (Below.refl _ w).alloc (Nat.le_refl _) _
  obtain ⟨hd1, hk1, hap, hw, hbx, hbl, hB, hBd, hl, hs, ht, hw', hx9, hbl2, hx, hks⟩ := HX.out
  have hm9 : m ≤ 1000 := by omega
  obtain ⟨rfl, ⟨bn', bs', N', S', dl', hd2, hap2⟩, hk2, hbox2, hb2⟩ := mid_make hd1 hk1 hap hq
  have hB2 : SlAt w2 B (u8s ys) := hB.below (hbl.trans hb2)
  have hx2 := hbox2 _ _ _ (by decide) (by decide) (by decide) hbx
  have c0 : w2.cell? ⟨w.heap.size, 0, none⟩ = some (.int .i64 2) := hx2.cell 0
  have c1 : w2.cell? ⟨w.heap.size, 1, none⟩ = some (.string nm) := hx2.cell 1
  have c2 : w2.cell? ⟨w.heap.size, 2, none⟩ = some (.string tn) := hx2.cell 2
  have c3 : w2.cell? ⟨w.heap.size, 3, none⟩ = some (.slice B bl bc) := hx2.cell 3
  have c4 : w2.cell? ⟨w.heap.size, 4, none⟩ = some (.int .i64 n) := hx2.cell 4
  have hcK := k_2 hk2 hw hm9 nm tn hs ht B n ys bc hB2 hBd hl
  unfold wV at hcK
  try rw [hbl2] at hcK
  rw [hx, hks] at hcK
  have HK := Lib.hid hcK
  have harr : ∀ q cs, Blk w q 48 cs → Blk w2 q 48 cs := fun q cs hq => hbox2 q _ cs (by decide) (by decide) (by decide) (hq.below hb1w hq.lt)
  have H2 := Lib.hid (And.intro hd2 (And.intro hk2 (And.intro hap2 (And.intro (hbl.trans hb2) harr))))
  clear harr hcK hd2 hk2 hap2 hb2 hB2 hx2 hbox2 hd1 hk1 hap hw hbx hbl hB hBd hl hs ht hw' hx9 hbl2 hx hks hm9 hq hb1w
  go_wp2_with fail
  refine HK.out.mono ?_
  intro e w3 hq
  obtain ⟨hd2, hk2, hap2, hb3, harr⟩ := H2.out
  obtain ⟨rfl, hend, hbox3, hb⟩ := end_make hd2 hk2 hap2 hq
  have hb4 := hb3.trans hb
  have hx9 := HX.out.2.2.2.2.2.2.2.2.2.2.2.2.1
  have HEr := Lib.hid (error_of x hx9 _ (hE.below hb4))
  have harr3 : ∀ q cs, Blk w q 48 cs → Blk w3 q 48 cs := fun q cs hq => hbox3 q _ cs (by decide) (by decide) (harr q cs hq)
  have H3 := Lib.hid (And.intro hend (And.intro hb4 harr3))
  clear harr3 harr hbox3 hend hb4 hb hd2 hk2 hap2 hb3 hq hx9 c0 c1 c2 c3 c4
  go_wp2_with fail
  refine HEr.out.mono ?_
  rintro e w4 ⟨rfl, hb5⟩
  go_wp2_with fail
  go_ret
  obtain ⟨⟨fm', FA', Fc', NA', Nc', SA', Sc', hk4, hd4, hap4⟩, hb4, harr3⟩ := H3.out
  exact ⟨rfl, ⟨ks', Play.below ⟨_, _, _, _, _, _, _, _, _, _, _, _, hd4, hk4, hap4, HX.out.2.2.2.2.2.2.2.2.2.2.2.1, hb4⟩ hb5⟩, fun q cs hq => (harr3 q cs hq).below hb5 (harr3 q cs hq).lt⟩

set_option maxRecDepth 100000 in
set_option maxHeartbeats 1000000 in
theorem done_3 (W0 w : World) (hE : ErrVar W0) (d k m : Nat) (ks : KZ) (hp : Play W0 w d k ks m) (hm : m ≤ 900) (u v : Int) (B : Option Addr) (ys : List Int) (bc : Nat) (n : Int) (hB : SlAt W0 B (u8s ys)) (hBd : ys ≠ [] → ∀ a, B = some a → a.block < W0.heap.size) (hl : ys.length ≤ maxLen) :
    Calls Tryd.prog 9 #[.pointer (some ⟨d, 0, none⟩), .pointer (some ⟨k, 0, none⟩), wV 3 (fileN u) (fileN v) B ys.length bc n] w (DoneQ W0 d k m w) := by
  obtain ⟨bn, bs, N, S, dl, fm, FA, Fc, NA, Nc, SA, Sc, hd, hk, hap, hw, hbl⟩ := hp
  obtain ⟨nm, hnm⟩ : ∃ nm, fileN u = nm := ⟨_, rfl⟩
  obtain ⟨tn, htn⟩ : ∃ tn, fileN v = tn := ⟨_, rfl⟩
  have hs : nm.size ≤ maxLen := by rw [← hnm]; exact fileN_size u
  have ht : tn.size ≤ maxLen := by rw [← htn]; exact fileN_size v
  have hgs : goodB nm = rnamedB nm := by rw [← hnm]; exact fileN_good u
  have hgt : goodB tn = rnamedB tn := by rw [← htn]; exact fileN_good v
  have hm9 : m ≤ 1000 := by omega
  rw [hnm, htn]
  unfold wV
  obtain ⟨bl, hbl2⟩ : ∃ bl, ys.length = bl := ⟨_, rfl⟩
  rw [hbl2]
  have hb1 : Below w.heap.size w (w.alloc (.cells #[.int .i64 3, .string nm, .string tn, .slice B bl bc, .int .i64 n] 53)) := (Below.refl _ w).alloc (Nat.le_refl _) _
  have hd1 := hd.below hb1
  have hk1 := hk.below hb1
  have hB1 : SlAt (w.alloc (.cells #[.int .i64 3, .string nm, .string tn, .slice B bl bc, .int .i64 n] 53)) B (u8s ys) := hB.below (hbl.trans (hb1.mono hbl.size))
  have hbx : Blk (w.alloc (.cells #[.int .i64 3, .string nm, .string tn, .slice B bl bc, .int .i64 n] 53)) w.heap.size 53 #[.int .i64 3, .string nm, .string tn, .slice B bl bc, .int .i64 n] := Blk.new w _ _
  have hcD := d_sync hd1 hw hm9 nm hs
  rw [hgs] at hcD
  obtain ⟨x, hx⟩ : ∃ x, ks.fault 3 (rnamedB nm) (kFile ks.names nm.data.toList) 0 = x := ⟨_, rfl⟩
  obtain ⟨ks', hks⟩ : ∃ ks', ks.nx 3 (rnamedB nm) nm.data.toList [] [] = ks' := ⟨_, rfl⟩
  have hx9 : 0 ≤ x ∧ x ≤ 8 := by rw [← hx]; exact KZ.fault_in _ _ _ _ _
  have hw' : Wf ks' (m + 1) := by rw [← hks]; exact wf_nx hw 3 (by decide) _ _ _ _ (fun h => rnamed_ne nm h) (fun h5 h => by cases h5)
  rw [hx, hks] at hcD
  have HD := Lib.hid hcD
  have HX := Lib.hid (And.intro hd1 (And.intro hk1 (And.intro hap (And.intro hw (And.intro hbx (And.intro (hbl.trans (hb1.mono hbl.size)) (And.intro hB (And.intro hBd (And.intro hl (And.intro hs (And.intro ht (And.intro hw' (And.intro hx9 (And.intro hbl2 (And.intro hx hks)))))))))))))))
  clear hcD hd1 hk1 hap hw hbx hb1 hB1 hd hk hbl hnm htn hs ht hgs hgt hB hBd hl hw' hbl2 hks hx hx9 hm9
  go_enter Tryd.func9, Tryd.ntmps9
  go_wp2_with fail
  refine HD.out.mono ?_
  intro e w2 hq
  have hb1w : Below w.heap.size w (w.alloc (.cells #[.int .i64 3, .string nm, .string tn, .slice B bl bc, .int .i64 n] 53)) := (Below.refl _ w).alloc (Nat.le_refl _) _
  obtain ⟨hd1, hk1, hap, hw, hbx, hbl, hB, hBd, hl, hs, ht, hw', hx9, hbl2, hx, hks⟩ := HX.out
  have hm9 : m ≤ 1000 := by omega
  obtain ⟨rfl, ⟨bn', bs', N', S', dl', hd2, hap2⟩, hk2, hbox2, hb2⟩ := mid_make hd1 hk1 hap hq
  have hB2 : SlAt w2 B (u8s ys) := hB.below (hbl.trans hb2)
  have hx2 := hbox2 _ _ _ (by decide) (by decide) (by decide) hbx
  have c0 : w2.cell? ⟨w.heap.size, 0, none⟩ = some (.int .i64 3) := hx2.cell 0
  have c1 : w2.cell? ⟨w.heap.size, 1, none⟩ = some (.string nm) := hx2.cell 1
  have c2 : w2.cell? ⟨w.heap.size, 2, none⟩ = some (.string tn) := hx2.cell 2
  have c3 : w2.cell? ⟨w.heap.size, 3, none⟩ = some (.slice B bl bc) := hx2.cell 3
  have c4 : w2.cell? ⟨w.heap.size, 4, none⟩ = some (.int .i64 n) := hx2.cell 4
  have hcK := k_3 hk2 hw hm9 nm tn hs ht B n bl bc
  unfold wV at hcK
  try rw [hbl2] at hcK
  rw [hx, hks] at hcK
  have HK := Lib.hid hcK
  have harr : ∀ q cs, Blk w q 48 cs → Blk w2 q 48 cs := fun q cs hq => hbox2 q _ cs (by decide) (by decide) (by decide) (hq.below hb1w hq.lt)
  have H2 := Lib.hid (And.intro hd2 (And.intro hk2 (And.intro hap2 (And.intro (hbl.trans hb2) harr))))
  clear harr hcK hd2 hk2 hap2 hb2 hB2 hx2 hbox2 hd1 hk1 hap hw hbx hbl hB hBd hl hs ht hw' hx9 hbl2 hx hks hm9 hq hb1w
  go_wp2_with fail
  refine HK.out.mono ?_
  intro e w3 hq
  obtain ⟨hd2, hk2, hap2, hb3, harr⟩ := H2.out
  obtain ⟨rfl, hend, hbox3, hb⟩ := end_make hd2 hk2 hap2 hq
  have hb4 := hb3.trans hb
  have hx9 := HX.out.2.2.2.2.2.2.2.2.2.2.2.2.1
  have HEr := Lib.hid (error_of x hx9 _ (hE.below hb4))
  have harr3 : ∀ q cs, Blk w q 48 cs → Blk w3 q 48 cs := fun q cs hq => hbox3 q _ cs (by decide) (by decide) (harr q cs hq)
  have H3 := Lib.hid (And.intro hend (And.intro hb4 harr3))
  clear harr3 harr hbox3 hend hb4 hb hd2 hk2 hap2 hb3 hq hx9 c0 c1 c2 c3 c4
  go_wp2_with fail
  refine HEr.out.mono ?_
  rintro e w4 ⟨rfl, hb5⟩
  go_wp2_with fail
  go_ret
  obtain ⟨⟨fm', FA', Fc', NA', Nc', SA', Sc', hk4, hd4, hap4⟩, hb4, harr3⟩ := H3.out
  exact ⟨rfl, ⟨ks', Play.below ⟨_, _, _, _, _, _, _, _, _, _, _, _, hd4, hk4, hap4, HX.out.2.2.2.2.2.2.2.2.2.2.2.1, hb4⟩ hb5⟩, fun q cs hq => (harr3 q cs hq).below hb5 (harr3 q cs hq).lt⟩

set_option maxRecDepth 100000 in
set_option maxHeartbeats 1000000 in
theorem done_4 (W0 w : World) (hE : ErrVar W0) (d k m : Nat) (ks : KZ) (hp : Play W0 w d k ks m) (hm : m ≤ 900) (u v : Int) (B : Option Addr) (ys : List Int) (bc : Nat) (n : Int) (hB : SlAt W0 B (u8s ys)) (hBd : ys ≠ [] → ∀ a, B = some a → a.block < W0.heap.size) (hl : ys.length ≤ maxLen) :
    Calls Tryd.prog 9 #[.pointer (some ⟨d, 0, none⟩), .pointer (some ⟨k, 0, none⟩), wV 4 (fileN u) (fileN v) B ys.length bc n] w (DoneQ W0 d k m w) := by
  obtain ⟨bn, bs, N, S, dl, fm, FA, Fc, NA, Nc, SA, Sc, hd, hk, hap, hw, hbl⟩ := hp
  obtain ⟨nm, hnm⟩ : ∃ nm, fileN u = nm := ⟨_, rfl⟩
  obtain ⟨tn, htn⟩ : ∃ tn, fileN v = tn := ⟨_, rfl⟩
  have hs : nm.size ≤ maxLen := by rw [← hnm]; exact fileN_size u
  have ht : tn.size ≤ maxLen := by rw [← htn]; exact fileN_size v
  have hgs : goodB nm = rnamedB nm := by rw [← hnm]; exact fileN_good u
  have hgt : goodB tn = rnamedB tn := by rw [← htn]; exact fileN_good v
  have hm9 : m ≤ 1000 := by omega
  rw [hnm, htn]
  unfold wV
  obtain ⟨bl, hbl2⟩ : ∃ bl, ys.length = bl := ⟨_, rfl⟩
  rw [hbl2]
  have hb1 : Below w.heap.size w (w.alloc (.cells #[.int .i64 4, .string nm, .string tn, .slice B bl bc, .int .i64 n] 53)) := (Below.refl _ w).alloc (Nat.le_refl _) _
  have hd1 := hd.below hb1
  have hk1 := hk.below hb1
  have hB1 : SlAt (w.alloc (.cells #[.int .i64 4, .string nm, .string tn, .slice B bl bc, .int .i64 n] 53)) B (u8s ys) := hB.below (hbl.trans (hb1.mono hbl.size))
  have hbx : Blk (w.alloc (.cells #[.int .i64 4, .string nm, .string tn, .slice B bl bc, .int .i64 n] 53)) w.heap.size 53 #[.int .i64 4, .string nm, .string tn, .slice B bl bc, .int .i64 n] := Blk.new w _ _
  have hcD := d_syncNames hd1 hw hm9 (rnamedB nm) nm.data.toList
  
  obtain ⟨x, hx⟩ : ∃ x, ks.fault 4 (rnamedB nm) (kFile ks.names nm.data.toList) 0 = x := ⟨_, rfl⟩
  obtain ⟨ks', hks⟩ : ∃ ks', ks.nx 4 (rnamedB nm) nm.data.toList [] [] = ks' := ⟨_, rfl⟩
  have hx9 : 0 ≤ x ∧ x ≤ 8 := by rw [← hx]; exact KZ.fault_in _ _ _ _ _
  have hw' : Wf ks' (m + 1) := by rw [← hks]; exact wf_nx hw 4 (by decide) _ _ _ _ (fun h => rnamed_ne nm h) (fun h5 h => by cases h5)
  rw [hx, hks] at hcD
  have HD := Lib.hid hcD
  have HX := Lib.hid (And.intro hd1 (And.intro hk1 (And.intro hap (And.intro hw (And.intro hbx (And.intro (hbl.trans (hb1.mono hbl.size)) (And.intro hB (And.intro hBd (And.intro hl (And.intro hs (And.intro ht (And.intro hw' (And.intro hx9 (And.intro hbl2 (And.intro hx hks)))))))))))))))
  clear hcD hd1 hk1 hap hw hbx hb1 hB1 hd hk hbl hnm htn hs ht hgs hgt hB hBd hl hw' hbl2 hks hx hx9 hm9
  go_enter Tryd.func9, Tryd.ntmps9
  go_wp2_with fail
  refine HD.out.mono ?_
  intro e w2 hq
  have hb1w : Below w.heap.size w (w.alloc (.cells #[.int .i64 4, .string nm, .string tn, .slice B bl bc, .int .i64 n] 53)) := (Below.refl _ w).alloc (Nat.le_refl _) _
  obtain ⟨hd1, hk1, hap, hw, hbx, hbl, hB, hBd, hl, hs, ht, hw', hx9, hbl2, hx, hks⟩ := HX.out
  have hm9 : m ≤ 1000 := by omega
  obtain ⟨rfl, ⟨bn', bs', N', S', dl', hd2, hap2⟩, hk2, hbox2, hb2⟩ := mid_make hd1 hk1 hap hq
  have hB2 : SlAt w2 B (u8s ys) := hB.below (hbl.trans hb2)
  have hx2 := hbox2 _ _ _ (by decide) (by decide) (by decide) hbx
  have c0 : w2.cell? ⟨w.heap.size, 0, none⟩ = some (.int .i64 4) := hx2.cell 0
  have c1 : w2.cell? ⟨w.heap.size, 1, none⟩ = some (.string nm) := hx2.cell 1
  have c2 : w2.cell? ⟨w.heap.size, 2, none⟩ = some (.string tn) := hx2.cell 2
  have c3 : w2.cell? ⟨w.heap.size, 3, none⟩ = some (.slice B bl bc) := hx2.cell 3
  have c4 : w2.cell? ⟨w.heap.size, 4, none⟩ = some (.int .i64 n) := hx2.cell 4
  have hcK := k_4 hk2 hw hm9 nm tn hs ht B n bl bc (rnamedB nm) nm.data.toList
  unfold wV at hcK
  try rw [hbl2] at hcK
  rw [hx, hks] at hcK
  have HK := Lib.hid hcK
  have harr : ∀ q cs, Blk w q 48 cs → Blk w2 q 48 cs := fun q cs hq => hbox2 q _ cs (by decide) (by decide) (by decide) (hq.below hb1w hq.lt)
  have H2 := Lib.hid (And.intro hd2 (And.intro hk2 (And.intro hap2 (And.intro (hbl.trans hb2) harr))))
  clear harr hcK hd2 hk2 hap2 hb2 hB2 hx2 hbox2 hd1 hk1 hap hw hbx hbl hB hBd hl hs ht hw' hx9 hbl2 hx hks hm9 hq hb1w
  go_wp2_with fail
  refine HK.out.mono ?_
  intro e w3 hq
  obtain ⟨hd2, hk2, hap2, hb3, harr⟩ := H2.out
  obtain ⟨rfl, hend, hbox3, hb⟩ := end_make hd2 hk2 hap2 hq
  have hb4 := hb3.trans hb
  have hx9 := HX.out.2.2.2.2.2.2.2.2.2.2.2.2.1
  have HEr := Lib.hid (error_of x hx9 _ (hE.below hb4))
  have harr3 : ∀ q cs, Blk w q 48 cs → Blk w3 q 48 cs := fun q cs hq => hbox3 q _ cs (by decide) (by decide) (harr q cs hq)
  have H3 := Lib.hid (And.intro hend (And.intro hb4 harr3))
  clear harr3 harr hbox3 hend hb4 hb hd2 hk2 hap2 hb3 hq hx9 c0 c1 c2 c3 c4
  go_wp2_with fail
  refine HEr.out.mono ?_
  rintro e w4 ⟨rfl, hb5⟩
  go_wp2_with fail
  go_ret
  obtain ⟨⟨fm', FA', Fc', NA', Nc', SA', Sc', hk4, hd4, hap4⟩, hb4, harr3⟩ := H3.out
  exact ⟨rfl, ⟨ks', Play.below ⟨_, _, _, _, _, _, _, _, _, _, _, _, hd4, hk4, hap4, HX.out.2.2.2.2.2.2.2.2.2.2.2.1, hb4⟩ hb5⟩, fun q cs hq => (harr3 q cs hq).below hb5 (harr3 q cs hq).lt⟩

set_option maxRecDepth 100000 in
set_option maxHeartbeats 1000000 in
theorem done_5 (W0 w : World) (hE : ErrVar W0) (d k m : Nat) (ks : KZ) (hp : Play W0 w d k ks m) (hm : m ≤ 900) (u v : Int) (B : Option Addr) (ys : List Int) (bc : Nat) (n : Int) (hB : SlAt W0 B (u8s ys)) (hBd : ys ≠ [] → ∀ a, B = some a → a.block < W0.heap.size) (hl : ys.length ≤ maxLen) :
    Calls Tryd.prog 9 #[.pointer (some ⟨d, 0, none⟩), .pointer (some ⟨k, 0, none⟩), wV 5 (fileN u) (fileN v) B ys.length bc n] w (DoneQ W0 d k m w) := by
  obtain ⟨bn, bs, N, S, dl, fm, FA, Fc, NA, Nc, SA, Sc, hd, hk, hap, hw, hbl⟩ := hp
  obtain ⟨nm, hnm⟩ : ∃ nm, fileN u = nm := ⟨_, rfl⟩
  obtain ⟨tn, htn⟩ : ∃ tn, fileN v = tn := ⟨_, rfl⟩
  have hs : nm.size ≤ maxLen := by rw [← hnm]; exact fileN_size u
  have ht : tn.size ≤ maxLen := by rw [← htn]; exact fileN_size v
  have hgs : goodB nm = rnamedB nm := by rw [← hnm]; exact fileN_good u
  have hgt : goodB tn = rnamedB tn := by rw [← htn]; exact fileN_good v
  have hm9 : m ≤ 1000 := by omega
  rw [hnm, htn]
  unfold wV
  obtain ⟨bl, hbl2⟩ : ∃ bl, ys.length = bl := ⟨_, rfl⟩
  rw [hbl2]
  have hb1 : Below w.heap.size w (w.alloc (.cells #[.int .i64 5, .string nm, .string tn, .slice B bl bc, .int .i64 n] 53)) := (Below.refl _ w).alloc (Nat.le_refl _) _
  have hd1 := hd.below hb1
  have hk1 := hk.below hb1
  have hB1 : SlAt (w.alloc (.cells #[.int .i64 5, .string nm, .string tn, .slice B bl bc, .int .i64 n] 53)) B (u8s ys) := hB.below (hbl.trans (hb1.mono hbl.size))
  have hbx : Blk (w.alloc (.cells #[.int .i64 5, .string nm, .string tn, .slice B bl bc, .int .i64 n] 53)) w.heap.size 53 #[.int .i64 5, .string nm, .string tn, .slice B bl bc, .int .i64 n] := Blk.new w _ _
  have hcD := d_rename hd1 hw hm9 nm tn hs ht
  rw [hgs, hgt] at hcD
  obtain ⟨x, hx⟩ : ∃ x, ks.fault 5 (rnamedB nm && rnamedB tn) (kFile ks.names nm.data.toList) 0 = x := ⟨_, rfl⟩
  obtain ⟨ks', hks⟩ : ∃ ks', ks.nx 5 (rnamedB nm && rnamedB tn) nm.data.toList tn.data.toList [] = ks' := ⟨_, rfl⟩
  have hx9 : 0 ≤ x ∧ x ≤ 8 := by rw [← hx]; exact KZ.fault_in _ _ _ _ _
  have hw' : Wf ks' (m + 1) := by rw [← hks]; exact wf_nx hw 5 (by decide) _ _ _ _ (fun h => rnamed_ne nm (Bool.and_eq_true_iff.1 h).1) (fun h5 h => rnamed_ne tn (Bool.and_eq_true_iff.1 h).2)
  rw [hx, hks] at hcD
  have HD := Lib.hid hcD
  have HX := Lib.hid (And.intro hd1 (And.intro hk1 (And.intro hap (And.intro hw (And.intro hbx (And.intro (hbl.trans (hb1.mono hbl.size)) (And.intro hB (And.intro hBd (And.intro hl (And.intro hs (And.intro ht (And.intro hw' (And.intro hx9 (And.intro hbl2 (And.intro hx hks)))))))))))))))
  clear hcD hd1 hk1 hap hw hbx hb1 hB1 hd hk hbl hnm htn hs ht hgs hgt hB hBd hl hw' hbl2 hks hx hx9 hm9
  go_enter Tryd.func9, Tryd.ntmps9
  go_wp2_with fail
  refine HD.out.mono ?_
  intro e w2 hq
  have hb1w : Below w.heap.size w (w.alloc (.cells #[.int .i64 5, .string nm, .string tn, .slice B bl bc, .int .i64 n] 53)) := (Below.refl _ w).alloc (Nat.le_refl _) _
  obtain ⟨hd1, hk1, hap, hw, hbx, hbl, hB, hBd, hl, hs, ht, hw', hx9, hbl2, hx, hks⟩ := HX.out
  have hm9 : m ≤ 1000 := by omega
  obtain ⟨rfl, ⟨bn', bs', N', S', dl', hd2, hap2⟩, hk2, hbox2, hb2⟩ := mid_make hd1 hk1 hap hq
  have hB2 : SlAt w2 B (u8s ys) := hB.below (hbl.trans hb2)
  have hx2 := hbox2 _ _ _ (by decide) (by decide) (by decide) hbx
  have c0 : w2.cell? ⟨w.heap.size, 0, none⟩ = some (.int .i64 5) := hx2.cell 0
  have c1 : w2.cell? ⟨w.heap.size, 1, none⟩ = some (.string nm) := hx2.cell 1
  have c2 : w2.cell? ⟨w.heap.size, 2, none⟩ = some (.string tn) := hx2.cell 2
  have c3 : w2.cell? ⟨w.heap.size, 3, none⟩ = some (.slice B bl bc) := hx2.cell 3
  have c4 : w2.cell? ⟨w.heap.size, 4, none⟩ = some (.int .i64 n) := hx2.cell 4
  have hcK := k_5 hk2 hw hm9 nm tn hs ht B n bl bc
  unfold wV at hcK
  try rw [hbl2] at hcK
  rw [hx, hks] at hcK
  have HK := Lib.hid hcK
  have harr : ∀ q cs, Blk w q 48 cs → Blk w2 q 48 cs := fun q cs hq => hbox2 q _ cs (by decide) (by decide) (by decide) (hq.below hb1w hq.lt)
  have H2 := Lib.hid (And.intro hd2 (And.intro hk2 (And.intro hap2 (And.intro (hbl.trans hb2) harr))))
  clear harr hcK hd2 hk2 hap2 hb2 hB2 hx2 hbox2 hd1 hk1 hap hw hbx hbl hB hBd hl hs ht hw' hx9 hbl2 hx hks hm9 hq hb1w
  go_wp2_with fail
  refine HK.out.mono ?_
  intro e w3 hq
  obtain ⟨hd2, hk2, hap2, hb3, harr⟩ := H2.out
  obtain ⟨rfl, hend, hbox3, hb⟩ := end_make hd2 hk2 hap2 hq
  have hb4 := hb3.trans hb
  have hx9 := HX.out.2.2.2.2.2.2.2.2.2.2.2.2.1
  have HEr := Lib.hid (error_of x hx9 _ (hE.below hb4))
  have harr3 : ∀ q cs, Blk w q 48 cs → Blk w3 q 48 cs := fun q cs hq => hbox3 q _ cs (by decide) (by decide) (harr q cs hq)
  have H3 := Lib.hid (And.intro hend (And.intro hb4 harr3))
  clear harr3 harr hbox3 hend hb4 hb hd2 hk2 hap2 hb3 hq hx9 c0 c1 c2 c3 c4
  go_wp2_with fail
  refine HEr.out.mono ?_
  rintro e w4 ⟨rfl, hb5⟩
  go_wp2_with fail
  go_ret
  obtain ⟨⟨fm', FA', Fc', NA', Nc', SA', Sc', hk4, hd4, hap4⟩, hb4, harr3⟩ := H3.out
  exact ⟨rfl, ⟨ks', Play.below ⟨_, _, _, _, _, _, _, _, _, _, _, _, hd4, hk4, hap4, HX.out.2.2.2.2.2.2.2.2.2.2.2.1, hb4⟩ hb5⟩, fun q cs hq => (harr3 q cs hq).below hb5 (harr3 q cs hq).lt⟩

set_option maxRecDepth 100000 in
set_option maxHeartbeats 1000000 in
theorem done_6 (W0 w : World) (hE : ErrVar W0) (d k m : Nat) (ks : KZ) (hp : Play W0 w d k ks m) (hm : m ≤ 900) (u v : Int) (B : Option Addr) (ys : List Int) (bc : Nat) (n : Int) (hB : SlAt W0 B (u8s ys)) (hBd : ys ≠ [] → ∀ a, B = some a → a.block < W0.heap.size) (hl : ys.length ≤ maxLen) :
    Calls Tryd.prog 9 #[.pointer (some ⟨d, 0, none⟩), .pointer (some ⟨k, 0, none⟩), wV 6 (fileN u) (fileN v) B ys.length bc n] w (DoneQ W0 d k m w) := by
  obtain ⟨bn, bs, N, S, dl, fm, FA, Fc, NA, Nc, SA, Sc, hd, hk, hap, hw, hbl⟩ := hp
  obtain ⟨nm, hnm⟩ : ∃ nm, fileN u = nm := ⟨_, rfl⟩
  obtain ⟨tn, htn⟩ : ∃ tn, fileN v = tn := ⟨_, rfl⟩
  have hs : nm.size ≤ maxLen := by rw [← hnm]; exact fileN_size u
  have ht : tn.size ≤ maxLen := by rw [← htn]; exact fileN_size v
  have hgs : goodB nm = rnamedB nm := by rw [← hnm]; exact fileN_good u
  have hgt : goodB tn = rnamedB tn := by rw [← htn]; exact fileN_good v
  have hm9 : m ≤ 1000 := by omega
  rw [hnm, htn]
  unfold wV
  obtain ⟨bl, hbl2⟩ : ∃ bl, ys.length = bl := ⟨_, rfl⟩
  rw [hbl2]
  have hb1 : Below w.heap.size w (w.alloc (.cells #[.int .i64 6, .string nm, .string tn, .slice B bl bc, .int .i64 n] 53)) := (Below.refl _ w).alloc (Nat.le_refl _) _
  have hd1 := hd.below hb1
  have hk1 := hk.below hb1
  have hB1 : SlAt (w.alloc (.cells #[.int .i64 6, .string nm, .string tn, .slice B bl bc, .int .i64 n] 53)) B (u8s ys) := hB.below (hbl.trans (hb1.mono hbl.size))
  have hbx : Blk (w.alloc (.cells #[.int .i64 6, .string nm, .string tn, .slice B bl bc, .int .i64 n] 53)) w.heap.size 53 #[.int .i64 6, .string nm, .string tn, .slice B bl bc, .int .i64 n] := Blk.new w _ _
  have hcD := d_remove hd1 hw hm9 nm hs
  rw [hgs] at hcD
  obtain ⟨x, hx⟩ : ∃ x, ks.fault 6 (rnamedB nm) (kFile ks.names nm.data.toList) 0 = x := ⟨_, rfl⟩
  obtain ⟨ks', hks⟩ : ∃ ks', ks.nx 6 (rnamedB nm) nm.data.toList [] [] = ks' := ⟨_, rfl⟩
  have hx9 : 0 ≤ x ∧ x ≤ 8 := by rw [← hx]; exact KZ.fault_in _ _ _ _ _
  have hw' : Wf ks' (m + 1) := by rw [← hks]; exact wf_nx hw 6 (by decide) _ _ _ _ (fun h => rnamed_ne nm h) (fun h5 h => by cases h5)
  rw [hx, hks] at hcD
  have HD := Lib.hid hcD
  have HX := Lib.hid (And.intro hd1 (And.intro hk1 (And.intro hap (And.intro hw (And.intro hbx (And.intro (hbl.trans (hb1.mono hbl.size)) (And.intro hB (And.intro hBd (And.intro hl (And.intro hs (And.intro ht (And.intro hw' (And.intro hx9 (And.intro hbl2 (And.intro hx hks)))))))))))))))
  clear hcD hd1 hk1 hap hw hbx hb1 hB1 hd hk hbl hnm htn hs ht hgs hgt hB hBd hl hw' hbl2 hks hx hx9 hm9
  go_enter Tryd.func9, Tryd.ntmps9
  go_wp2_with fail
  refine HD.out.mono ?_
  intro e w2 hq
  have hb1w : Below w.heap.size w (w.alloc (.cells #[.int .i64 6, .string nm, .string tn, .slice B bl bc, .int .i64 n] 53)) := (Below.refl _ w).alloc (Nat.le_refl _) _
  obtain ⟨hd1, hk1, hap, hw, hbx, hbl, hB, hBd, hl, hs, ht, hw', hx9, hbl2, hx, hks⟩ := HX.out
  have hm9 : m ≤ 1000 := by omega
  obtain ⟨rfl, ⟨bn', bs', N', S', dl', hd2, hap2⟩, hk2, hbox2, hb2⟩ := mid_make hd1 hk1 hap hq
  have hB2 : SlAt w2 B (u8s ys) := hB.below (hbl.trans hb2)
  have hx2 := hbox2 _ _ _ (by decide) (by decide) (by decide) hbx
  have c0 : w2.cell? ⟨w.heap.size, 0, none⟩ = some (.int .i64 6) := hx2.cell 0
  have c1 : w2.cell? ⟨w.heap.size, 1, none⟩ = some (.string nm) := hx2.cell 1
  have c2 : w2.cell? ⟨w.heap.size, 2, none⟩ = some (.string tn) := hx2.cell 2
  have c3 : w2.cell? ⟨w.heap.size, 3, none⟩ = some (.slice B bl bc) := hx2.cell 3
  have c4 : w2.cell? ⟨w.heap.size, 4, none⟩ = some (.int .i64 n) := hx2.cell 4
  have hcK := k_6 hk2 hw hm9 nm tn hs ht B n bl bc
  unfold wV at hcK
  try rw [hbl2] at hcK
  rw [hx, hks] at hcK
  have HK := Lib.hid hcK
  have harr : ∀ q cs, Blk w q 48 cs → Blk w2 q 48 cs := fun q cs hq => hbox2 q _ cs (by decide) (by decide) (by decide) (hq.below hb1w hq.lt)
  have H2 := Lib.hid (And.intro hd2 (And.intro hk2 (And.intro hap2 (And.intro (hbl.trans hb2) harr))))
  clear harr hcK hd2 hk2 hap2 hb2 hB2 hx2 hbox2 hd1 hk1 hap hw hbx hbl hB hBd hl hs ht hw' hx9 hbl2 hx hks hm9 hq hb1w
  go_wp2_with fail
  refine HK.out.mono ?_
  intro e w3 hq
  obtain ⟨hd2, hk2, hap2, hb3, harr⟩ := H2.out
  obtain ⟨rfl, hend, hbox3, hb⟩ := end_make hd2 hk2 hap2 hq
  have hb4 := hb3.trans hb
  have hx9 := HX.out.2.2.2.2.2.2.2.2.2.2.2.2.1
  have HEr := Lib.hid (error_of x hx9 _ (hE.below hb4))
  have harr3 : ∀ q cs, Blk w q 48 cs → Blk w3 q 48 cs := fun q cs hq => hbox3 q _ cs (by decide) (by decide) (harr q cs hq)
  have H3 := Lib.hid (And.intro hend (And.intro hb4 harr3))
  clear harr3 harr hbox3 hend hb4 hb hd2 hk2 hap2 hb3 hq hx9 c0 c1 c2 c3 c4
  go_wp2_with fail
  refine HEr.out.mono ?_
  rintro e w4 ⟨rfl, hb5⟩
  go_wp2_with fail
  go_ret
  obtain ⟨⟨fm', FA', Fc', NA', Nc', SA', Sc', hk4, hd4, hap4⟩, hb4, harr3⟩ := H3.out
  exact ⟨rfl, ⟨ks', Play.below ⟨_, _, _, _, _, _, _, _, _, _, _, _, hd4, hk4, hap4, HX.out.2.2.2.2.2.2.2.2.2.2.2.1, hb4⟩ hb5⟩, fun q cs hq => (harr3 q cs hq).below hb5 (harr3 q cs hq).lt⟩

set_option maxRecDepth 100000 in
set_option maxHeartbeats 1000000 in
theorem done_7 (W0 w : World) (hE : ErrVar W0) (d k m : Nat) (ks : KZ) (hp : Play W0 w d k ks m) (hm : m ≤ 900) (u v : Int) (B : Option Addr) (ys : List Int) (bc : Nat) (n : Int) (hB : SlAt W0 B (u8s ys)) (hBd : ys ≠ [] → ∀ a, B = some a → a.block < W0.heap.size) (hl : ys.length ≤ maxLen) :
    Calls Tryd.prog 9 #[.pointer (some ⟨d, 0, none⟩), .pointer (some ⟨k, 0, none⟩), wV 7 (fileN u) (fileN v) B ys.length bc n] w (DoneQ W0 d k m w) := by
  obtain ⟨bn, bs, N, S, dl, fm, FA, Fc, NA, Nc, SA, Sc, hd, hk, hap, hw, hbl⟩ := hp
  obtain ⟨nm, hnm⟩ : ∃ nm, fileN u = nm := ⟨_, rfl⟩
  obtain ⟨tn, htn⟩ : ∃ tn, fileN v = tn := ⟨_, rfl⟩
  have hs : nm.size ≤ maxLen := by rw [← hnm]; exact fileN_size u
  have ht : tn.size ≤ maxLen := by rw [← htn]; exact fileN_size v
  have hgs : goodB nm = rnamedB nm := by rw [← hnm]; exact fileN_good u
  have hgt : goodB tn = rnamedB tn := by rw [← htn]; exact fileN_good v
  have hm9 : m ≤ 1000 := by omega
  rw [hnm, htn]
  unfold wV
  obtain ⟨bl, hbl2⟩ : ∃ bl, ys.length = bl := ⟨_, rfl⟩
  rw [hbl2]
  have hb1 : Below w.heap.size w (w.alloc (.cells #[.int .i64 7, .string nm, .string tn, .slice B bl bc, .int .i64 n] 53)) := (Below.refl _ w).alloc (Nat.le_refl _) _
  have hd1 := hd.below hb1
  have hk1 := hk.below hb1
  have hB1 : SlAt (w.alloc (.cells #[.int .i64 7, .string nm, .string tn, .slice B bl bc, .int .i64 n] 53)) B (u8s ys) := hB.below (hbl.trans (hb1.mono hbl.size))
  have hbx : Blk (w.alloc (.cells #[.int .i64 7, .string nm, .string tn, .slice B bl bc, .int .i64 n] 53)) w.heap.size 53 #[.int .i64 7, .string nm, .string tn, .slice B bl bc, .int .i64 n] := Blk.new w _ _
  have hcD := d_crash hd1 hw hm9 n
  
  obtain ⟨ks', hks⟩ : ∃ ks', ks.crash n = ks' := ⟨_, rfl⟩
  have hw' : Wf ks' (m + 1) := by rw [← hks]; exact wf_crash hw hm9 n
  rw [hks] at hcD
  have HD := Lib.hid hcD
  have HX := Lib.hid (And.intro hd1 (And.intro hk1 (And.intro hap (And.intro hw (And.intro hbx (And.intro (hbl.trans (hb1.mono hbl.size)) (And.intro hB (And.intro hBd (And.intro hl (And.intro hs (And.intro ht (And.intro hw' (And.intro hm9 (And.intro hbl2 (And.intro hm9 hks)))))))))))))))
  clear hcD hd1 hk1 hap hw hbx hb1 hB1 hd hk hbl hnm htn hs ht hgs hgt hB hBd hl hw' hbl2 hks hm9
  go_enter Tryd.func9, Tryd.ntmps9
  go_wp2_with fail
  refine HD.out.mono ?_
  intro e w2 hq
  have hb1w : Below w.heap.size w (w.alloc (.cells #[.int .i64 7, .string nm, .string tn, .slice B bl bc, .int .i64 n] 53)) := (Below.refl _ w).alloc (Nat.le_refl _) _
  obtain ⟨hd1, hk1, hap, hw, hbx, hbl, hB, hBd, hl, hs, ht, hw', hx9, hbl2, hx, hks⟩ := HX.out
  have hm9 : m ≤ 1000 := by omega
  obtain ⟨rfl, ⟨bn', bs', N', S', dl', hd2, hap2⟩, hk2, hbox2, hb2⟩ := mid_make hd1 hk1 hap hq
  have hB2 : SlAt w2 B (u8s ys) := hB.below (hbl.trans hb2)
  have hx2 := hbox2 _ _ _ (by decide) (by decide) (by decide) hbx
  have c0 : w2.cell? ⟨w.heap.size, 0, none⟩ = some (.int .i64 7) := hx2.cell 0
  have c1 : w2.cell? ⟨w.heap.size, 1, none⟩ = some (.string nm) := hx2.cell 1
  have c2 : w2.cell? ⟨w.heap.size, 2, none⟩ = some (.string tn) := hx2.cell 2
  have c3 : w2.cell? ⟨w.heap.size, 3, none⟩ = some (.slice B bl bc) := hx2.cell 3
  have c4 : w2.cell? ⟨w.heap.size, 4, none⟩ = some (.int .i64 n) := hx2.cell 4
  have hcK := k_7 hk2 hw hm9 nm tn hs ht B n bl bc
  unfold wV at hcK
  try rw [hbl2] at hcK
  rw [hks] at hcK
  have HK := Lib.hid hcK
  have harr : ∀ q cs, Blk w q 48 cs → Blk w2 q 48 cs := fun q cs hq => hbox2 q _ cs (by decide) (by decide) (by decide) (hq.below hb1w hq.lt)
  have H2 := Lib.hid (And.intro hd2 (And.intro hk2 (And.intro hap2 (And.intro (hbl.trans hb2) harr))))
  clear harr hcK hd2 hk2 hap2 hb2 hB2 hx2 hbox2 hd1 hk1 hap hw hbx hbl hB hBd hl hs ht hw' hx9 hbl2 hx hks hm9 hq hb1w
  go_wp2_with fail
  refine HK.out.mono ?_
  intro e w3 hq
  obtain ⟨hd2, hk2, hap2, hb3, harr⟩ := H2.out
  obtain ⟨rfl, hend, hbox3, hb⟩ := end_make hd2 hk2 hap2 hq
  have hb4 := hb3.trans hb
  have hx9 := HX.out.2.2.2.2.2.2.2.2.2.2.2.2.1
  have HEr := Lib.hid (error_of 0 (by omega) _ (hE.below hb4))
  have harr3 : ∀ q cs, Blk w q 48 cs → Blk w3 q 48 cs := fun q cs hq => hbox3 q _ cs (by decide) (by decide) (harr q cs hq)
  have H3 := Lib.hid (And.intro hend (And.intro hb4 harr3))
  clear harr3 harr hbox3 hend hb4 hb hd2 hk2 hap2 hb3 hq hx9 c0 c1 c2 c3 c4
  go_wp2_with fail
  refine HEr.out.mono ?_
  rintro e w4 ⟨rfl, hb5⟩
  go_wp2_with fail
  go_ret
  obtain ⟨⟨fm', FA', Fc', NA', Nc', SA', Sc', hk4, hd4, hap4⟩, hb4, harr3⟩ := H3.out
  exact ⟨rfl, ⟨ks', Play.below ⟨_, _, _, _, _, _, _, _, _, _, _, _, hd4, hk4, hap4, HX.out.2.2.2.2.2.2.2.2.2.2.2.1, hb4⟩ hb5⟩, fun q cs hq => (harr3 q cs hq).below hb5 (harr3 q cs hq).lt⟩

set_option maxRecDepth 100000 in
set_option maxHeartbeats 1000000 in
theorem done_8 (W0 w : World) (hE : ErrVar W0) (d k m : Nat) (ks : KZ) (hp : Play W0 w d k ks m) (hm : m ≤ 900) (u v : Int) (B : Option Addr) (ys : List Int) (bc : Nat) (n : Int) (hB : SlAt W0 B (u8s ys)) (hBd : ys ≠ [] → ∀ a, B = some a → a.block < W0.heap.size) (hl : ys.length ≤ maxLen) :
    Calls Tryd.prog 9 #[.pointer (some ⟨d, 0, none⟩), .pointer (some ⟨k, 0, none⟩), wV 8 (fileN u) (fileN v) B ys.length bc n] w (DoneQ W0 d k m w) := by
  obtain ⟨bn, bs, N, S, dl, fm, FA, Fc, NA, Nc, SA, Sc, hd, hk, hap, hw, hbl⟩ := hp
  obtain ⟨nm, hnm⟩ : ∃ nm, fileN u = nm := ⟨_, rfl⟩
  obtain ⟨tn, htn⟩ : ∃ tn, fileN v = tn := ⟨_, rfl⟩
  have hs : nm.size ≤ maxLen := by rw [← hnm]; exact fileN_size u
  have ht : tn.size ≤ maxLen := by rw [← htn]; exact fileN_size v
  have hgs : goodB nm = rnamedB nm := by rw [← hnm]; exact fileN_good u
  have hgt : goodB tn = rnamedB tn := by rw [← htn]; exact fileN_good v
  have hm9 : m ≤ 1000 := by omega
  rw [hnm, htn]
  unfold wV
  obtain ⟨bl, hbl2⟩ : ∃ bl, ys.length = bl := ⟨_, rfl⟩
  rw [hbl2]
  have hb1 : Below w.heap.size w (w.alloc (.cells #[.int .i64 8, .string nm, .string tn, .slice B bl bc, .int .i64 n] 53)) := (Below.refl _ w).alloc (Nat.le_refl _) _
  have hd1 := hd.below hb1
  have hk1 := hk.below hb1
  have hB1 : SlAt (w.alloc (.cells #[.int .i64 8, .string nm, .string tn, .slice B bl bc, .int .i64 n] 53)) B (u8s ys) := hB.below (hbl.trans (hb1.mono hbl.size))
  have hbx : Blk (w.alloc (.cells #[.int .i64 8, .string nm, .string tn, .slice B bl bc, .int .i64 n] 53)) w.heap.size 53 #[.int .i64 8, .string nm, .string tn, .slice B bl bc, .int .i64 n] := Blk.new w _ _
  have hcD := d_stop hd1 n
  
  obtain ⟨ks', hks⟩ : ∃ ks', { ks with stop := max (-1) n } = ks' := ⟨_, rfl⟩
  have hw' : Wf ks' (m + 1) := by rw [← hks]; exact wf_stop hw _
  rw [hks] at hcD
  have HD := Lib.hid hcD
  have HX := Lib.hid (And.intro hd1 (And.intro hk1 (And.intro hap (And.intro hw (And.intro hbx (And.intro (hbl.trans (hb1.mono hbl.size)) (And.intro hB (And.intro hBd (And.intro hl (And.intro hs (And.intro ht (And.intro hw' (And.intro hm9 (And.intro hbl2 (And.intro hm9 hks)))))))))))))))
  clear hcD hd1 hk1 hap hw hbx hb1 hB1 hd hk hbl hnm htn hs ht hgs hgt hB hBd hl hw' hbl2 hks hm9
  go_enter Tryd.func9, Tryd.ntmps9
  go_wp2_with fail
  refine HD.out.mono ?_
  intro e w2 hq
  have hb1w : Below w.heap.size w (w.alloc (.cells #[.int .i64 8, .string nm, .string tn, .slice B bl bc, .int .i64 n] 53)) := (Below.refl _ w).alloc (Nat.le_refl _) _
  obtain ⟨hd1, hk1, hap, hw, hbx, hbl, hB, hBd, hl, hs, ht, hw', hx9, hbl2, hx, hks⟩ := HX.out
  have hm9 : m ≤ 1000 := by omega
  obtain ⟨rfl, ⟨bn', bs', N', S', dl', hd2, hap2⟩, hk2, hbox2, hb2⟩ := mid_make hd1 hk1 hap hq
  have hB2 : SlAt w2 B (u8s ys) := hB.below (hbl.trans hb2)
  have hx2 := hbox2 _ _ _ (by decide) (by decide) (by decide) hbx
  have c0 : w2.cell? ⟨w.heap.size, 0, none⟩ = some (.int .i64 8) := hx2.cell 0
  have c1 : w2.cell? ⟨w.heap.size, 1, none⟩ = some (.string nm) := hx2.cell 1
  have c2 : w2.cell? ⟨w.heap.size, 2, none⟩ = some (.string tn) := hx2.cell 2
  have c3 : w2.cell? ⟨w.heap.size, 3, none⟩ = some (.slice B bl bc) := hx2.cell 3
  have c4 : w2.cell? ⟨w.heap.size, 4, none⟩ = some (.int .i64 n) := hx2.cell 4
  have hcK := k_8 hk2 hw hm9 nm tn hs ht B n bl bc
  unfold wV at hcK
  try rw [hbl2] at hcK
  rw [hks] at hcK
  have HK := Lib.hid hcK
  have harr : ∀ q cs, Blk w q 48 cs → Blk w2 q 48 cs := fun q cs hq => hbox2 q _ cs (by decide) (by decide) (by decide) (hq.below hb1w hq.lt)
  have H2 := Lib.hid (And.intro hd2 (And.intro hk2 (And.intro hap2 (And.intro (hbl.trans hb2) harr))))
  clear harr hcK hd2 hk2 hap2 hb2 hB2 hx2 hbox2 hd1 hk1 hap hw hbx hbl hB hBd hl hs ht hw' hx9 hbl2 hx hks hm9 hq hb1w
  go_wp2_with fail
  refine HK.out.mono ?_
  intro e w3 hq
  obtain ⟨hd2, hk2, hap2, hb3, harr⟩ := H2.out
  obtain ⟨rfl, hend, hbox3, hb⟩ := end_make hd2 hk2 hap2 hq
  have hb4 := hb3.trans hb
  have hx9 := HX.out.2.2.2.2.2.2.2.2.2.2.2.2.1
  have HEr := Lib.hid (error_of 0 (by omega) _ (hE.below hb4))
  have harr3 : ∀ q cs, Blk w q 48 cs → Blk w3 q 48 cs := fun q cs hq => hbox3 q _ cs (by decide) (by decide) (harr q cs hq)
  have H3 := Lib.hid (And.intro hend (And.intro hb4 harr3))
  clear harr3 harr hbox3 hend hb4 hb hd2 hk2 hap2 hb3 hq hx9 c0 c1 c2 c3 c4
  go_wp2_with fail
  refine HEr.out.mono ?_
  rintro e w4 ⟨rfl, hb5⟩
  go_wp2_with fail
  go_ret
  obtain ⟨⟨fm', FA', Fc', NA', Nc', SA', Sc', hk4, hd4, hap4⟩, hb4, harr3⟩ := H3.out
  exact ⟨rfl, ⟨ks', Play.below ⟨_, _, _, _, _, _, _, _, _, _, _, _, hd4, hk4, hap4, HX.out.2.2.2.2.2.2.2.2.2.2.2.1, hb4⟩ hb5⟩, fun q cs hq => (harr3 q cs hq).below hb5 (harr3 q cs hq).lt⟩

theorem done_any (W0 w : World) (hE : ErrVar W0) (d k m : Nat) (ks : KZ) (hp : Play W0 w d k ks m) (hm : m ≤ 900) (kind : Int) (hk1 : 1 ≤ kind) (hk8 : kind ≤ 8) (u v : Int) (B : Option Addr) (ys : List Int) (bc : Nat) (n : Int) (hB : SlAt W0 B (u8s ys)) (hBd : ys ≠ [] → ∀ a, B = some a → a.block < W0.heap.size) (hl : ys.length ≤ maxLen) :
    Calls Tryd.prog 9 #[.pointer (some ⟨d, 0, none⟩), .pointer (some ⟨k, 0, none⟩), wV kind (fileN u) (fileN v) B ys.length bc n] w (DoneQ W0 d k m w) := by
  have h : kind = 1 ∨ kind = 2 ∨ kind = 3 ∨ kind = 4 ∨ kind = 5 ∨ kind = 6 ∨ kind = 7 ∨ kind = 8 := by omega
  rcases h with rfl | rfl | rfl | rfl | rfl | rfl | rfl | rfl
  · exact done_1 W0 w hE d k m ks hp hm u v B ys bc n hB hBd hl
  · exact done_2 W0 w hE d k m ks hp hm u v B ys bc n hB hBd hl
  · exact done_3 W0 w hE d k m ks hp hm u v B ys bc n hB hBd hl
  · exact done_4 W0 w hE d k m ks hp hm u v B ys bc n hB hBd hl
  · exact done_5 W0 w hE d k m ks hp hm u v B ys bc n hB hBd hl
  · exact done_6 W0 w hE d k m ks hp hm u v B ys bc n hB hBd hl
  · exact done_7 W0 w hE d k m ks hp hm u v B ys bc n hB hBd hl
  · exact done_8 W0 w hE d k m ks hp hm u v B ys bc n hB hBd hl
end Go.Proofs.YtbfmdpgghknccaaDoor
