/- RefTreeDefs, RefTree. -/
import Derived.Test.YtpeckpiidgkgoaaGreatDoorPg15
import Derived.Test.YtpeckpiidgkgoaaGreatDoorPg20
import Derived.Test.YtpeckpiidgkgoaaGreatDoorPg26
import Derived.Deep.RegionHeld3
import Derived.Deep.RegionWith
import Derived.Deep.RegionLaw
/- The reference's Tree: what its walk leans on. -/
namespace Go.Proofs.YtpeckpiidgkgoaaGreatDoor
open Go.RowKit
set_option linter.unusedVariables false
set_option linter.unusedSimpArgs false

/-- A tree of whatever kind, as a value. -/
def AggT (v : Value) : Prop := ∃ (k n : Int) (st : ByteArray) (o p : Int) (kA : Option Addr) (kn kc : Nat) (cA : Option Addr) (cn cc : Nat), v = .agg #[.int .i64 k, .int .i64 n, .string st, .int .i64 o, .int .i64 p, .slice kA kn kc, .slice cA cn cc]
/-- What Tree and kids answer. -/
def RTreeQ (pb : Nat) (s : ByteArray) (P : PR) (w : World) (e : Ending) (w' : World) : Prop :=
  (match P with
   | .ok t a l => ∃ T : PT, e = .returned T.value ∧ a ≤ s.size ∧ Rp w' pb s a (400 - (l : Int)) 0 0 ∧ OwnJ 9 29 w' T ∧ T.own.Nodup ∧ (∀ b ∈ T.own, w.heap.size ≤ b) ∧ T.tree = t
   | .bad a x => (x = 2 ∨ x = 4) ∧ (∃ v, e = .returned v ∧ AggT v) ∧ ∃ (at_ : Nat) (tr : Int), at_ ≤ s.size ∧ Rp w' pb s at_ tr a x) ∧ Only (fun k => k = pb) w w'
theorem RTreeQ.okd {pb : Nat} {s : ByteArray} {P : PR} {w w' : World} {e : Ending} {t : JT} {a l : Nat} (h : RTreeQ pb s P w e w') (hP : P = .ok t a l) :
    ∃ T : PT, e = .returned (.agg #[.int .i64 T.val.k, .int .i64 T.val.n, .string T.val.s, .int .i64 T.val.o, .int .i64 T.val.p, .slice T.kA T.keys.length T.kc, .slice T.cA T.kids.length T.cc]) ∧ T.tree = t ∧ a ≤ s.size ∧ Rp w' pb s a (400 - (l : Int)) 0 0 ∧ OwnJ 9 29 w' T ∧ T.own.Nodup ∧ (∀ b ∈ T.own, w.heap.size ≤ b) ∧ Only (fun k => k = pb) w w' := by
  subst hP
  obtain ⟨⟨T, h1, h2, h3, h4, h5, h6, h7⟩, h8⟩ := h
  exact ⟨T, h1, h7, h2, h3, h4, h5, h6, h8⟩
theorem RTreeQ.badd {pb : Nat} {s : ByteArray} {P : PR} {w w' : World} {e : Ending} {a : Nat} {x : Int} (h : RTreeQ pb s P w e w') (hP : P = .bad a x) :
    (x = 2 ∨ x = 4) ∧ (∃ (k n : Int) (st : ByteArray) (o p : Int) (kA : Option Addr) (kn kc : Nat) (cA : Option Addr) (cn cc : Nat), e = .returned (.agg #[.int .i64 k, .int .i64 n, .string st, .int .i64 o, .int .i64 p, .slice kA kn kc, .slice cA cn cc])) ∧ (∃ (at_ : Nat) (tr : Int), at_ ≤ s.size ∧ Rp w' pb s at_ tr a x) ∧ Only (fun k => k = pb) w w' := by
  subst hP
  obtain ⟨⟨h1, ⟨v, h2, k, n, st, o, p, kA, kn, kc, cA, cn, cc, h3⟩, h4⟩, h5⟩ := h
  exact ⟨h1, ⟨k, n, st, o, p, kA, kn, kc, cA, cn, cc, by rw [h2, h3]⟩, h4, h5⟩
def RKidsC (pb : Nat) (s : ByteArray) (f left : Nat) (kind : Int) (endc : UInt8) : Prop :=
  ∀ (w : World) (pos : Nat), pos ≤ s.size → Rp w pb s pos (400 - (left : Int)) 0 0 → Calls Tryz.prog 15 #[.pointer (some ⟨pb, 0, none⟩), .int .i64 kind, .string ⟨#[endc]⟩] w (RTreeQ pb s (kidsR (toN s) f kind endc.toNat pos left) w)
/-- The reader and the result's place. -/
structure RS (w : World) (pb : Nat) (s : ByteArray) (a : Nat) (tr wr bad : Int) (W : World) : Prop where
  rd : Rp W pb s a tr wr bad
  res : Blk W w.heap.size 29 #[.int .i64 0, .int .i64 0, .string ⟨#[]⟩, .int .i64 0, .int .i64 0, .slice none 0 0, .slice none 0 0]
  only : Only (fun k => k = pb) w W
theorem RS.turn {w W W' : World} {pb : Nat} {s : ByteArray} {a a' : Nat} {tr wr bad tr' wr' bad' : Int} (h : RS w pb s a tr wr bad W) (hpb : pb < w.heap.size) (hr : Rp W' pb s a' tr' wr' bad') (ho : Only (fun k => k = pb) W W') : RS w pb s a' tr' wr' bad' W' :=
  ⟨hr, h.res.only ho (by omega), h.only.trans ho⟩
theorem RS.below {w W W' : World} {pb : Nat} {s : ByteArray} {a : Nat} {tr wr bad : Int} (h : RS w pb s a tr wr bad W) (hb : Below W.heap.size W W') : RS w pb s a tr wr bad W' :=
  ⟨h.rd.below hb, h.res.below hb h.res.lt, h.only.trans (Only.of_below hb)⟩
theorem RS.drewN {w W : World} {pb : Nat} {s : ByteArray} {a : Nat} {tr wr bad : Int} (h : RS w pb s a tr wr bad W) (n : Nat) : RS w pb s a tr wr bad (W.drewN n) := ⟨h.rd.drewN n, h.res.drewN n, h.only.drewN n⟩
theorem RS.moved {w W : World} {pb : Nat} {s : ByteArray} {a : Nat} {tr wr bad : Int} (h : RS w pb s a tr wr bad W) (hpb : pb < w.heap.size) (a' : Nat) : RS w pb s a' tr wr bad (W.setCell ⟨pb, 1, none⟩ (.int .i64 (a' : Nat))) :=
  h.turn hpb (Blk.set_ h.rd 1 (.int .i64 (a' : Nat))) (Only.one pb 1 _)
/-- is, decided. -/
theorem ris_yes (w : World) (pb : Nat) (s : ByteArray) (hs : s.size ≤ 60000) (at_ : Nat) (hat : at_ ≤ s.size) (tr : Int) (c : ByteArray) (hc : c.size ≤ 100) (h : Rp w pb s at_ tr 0 0) (hy : isB s c at_ = true) :
    Calls Tryz.prog 14 #[.pointer (some ⟨pb, 0, none⟩), .string c] w fun e w' => e = .returned (.bool true) ∧ Rp w' pb s (at_ + c.size) tr 0 0 ∧ Only (fun k => k = pb) w w' := by
  have := is_any w pb s hs at_ hat tr 0 0 c hc h
  rw [hy] at this
  exact this
theorem ris_no (w : World) (pb : Nat) (s : ByteArray) (hs : s.size ≤ 60000) (at_ : Nat) (hat : at_ ≤ s.size) (tr : Int) (c : ByteArray) (hc : c.size ≤ 100) (h : Rp w pb s at_ tr 0 0) (hy : isB s c at_ = false) :
    Calls Tryz.prog 14 #[.pointer (some ⟨pb, 0, none⟩), .string c] w fun e w' => e = .returned (.bool false) ∧ Rp w' pb s at_ tr 0 0 ∧ Only (fun k => k = pb) w w' := by
  have := is_any w pb s hs at_ hat tr 0 0 c hc h
  rw [hy] at this
  exact this
theorem isB_le {s c : ByteArray} {at_ : Nat} (hat : at_ ≤ s.size) (h : isB s c at_ = true) : at_ + c.size ≤ s.size := by
  refine Classical.byContradiction fun hn => ?_
  rw [isB_long hat hn] at h
  cases h
theorem isB_one {s : ByteArray} {at_ : Nat} (c : UInt8) : isB s ⟨#[c]⟩ at_ = true ↔ (toN s)[at_]? = some c.toNat := by
  unfold isB
  rw [prefB_take]
  show ((toN s).drop at_).take 1 = [c.toNat] ↔ _
  rw [← Nat.add_zero at_, ← List.getElem?_drop, Nat.add_zero]
  cases (toN s).drop at_ with
  | nil => simp
  | cons x l => simp
/-- The end, at the result's place. -/
theorem rtree_end {w W : World} {pb : Nat} {s : ByteArray} {a l : Nat} {tr : Int} (hl : 400 - (l : Int) = tr) {P : PR} (hts : RS w pb s a tr 0 0 W) (hpb : pb < w.heap.size) (T : PT) (hP : P = .ok T.tree a l) (ha : a ≤ s.size) (hown : OwnJ 9 29 W T) (hnd : T.own.Nodup) (hlow : ∀ b ∈ T.own, w.heap.size < b) (v : Value) (hv : v = T.value) (c0 c1 c2 c3 c4 c5 c6 : Value) :
    RTreeQ pb s P w (.returned v) (((((((W.setCell ⟨w.heap.size, 0, none⟩ c0).setCell ⟨w.heap.size, 1, none⟩ c1).setCell ⟨w.heap.size, 2, none⟩ c2).setCell ⟨w.heap.size, 3, none⟩ c3).setCell ⟨w.heap.size, 4, none⟩ c4).setCell ⟨w.heap.size, 5, none⟩ c5).setCell ⟨w.heap.size, 6, none⟩ c6) := by
  subst hP hv
  have o := only7 W w.heap.size c0 c1 c2 c3 c4 c5 c6 0 1 2 3 4 5 6
  refine ⟨⟨T, rfl, ha, ?_, hown.only o (fun b hb e => by have := hlow b hb; omega), hnd, fun b hb => Nat.le_of_lt (hlow b hb), rfl⟩, ?_⟩
  · rw [hl]
    exact Blk.only hts.rd o (by show pb ≠ w.heap.size; omega)
  · exact ⟨o.os.trans hts.only.os, o.tape.trans hts.only.tape, o.output.trans hts.only.output, Nat.le_trans hts.only.size o.size, fun k hk hn => (o.block k (Nat.lt_of_lt_of_le hk hts.only.size) (by show k ≠ w.heap.size; omega)).trans (hts.only.block k hk hn)⟩
theorem rbad_end {w W : World} {pb : Nat} {s : ByteArray} {a : Nat} {tr : Int} {q : Nat} {x : Int} (hx : x = 2 ∨ x = 4) {P : PR} (hts : RS w pb s a tr q x W) (hpb : pb < w.heap.size) (ha : a ≤ s.size) (hP : P = .bad q x) (v : Value) (hv : AggT v) (c0 c1 c2 c3 c4 c5 c6 : Value) :
    RTreeQ pb s P w (.returned v) (((((((W.setCell ⟨w.heap.size, 0, none⟩ c0).setCell ⟨w.heap.size, 1, none⟩ c1).setCell ⟨w.heap.size, 2, none⟩ c2).setCell ⟨w.heap.size, 3, none⟩ c3).setCell ⟨w.heap.size, 4, none⟩ c4).setCell ⟨w.heap.size, 5, none⟩ c5).setCell ⟨w.heap.size, 6, none⟩ c6) := by
  subst hP
  have o := only7 W w.heap.size c0 c1 c2 c3 c4 c5 c6 0 1 2 3 4 5 6
  refine ⟨⟨hx, ⟨v, rfl, hv⟩, a, tr, ha, Blk.only hts.rd o (by show pb ≠ w.heap.size; omega)⟩, ?_⟩
  exact ⟨o.os.trans hts.only.os, o.tape.trans hts.only.tape, o.output.trans hts.only.output, Nat.le_trans hts.only.size o.size, fun k hk hn => (o.block k (Nat.lt_of_lt_of_le hk hts.only.size) (by show k ≠ w.heap.size; omega)).trans (hts.only.block k hk hn)⟩
theorem zero_agg : AggT (.agg #[.int .i64 0, .int .i64 0, .string ⟨#[]⟩, .int .i64 0, .int .i64 0, .slice none 0 0, .slice none 0 0]) := ⟨0, 0, ⟨#[]⟩, 0, 0, none, 0, 0, none, 0, 0, rfl⟩
theorem text_agg : AggT (.agg #[.int .i64 3, .int .i64 0, .string ⟨#[]⟩, .int .i64 0, .int .i64 0, .slice none 0 0, .slice none 0 0]) := ⟨3, 0, ⟨#[]⟩, 0, 0, none, 0, 0, none, 0, 0, rfl⟩
theorem run_num {l : List Nat} {c : Nat} (h : c ∈ numRun l) : isNumC c = true := by
  have := List.all_takeWhile (p := isNumC) (l := l)
  rw [List.all_eq_true] at this
  exact this c h
/-- Where the run of digits and signs is. -/
theorem run_at (l : List Nat) (k : Nat) (h : k < (numRun l).length) : ∃ c, l[k]? = some c ∧ isNumC c = true := by
  unfold numRun at h
  have h2 := List.getElem?_eq_getElem h
  refine ⟨(l.takeWhile isNumC)[k], ?_, ?_⟩
  · have hp := List.takeWhile_prefix isNumC (l := l)
    rw [List.prefix_iff_eq_take] at hp
    rw [← h2]
    conv => rhs; rw [hp]
    rw [List.getElem?_take, if_pos h]
  · exact run_num (List.getElem_mem h)
theorem run_end : ∀ (l : List Nat) (c : Nat), l[(numRun l).length]? = some c → isNumC c = false
  | [], c, h => by simp [numRun] at h
  | x :: l, c, h => by
    unfold numRun at h
    rw [List.takeWhile_cons] at h
    by_cases hx : isNumC x = true
    · rw [if_pos hx, List.length_cons, List.getElem?_cons_succ] at h
      exact run_end l c h
    · rw [if_neg hx] at h
      simp at h
      rw [← h]
      simpa using hx
theorem run_take (l : List Nat) : l.take (numRun l).length = numRun l := (List.prefix_iff_eq_take.1 (List.takeWhile_prefix isNumC (l := l))).symm
theorem SetQ.okd {g : Nat} {l : List Nat} {w w' : World} {e : Ending} {x : Int} (h : SetQ g l w e w') (hb : bigS l = some x) : e = .returned (.tuple #[.pointer (some ⟨g, 0, none⟩), .bool true]) ∧ IsI w' g x ∧ Only (fun k => k = g) w w' := by
  unfold SetQ at h
  rw [hb] at h
  exact ⟨h.1.1, h.1.2, h.2⟩
theorem SetQ.nod {g : Nat} {l : List Nat} {w w' : World} {e : Ending} (h : SetQ g l w e w') (hb : bigS l = none) : e = .returned (.tuple #[.pointer none, .bool false]) ∧ Only (fun k => k = g) w w' := by
  unfold SetQ at h
  rw [hb] at h
  exact h
theorem RQuotedQ.some_ {w w' : World} {pb : Nat} {s : ByteArray} {at_ m : Nat} {tr : Int} {e : Ending} (h : RQuotedQ w pb s at_ tr m e w') {k : ByteArray} {n : Nat} (hk : txtF m ((toN s).drop at_) = some (k, n)) :
    at_ + n ≤ s.size ∧ e = .returned (.string k) ∧ k.size ≤ m ∧ Rp w' pb s (at_ + n) tr 0 0 ∧ Only (fun k => k = pb) w w' := by
  obtain ⟨⟨k', n', h1, h2, h3, h4, h5⟩ | ⟨h1, _⟩, ho⟩ := h
  · rw [h1] at hk
    injection hk with hk
    injection hk with e1 e2
    subst e1 e2
    exact ⟨h2, h4, h3, h5, ho⟩
  · rw [h1] at hk; cases hk
theorem RQuotedQ.none_ {w w' : World} {pb : Nat} {s : ByteArray} {at_ m : Nat} {tr : Int} {e : Ending} (h : RQuotedQ w pb s at_ tr m e w') (hk : txtF m ((toN s).drop at_) = none) :
    e = .returned (.string ⟨#[]⟩) ∧ Rp w' pb s at_ tr at_ 2 ∧ Only (fun k => k = pb) w w' := by
  obtain ⟨⟨k', n', h1, _⟩ | ⟨h1, h2, h3⟩, ho⟩ := h
  · rw [h1] at hk; cases hk
  · exact ⟨h2, h3, ho⟩
end Go.Proofs.YtpeckpiidgkgoaaGreatDoor
/- The reference's Tree, given what kids does: the contract. -/
namespace Go.Proofs.YtpeckpiidgkgoaaGreatDoor
open Go.RowKit
set_option linter.unusedVariables false
set_option linter.unusedSimpArgs false

set_option maxRecDepth 100000 in
set_option maxHeartbeats 4000000 in
/-- No tree is left. -/
theorem rtree_full (pb : Nat) (s : ByteArray) (hs : s.size ≤ 60000) (f pos : Nat) (hat : pos ≤ s.size) (w : World) (hr : Rp w pb s pos (400 - ((0 : Nat) : Int)) 0 0) :
    Calls Tryz.prog 7 #[.pointer (some ⟨pb, 0, none⟩)] w (RTreeQ pb s (pT Num (toN s) (f + 1) pos 0) w) := by
  have hP : pT Num (toN s) (f + 1) pos 0 = .bad pos 4 := by rw [pT, if_pos rfl]
  have HP := Lib.hid hP
  have hpb : pb < w.heap.size := Blk.lt hr
  have hne : ¬ pb = w.heap.size := by omega
  obtain ⟨h0, h1, h2, h3, h4, hz⟩ := hr.cells
  have HR := Lib.hid hr
  clear hr hP
  go_enter Tryz.func7, Tryz.ntmps7
  go_wp2_with fail
  refine calls_at (fun W1 => RS w pb s pos 401 0 0 W1) ⟨Blk.alloc (Blk.set_ HR.out 2 (.int .i64 401)) _, Blk.newer _ _ _ (by simp), ((Only.refl (fun k => k = pb) w).setCell (p := ⟨pb, 2, none⟩) rfl _).alloc _⟩ ?_
  intro W1 q1
  have HS := Lib.hid q1
  clear q1 h0 h1 h2 h3 h4 hz
  (with_reducible refine (rfail_any W1 pb s pos 401 0 0 pos 4 HS.out.rd).mono ?_)
  rintro e w2 ⟨rfl, hr2, ho2⟩
  have hts := HS.out.turn hpb hr2 ho2
  obtain ⟨r0, r1, r2, r3, r4, r5, r6, zr⟩ := res_cells hts.res
  have HE := Lib.hid hts
  clear hr2 ho2 hts
  go_wp2_with fail
  refine bodyPost_ret (v := .agg #[.int .i64 0, .int .i64 0, .string ⟨#[]⟩, .int .i64 0, .int .i64 0, .slice none 0 0, .slice none 0 0]) (results_cell_row Tryz.results7 _ _ w.heap.size _ _ _ _ rfl (blk7 _ _ _ _ _ _ _ HE.out.res) Tryz.underlying29 rfl (by kernel_rfl)) rfl ?_
  exact rbad_end (.inr rfl) HE.out hpb hat HP.out _ zero_agg _ _ _ _ _ _ _

theorem sb_eq {x : Int} {X SB : ByteArray} (h : (⟨(Go.Lib.itoa x).toArray⟩ : ByteArray) = SB) : (SB.toList == X.toList) = true ↔ (Go.Lib.itoa x).map UInt8.toNat = toN X := by
  have e : toN SB = (Go.Lib.itoa x).map UInt8.toNat := by rw [← h]; simp [toN]
  rw [← e]
  constructor
  · intro h1
    rw [beq_iff_eq, ByteArray.toList_eq, ByteArray.toList_eq] at h1
    unfold toN
    rw [h1]
  · intro h1
    rw [toN_inj h1]
    simp
/-- A whole number stands, whatever is written into the reader. -/
theorem IsI.off {w w' : World} {g pb : Nat} {x : Int} {s : ByteArray} {a : Nat} {tr wr bad : Int} (h : IsI w g x) (hr : Rp w pb s a tr wr bad) (ho : Only (fun k => k = pb) w w') : IsI w' g x := by
  obtain ⟨neg, v, m, hB, hN, hx, hne⟩ := h
  have hg : g ≠ pb := by
    rintro rfl
    have h1 := hB.cell 0
    have h2 := Blk.cell hr 0
    rw [h1] at h2
    simp at h2
  refine ⟨neg, v, m, hB.only ho hg, ?_, hx, hne⟩
  obtain ⟨A, c, l, h1, h2, h3⟩ := hN
  refine ⟨A, c, l, h1, ?_, h3⟩
  rcases h2 with h2 | ⟨b, off, hA, hc⟩
  · exact .inl h2
  · refine .inr ⟨b, off, hA, fun j u hu => ?_⟩
    have hbg : b ≠ pb := by
      rintro rfl
      have h4 := hc j u hu
      obtain ⟨y, _, rfl⟩ : ∃ y, y ∈ l ∧ Value.int .u32 (y : Nat) = u := by
        have := List.mem_of_getElem? hu
        simpa [u32s] using this
      rw [Blk.cell hr] at h4
      match off + j, h4 with
      | 0, h4 => simp at h4
      | 1, h4 => simp at h4
      | 2, h4 => simp at h4
      | 3, h4 => simp at h4
      | 4, h4 => simp at h4
      | _ + 5, h4 => simp at h4
    rw [World.cell?_of_block (ho.block b (cell_lt (hc j u hu)) hbg)]
    exact hc j u hu
/-- What the number is, behind SetString. -/
def NumQ (w : World) (pb : Nat) (s : ByteArray) (a : Nat) (tr : Int) (X : ByteArray) (s6 s7 : Value) (W : World) : Prop :=
  (bigS (toN X) = none ∧ s6 = .pointer none ∧ s7 = .bool false ∧ RS w pb s a tr 0 0 W) ∨
  (∃ (x : Int) (g : Nat), bigS (toN X) = some x ∧ s6 = .pointer (some ⟨g, 0, none⟩) ∧ s7 = .bool true ∧ IsI W g x ∧ RS w pb s a tr 0 0 W)
set_option maxRecDepth 100000 in
set_option maxHeartbeats 16000000 in
theorem rtree_step (pb : Nat) (s : ByteArray) (hs : s.size ≤ 60000) (f l pos : Nat) (hat : pos ≤ s.size) (hl : l < 400)
    (hk5 : RKidsC pb s f l 5 125) (hk6 : RKidsC pb s f l 6 93) (w : World) (hr : Rp w pb s pos (400 - ((l + 1 : Nat) : Int)) 0 0) :
    Calls Tryz.prog 7 #[.pointer (some ⟨pb, 0, none⟩)] w (RTreeQ pb s (pT Num (toN s) (f + 1) pos (l + 1)) w) := by
  have hpb : pb < w.heap.size := Blk.lt hr
  obtain ⟨ti, hti⟩ : ∃ ti : Int, (400 - ((l + 1 : Nat) : Int)) = ti := ⟨_, rfl⟩
  have htb : 0 ≤ ti ∧ ti < 400 := by omega
  rw [hti] at hr
  have ht0 : ¬ 400 < ti + 1 := by omega
  obtain ⟨h0, h1, h2, h3, h4, hz⟩ := hr.cells
  have HL := Lib.hid (show 400 - (l : Int) = ti + 1 by omega)
  have HR := Lib.hid hr
  have HK5 := Lib.hid hk5
  have HK6 := Lib.hid hk6
  have hat1 : (pos : Int) ≤ (s.size : Int) := by omega
  have hpi : (pos : Int) ≤ 60000 := by omega
  have hne : ¬ pb = w.heap.size := by omega
  have hpos0 : (0 : Int) ≤ pos := by omega
  clear hr hk5 hk6 hti
  go_enter Tryz.func7, Tryz.ntmps7
  go_wp2_with fail
  refine calls_at (fun W1 => RS w pb s pos (ti + 1) 0 0 W1) ⟨Blk.alloc (Blk.set_ HR.out 2 (.int .i64 (ti + 1))) _, Blk.newer _ _ _ (by simp), ((Only.refl (fun k => k = pb) w).setCell (p := ⟨pb, 2, none⟩) rfl _).alloc _⟩ ?_
  intro W1 q1
  have HS := Lib.hid q1
  clear q1 h0 h1 h2 h3 h4 hz
  by_cases hb0 : isB s ⟨#[110, 117, 108, 108]⟩ pos = true
  · have HB := Lib.hid hb0
    have HP := Lib.hid (pT_kw (toN s) f pos l 0 (by decide) (by intro j hj; omega) HB.out)
    have HLE := Lib.hid (isB_le hat HB.out)
    clear hb0
    (with_reducible refine (ris_yes _ pb s hs pos hat (ti + 1) ⟨#[110, 117, 108, 108]⟩ (by decide) HS.out.rd HB.out).mono ?_)
    rintro e w2 ⟨rfl, hr2, ho2⟩
    have hts := HS.out.turn hpb hr2 ho2
    obtain ⟨r0, r1, r2, r3, r4, r5, r6, zr⟩ := res_cells hts.res
    have HE := Lib.hid hts
    clear hr2 ho2 hts
    go_wp2_with fail
    refine bodyPost_ret (v := .agg #[.int .i64 0, .int .i64 0, .string ⟨#[]⟩, .int .i64 0, .int .i64 0, .slice none 0 0, .slice none 0 0]) (results_cell_row Tryz.results7 _ _ w.heap.size _ _ _ _ rfl (blk7 _ _ _ _ _ _ _ HE.out.res) Tryz.underlying29 rfl (by kernel_rfl)) rfl ?_
    exact rtree_end HL.out HE.out hpb (leafP (kwV 0)) HP.out HLE.out (leaf_own _ _ kw_fit) List.nodup_nil (by intro b hb; cases hb) _ rfl _ _ _ _ _ _ _
  have N0 := Lib.hid (show isB s ⟨#[110, 117, 108, 108]⟩ pos = false by simpa using hb0)
  clear hb0
  (with_reducible refine (ris_no _ pb s hs pos hat (ti + 1) ⟨#[110, 117, 108, 108]⟩ (by decide) HS.out.rd N0.out).mono ?_)
  rintro e w2 ⟨rfl, hr2, ho2⟩
  have HS0 := Lib.hid (HS.out.turn hpb hr2 ho2)
  clear hr2 ho2
  go_wp2_with fail
  by_cases hb1 : isB s ⟨#[116, 114, 117, 101]⟩ pos = true
  · have HB := Lib.hid hb1
    have HP := Lib.hid (pT_kw (toN s) f pos l 1 (by decide) (by intro j hj; obtain rfl : j = 0 := (by omega); exact N0.out) HB.out)
    have HLE := Lib.hid (isB_le hat HB.out)
    clear hb1
    (with_reducible refine (ris_yes _ pb s hs pos hat (ti + 1) ⟨#[116, 114, 117, 101]⟩ (by decide) HS0.out.rd HB.out).mono ?_)
    rintro e w2 ⟨rfl, hr2, ho2⟩
    have hts := HS0.out.turn hpb hr2 ho2
    obtain ⟨r0, r1, r2, r3, r4, r5, r6, zr⟩ := res_cells hts.res
    have HE := Lib.hid hts
    clear hr2 ho2 hts
    go_wp2_with fail
    refine bodyPost_ret (v := .agg #[.int .i64 1, .int .i64 1, .string ⟨#[]⟩, .int .i64 0, .int .i64 0, .slice none 0 0, .slice none 0 0]) (results_cell_row Tryz.results7 _ _ w.heap.size _ _ _ _ rfl (blk7 _ _ _ _ _ _ _ HE.out.res) Tryz.underlying29 rfl (by kernel_rfl)) rfl ?_
    exact rtree_end HL.out HE.out hpb (leafP (kwV 1)) HP.out HLE.out (leaf_own _ _ kw_fit) List.nodup_nil (by intro b hb; cases hb) _ rfl _ _ _ _ _ _ _
  have N1 := Lib.hid (show isB s ⟨#[116, 114, 117, 101]⟩ pos = false by simpa using hb1)
  clear hb1
  (with_reducible refine (ris_no _ pb s hs pos hat (ti + 1) ⟨#[116, 114, 117, 101]⟩ (by decide) HS0.out.rd N1.out).mono ?_)
  rintro e w2 ⟨rfl, hr2, ho2⟩
  have HS1 := Lib.hid (HS0.out.turn hpb hr2 ho2)
  clear hr2 ho2
  go_wp2_with fail
  by_cases hb2 : isB s ⟨#[102, 97, 108, 115, 101]⟩ pos = true
  · have HB := Lib.hid hb2
    have HP := Lib.hid (pT_kw (toN s) f pos l 2 (by decide) (by intro j hj; rcases (show j = 0 ∨ j = 1 by omega) with rfl | rfl; exact N0.out; exact N1.out) HB.out)
    have HLE := Lib.hid (isB_le hat HB.out)
    clear hb2
    (with_reducible refine (ris_yes _ pb s hs pos hat (ti + 1) ⟨#[102, 97, 108, 115, 101]⟩ (by decide) HS1.out.rd HB.out).mono ?_)
    rintro e w2 ⟨rfl, hr2, ho2⟩
    have hts := HS1.out.turn hpb hr2 ho2
    obtain ⟨r0, r1, r2, r3, r4, r5, r6, zr⟩ := res_cells hts.res
    have HE := Lib.hid hts
    clear hr2 ho2 hts
    go_wp2_with fail
    refine bodyPost_ret (v := .agg #[.int .i64 1, .int .i64 0, .string ⟨#[]⟩, .int .i64 0, .int .i64 0, .slice none 0 0, .slice none 0 0]) (results_cell_row Tryz.results7 _ _ w.heap.size _ _ _ _ rfl (blk7 _ _ _ _ _ _ _ HE.out.res) Tryz.underlying29 rfl (by kernel_rfl)) rfl ?_
    exact rtree_end HL.out HE.out hpb (leafP (kwV 2)) HP.out HLE.out (leaf_own _ _ kw_fit) List.nodup_nil (by intro b hb; cases hb) _ rfl _ _ _ _ _ _ _
  have N2 := Lib.hid (show isB s ⟨#[102, 97, 108, 115, 101]⟩ pos = false by simpa using hb2)
  clear hb2
  (with_reducible refine (ris_no _ pb s hs pos hat (ti + 1) ⟨#[102, 97, 108, 115, 101]⟩ (by decide) HS1.out.rd N2.out).mono ?_)
  rintro e w2 ⟨rfl, hr2, ho2⟩
  have HS2 := Lib.hid (HS1.out.turn hpb hr2 ho2)
  clear hr2 ho2
  go_wp2_with fail
  have HPT := Lib.hid (pT_rest (toN s) f pos l (by intro j hj; rcases (show j = 0 ∨ j = 1 ∨ j = 2 by omega) with rfl | rfl | rfl; exact N0.out; exact N1.out; exact N2.out))
  by_cases hb3 : (toN s)[pos]? = some 123
  · have HB := Lib.hid ((isB_one 123).2 hb3)
    rw [if_pos hb3] at HPT
    have HLE := Lib.hid (show pos + 1 ≤ s.size from isB_le (c := ⟨#[123]⟩) hat HB.out)
    clear hb3
    (with_reducible refine (ris_yes _ pb s hs pos hat (ti + 1) ⟨#[123]⟩ (by decide) HS2.out.rd HB.out).mono ?_)
    rintro e w2 ⟨rfl, hr2, ho2⟩
    have hts := HS2.out.turn hpb hr2 ho2
    obtain ⟨r0, r1, r2, r3, r4, r5, r6, zr⟩ := res_cells hts.res
    have HE := Lib.hid hts
    clear hr2 ho2 hts
    have hrk := HE.out.rd
    rw [← HL.out] at hrk
    have HQ := Lib.hid (HK5.out _ (pos + 1) HLE.out hrk)
    clear hrk r0 r1 r2 r3 r4 r5 r6 zr
    cases hP : kidsR (toN s) f 5 125 (pos + 1) l with
    | ok t a l' =>
      rw [hP] at HPT
      have HP := Lib.hid hP
      clear hP
      go_wp2_with (go_at_call 15; (with_reducible refine HQ.out.mono ?_); intro e w4 hq; obtain ⟨T, rfl, rfl, ha, hr4, hown, hnd, hlow, ho4⟩ := hq.okd HP.out; have hts := HE.out.turn hpb hr4 ho4; obtain ⟨r0, r1, r2, r3, r4, r5, r6, zr⟩ := res_cells hts.res; have HW := Lib.hid (And.intro ha (And.intro hown (And.intro hnd (fun b (hb : b ∈ T.own) => Nat.lt_of_lt_of_le HE.out.res.lt (hlow b hb))))); replace HE := Lib.hid hts; clear ha hr4 hown hnd hlow ho4 hts)
      refine bodyPost_ret (v := .agg #[.int .i64 T.val.k, .int .i64 T.val.n, .string T.val.s, .int .i64 T.val.o, .int .i64 T.val.p, .slice T.kA T.keys.length T.kc, .slice T.cA T.kids.length T.cc]) (results_cell_row Tryz.results7 _ _ w.heap.size _ _ _ _ rfl (blk7 _ _ _ _ _ _ _ HE.out.res) Tryz.underlying29 rfl (by kernel_rfl)) rfl ?_
      exact rtree_end rfl HE.out hpb T HPT.out HW.out.1 HW.out.2.1 HW.out.2.2.1 HW.out.2.2.2 _ rfl _ _ _ _ _ _ _
    | bad a x =>
      rw [hP] at HPT
      have HP := Lib.hid hP
      clear hP
      go_wp2_with (go_at_call 15; (with_reducible refine HQ.out.mono ?_); intro e w4 hq; obtain ⟨hx, ⟨vk, vn, vs, vo, vp, vA, vn1, vc1, vB, vn2, vc2, rfl⟩, ⟨a4, t4, ha, hr4⟩, ho4⟩ := hq.badd HP.out; have hts := HE.out.turn hpb hr4 ho4; obtain ⟨r0, r1, r2, r3, r4, r5, r6, zr⟩ := res_cells hts.res; have HW := Lib.hid (And.intro hx ha); replace HE := Lib.hid hts; clear ha hx hr4 ho4 hts)
      refine bodyPost_ret (v := .agg #[.int .i64 vk, .int .i64 vn, .string vs, .int .i64 vo, .int .i64 vp, .slice vA vn1 vc1, .slice vB vn2 vc2]) (results_cell_row Tryz.results7 _ _ w.heap.size _ _ _ _ rfl (blk7 _ _ _ _ _ _ _ HE.out.res) Tryz.underlying29 rfl (by kernel_rfl)) rfl ?_
      exact rbad_end HW.out.1 HE.out hpb HW.out.2 HPT.out _ ⟨vk, vn, vs, vo, vp, vA, vn1, vc1, vB, vn2, vc2, rfl⟩ _ _ _ _ _ _ _
  rw [if_neg hb3] at HPT
  have N3 := Lib.hid (show isB s ⟨#[123]⟩ pos = false from Bool.eq_false_iff.2 (fun h => hb3 ((isB_one 123).1 h)))
  clear hb3
  (with_reducible refine (ris_no _ pb s hs pos hat (ti + 1) ⟨#[123]⟩ (by decide) HS2.out.rd N3.out).mono ?_)
  rintro e w2 ⟨rfl, hr2, ho2⟩
  have HS3 := Lib.hid (HS2.out.turn hpb hr2 ho2)
  clear hr2 ho2
  go_wp2_with fail
  by_cases hb4 : (toN s)[pos]? = some 91
  · have HB := Lib.hid ((isB_one 91).2 hb4)
    rw [if_pos hb4] at HPT
    have HLE := Lib.hid (show pos + 1 ≤ s.size from isB_le (c := ⟨#[91]⟩) hat HB.out)
    clear hb4
    (with_reducible refine (ris_yes _ pb s hs pos hat (ti + 1) ⟨#[91]⟩ (by decide) HS3.out.rd HB.out).mono ?_)
    rintro e w2 ⟨rfl, hr2, ho2⟩
    have hts := HS3.out.turn hpb hr2 ho2
    obtain ⟨r0, r1, r2, r3, r4, r5, r6, zr⟩ := res_cells hts.res
    have HE := Lib.hid hts
    clear hr2 ho2 hts
    have hrk := HE.out.rd
    rw [← HL.out] at hrk
    have HQ := Lib.hid (HK6.out _ (pos + 1) HLE.out hrk)
    clear hrk r0 r1 r2 r3 r4 r5 r6 zr
    cases hP : kidsR (toN s) f 6 93 (pos + 1) l with
    | ok t a l' =>
      rw [hP] at HPT
      have HP := Lib.hid hP
      clear hP
      go_wp2_with (go_at_call 15; (with_reducible refine HQ.out.mono ?_); intro e w4 hq; obtain ⟨T, rfl, rfl, ha, hr4, hown, hnd, hlow, ho4⟩ := hq.okd HP.out; have hts := HE.out.turn hpb hr4 ho4; obtain ⟨r0, r1, r2, r3, r4, r5, r6, zr⟩ := res_cells hts.res; have HW := Lib.hid (And.intro ha (And.intro hown (And.intro hnd (fun b (hb : b ∈ T.own) => Nat.lt_of_lt_of_le HE.out.res.lt (hlow b hb))))); replace HE := Lib.hid hts; clear ha hr4 hown hnd hlow ho4 hts)
      refine bodyPost_ret (v := .agg #[.int .i64 T.val.k, .int .i64 T.val.n, .string T.val.s, .int .i64 T.val.o, .int .i64 T.val.p, .slice T.kA T.keys.length T.kc, .slice T.cA T.kids.length T.cc]) (results_cell_row Tryz.results7 _ _ w.heap.size _ _ _ _ rfl (blk7 _ _ _ _ _ _ _ HE.out.res) Tryz.underlying29 rfl (by kernel_rfl)) rfl ?_
      exact rtree_end rfl HE.out hpb T HPT.out HW.out.1 HW.out.2.1 HW.out.2.2.1 HW.out.2.2.2 _ rfl _ _ _ _ _ _ _
    | bad a x =>
      rw [hP] at HPT
      have HP := Lib.hid hP
      clear hP
      go_wp2_with (go_at_call 15; (with_reducible refine HQ.out.mono ?_); intro e w4 hq; obtain ⟨hx, ⟨vk, vn, vs, vo, vp, vA, vn1, vc1, vB, vn2, vc2, rfl⟩, ⟨a4, t4, ha, hr4⟩, ho4⟩ := hq.badd HP.out; have hts := HE.out.turn hpb hr4 ho4; obtain ⟨r0, r1, r2, r3, r4, r5, r6, zr⟩ := res_cells hts.res; have HW := Lib.hid (And.intro hx ha); replace HE := Lib.hid hts; clear ha hx hr4 ho4 hts)
      refine bodyPost_ret (v := .agg #[.int .i64 vk, .int .i64 vn, .string vs, .int .i64 vo, .int .i64 vp, .slice vA vn1 vc1, .slice vB vn2 vc2]) (results_cell_row Tryz.results7 _ _ w.heap.size _ _ _ _ rfl (blk7 _ _ _ _ _ _ _ HE.out.res) Tryz.underlying29 rfl (by kernel_rfl)) rfl ?_
      exact rbad_end HW.out.1 HE.out hpb HW.out.2 HPT.out _ ⟨vk, vn, vs, vo, vp, vA, vn1, vc1, vB, vn2, vc2, rfl⟩ _ _ _ _ _ _ _
  rw [if_neg hb4] at HPT
  have N4 := Lib.hid (show isB s ⟨#[91]⟩ pos = false from Bool.eq_false_iff.2 (fun h => hb4 ((isB_one 91).1 h)))
  clear hb4
  (with_reducible refine (ris_no _ pb s hs pos hat (ti + 1) ⟨#[91]⟩ (by decide) HS3.out.rd N4.out).mono ?_)
  rintro e w2 ⟨rfl, hr2, ho2⟩
  have HS4 := Lib.hid (HS3.out.turn hpb hr2 ho2)
  clear hr2 ho2
  obtain ⟨j0, j1, j2, j3, j4, jz⟩ := HS4.out.rd.cells
  by_cases hb5 : (toN s)[pos]? = some 34
  · rw [if_pos hb5] at HPT
    have hlt := lt_of_at hb5
    have hlti : (pos : Int) < (s.size : Int) := by omega
    have hcell : ∀ h, ((s[pos]'h).toNat : Int) = 34 := by
      intro h
      rw [toN_at h] at hb5
      injection hb5 with hb5
      omega
    clear hb5
    go_wp2_with fail
    go_big_quiet (fail)
    have HS5 := Lib.hid (fun n => HS4.out.drewN n)
    unfold textR at HPT
    cases hq : txtF 60 ((toN s).drop pos) with
    | some p =>
      obtain ⟨b, n⟩ := p
      have HQ := Lib.hid hq
      rw [hq] at HPT
      clear hq
      go_wp2_with (go_at_call 16; refine (rquoted_any _ pb s hs pos hat (ti + 1) 60 (by decide) (HS5.out nq).rd).mono ?_; intro e w4 hq; obtain ⟨hle, rfl, hb60, hr4, ho4⟩ := hq.some_ HQ.out; have hts := (HS5.out nq).turn hpb hr4 ho4; obtain ⟨r0, r1, r2, r3, r4, r5, r6, zr⟩ := res_cells hts.res; have HW := Lib.hid (And.intro hle hb60); have HE := Lib.hid hts; clear hle hb60 hr4 ho4 hts hq)
      refine bodyPost_ret (v := .agg #[.int .i64 3, .int .i64 0, .string b, .int .i64 0, .int .i64 0, .slice none 0 0, .slice none 0 0]) (results_cell_row Tryz.results7 _ _ w.heap.size _ _ _ _ rfl (blk7 _ _ _ _ _ _ _ HE.out.res) Tryz.underlying29 rfl (by kernel_rfl)) rfl ?_
      exact rtree_end HL.out HE.out hpb (leafP ⟨3, 0, b, 0, 0⟩) HPT.out HW.out.1 (leaf_own _ _ (text_fit HW.out.2)) List.nodup_nil (by intro b hb; cases hb) _ rfl _ _ _ _ _ _ _
    | none =>
      have HQ := Lib.hid hq
      rw [hq] at HPT
      clear hq
      go_wp2_with (go_at_call 16; refine (rquoted_any _ pb s hs pos hat (ti + 1) 60 (by decide) (HS5.out nq).rd).mono ?_; intro e w4 hq; obtain ⟨rfl, hr4, ho4⟩ := hq.none_ HQ.out; have hts := (HS5.out nq).turn hpb hr4 ho4; obtain ⟨r0, r1, r2, r3, r4, r5, r6, zr⟩ := res_cells hts.res; have HE := Lib.hid hts; clear hr4 ho4 hts hq)
      refine bodyPost_ret (v := .agg #[.int .i64 3, .int .i64 0, .string ⟨#[]⟩, .int .i64 0, .int .i64 0, .slice none 0 0, .slice none 0 0]) (results_cell_row Tryz.results7 _ _ w.heap.size _ _ _ _ rfl (blk7 _ _ _ _ _ _ _ HE.out.res) Tryz.underlying29 rfl (by kernel_rfl)) rfl ?_
      exact rbad_end (.inl rfl) HE.out hpb hat HPT.out _ text_agg _ _ _ _ _ _ _
  rw [if_neg hb5] at HPT
  unfold numR at HPT
  obtain ⟨L, hL⟩ : ∃ L, L = (numRun ((toN s).drop pos)).length := ⟨_, rfl⟩
  have hLs : pos + L ≤ s.size := by have := run_len_le ((toN s).drop pos); rw [List.length_drop, toN_len] at this; omega
  have HRUN := Lib.hid (show (∀ k, k < L → ∃ c, (toN s)[pos + k]? = some c ∧ isNumC c = true) ∧ (∀ c, (toN s)[pos + L]? = some c → isNumC c = false) from by
    rw [hL]
    refine ⟨fun k hk => ?_, fun c hc => ?_⟩
    · obtain ⟨c, h1, h2⟩ := run_at _ k hk
      rw [List.getElem?_drop] at h1
      exact ⟨c, h1, h2⟩
    · rw [← List.getElem?_drop] at hc
      exact run_end _ c hc)
  have HNUM := Lib.hid (show toN (s.extract pos (pos + L)) = numRun ((toN s).drop pos) from by
    rw [toN_slice, hL]
    exact run_take _)
  rw [← hL] at HPT
  have HLL := Lib.hid hL
  clear hL
  have hcase : (pos = s.size) ∨ (pos < s.size ∧ (pos : Int) < (s.size : Int) ∧ ∃ x : Int, (∀ h, ((s[pos]'h).toNat : Int) = x) ∧ (x == 34) = false ∧ ¬ x = 34) := by
    by_cases h0 : pos < s.size
    · refine .inr ⟨h0, by omega, ((s[pos]'h0).toNat : Int), fun _ => rfl, ?_⟩
      have : (s[pos]'h0).toNat ≠ 34 := fun e => hb5 (by rw [toN_at h0, e])
      refine ⟨?_, by omega⟩
      rw [beq_eq_false_iff_ne]
      omega
    · exact .inl (by omega)
  clear hb5
  go_wp2_with fail
  refine wp_at (fun W2 => RS w pb s pos (ti + 1) 0 0 W2) HS4.out ?_
  intro W2 q2
  clear j0 j1 j2 j3 j4 jz
  obtain ⟨j0, j1, j2, j3, j4, jz⟩ := q2.rd.cells
  have HS5 := Lib.hid q2
  clear q2
  go_cut [72] from 51 to 71 (fun s72 wx => s72 = .bool false ∧ RS w pb s pos (ti + 1) 0 0 wx)
  case first =>
    rcases hcase with rfl | ⟨h0, h0i, x, hcell, hx1, hx2⟩
    all_goals
      go_big_quiet (fail)
      go_wp2_with fail
      go_meet
      exact ⟨rfl, HS5.out.drewN _⟩
  case rest =>
  obtain ⟨rfl, q3⟩ := hcut
  clear j0 j1 j2 j3 j4 jz hcase
  obtain ⟨j0, j1, j2, j3, j4, jz⟩ := q3.rd.cells
  have HS6 := Lib.hid q3
  clear q3
  go_upto_block 0 with fail
  go_cut [5] from 82 to 117 (fun s5 wx => s5 = .int .i64 ((pos + L : Nat) : Int) ∧ wc = wx)
  case first =>
    go_wp2_with fail
    go_loopw [5] (fun v wr => ∃ i : Nat, v = .int .i64 (i : Nat) ∧ pos ≤ i ∧ i ≤ pos + L ∧ wr = wc) (fun v _ => s.size - (intOf v).toNat)
    case atStart => exact ⟨pos, rfl, Nat.le_refl _, Nat.le_add_right _ _, rfl⟩
    case round =>
      obtain ⟨i, rfl, hi0, hi1, rfl⟩ := hrel
      by_cases hlt : i < pos + L
      · obtain ⟨n, hn, hnum⟩ := HRUN.out.1 (i - pos) (by omega)
        rw [show pos + (i - pos) = i from by omega] at hn
        have his : i < s.size := by omega
        have hisi : (i : Int) < (s.size : Int) := by omega
        have hcell : ∀ h, ((s[i]'h).toNat : Int) = (n : Int) := by
          intro h
          rw [toN_at h] at hn
          injection hn with hn
          omega
        have hdig : n = 45 ∨ (48 ≤ n ∧ n ≤ 57) := by unfold isNumC at hnum; simpa using hnum
        clear hn hnum
        rcases hdig with rfl | ⟨d0, d1⟩
        · go_wp2_with fail
          go_roundw
          case rel => exact ⟨i + 1, by go_num, by omega, by omega, trivial⟩
          case measure => simp only [intOf]; omega
        · have d2 : ((n : Int) == 45) = false := by rw [beq_eq_false_iff_ne]; omega
          have d3 : (48 : Int) ≤ (n : Int) := by omega
          have d4 : (n : Int) ≤ 57 := by omega
          go_wp2_with fail
          go_roundw
          case rel => exact ⟨i + 1, by go_num, by omega, by omega, trivial⟩
          case measure => simp only [intOf]; omega
      · obtain rfl : i = pos + L := by omega
        have HI := Lib.hid HRUN.out.2
        generalize pos + L = i at *
        by_cases his : i < s.size
        · have hisi : (i : Int) < (s.size : Int) := by omega
          obtain ⟨n, hn⟩ : ∃ n, n = (s[i]'his).toNat := ⟨_, rfl⟩
          have hnum := HI.out n (by rw [toN_at his, hn])
          have hcell : ∀ h, ((s[i]'h).toNat : Int) = (n : Int) := by intro h; rw [hn]
          have hdig : ¬ n = 45 ∧ (¬ 48 ≤ n ∨ (48 ≤ n ∧ ¬ n ≤ 57)) := by unfold isNumC at hnum; simp at hnum; omega
          clear hn hnum
          have d2 : ((n : Int) == 45) = false := by rw [beq_eq_false_iff_ne]; omega
          rcases hdig.2 with d0 | ⟨d0, d1⟩
          · have d3 : ¬ (48 : Int) ≤ (n : Int) := by omega
            go_wp2_with fail
            go_meet
            exact ⟨rfl, rfl⟩
          · have d3 : (48 : Int) ≤ (n : Int) := by omega
            have d4 : ¬ (n : Int) ≤ 57 := by omega
            go_wp2_with fail
            go_meet
            exact ⟨rfl, rfl⟩
        · have hisi : ¬ (i : Int) < (s.size : Int) := by omega
          go_wp2_with fail
          go_meet
          exact ⟨rfl, rfl⟩
  case rest =>
  obtain ⟨rfl, rfl⟩ := hcut
  go_wp2_with fail
  have HNU := Lib.hid (show ∀ c ∈ toN (s.extract pos (pos + L)), isNumC c = true from by
    rw [HNUM.out]
    intro c hc
    exact run_num hc)
  have HNS := Lib.hid (show (s.extract pos (pos + L)).size ≤ 60000 from by rw [ByteArray.size_extract]; omega)
  obtain ⟨M, hM⟩ : ∃ M, pos + L = M := ⟨_, rfl⟩
  have hM1 : (pos : Int) ≤ (M : Int) := by omega
  have hM2 : (M : Int) ≤ (s.size : Int) := by omega
  rw [hM] at HNU HNS HNUM HPT hLs ⊢
  have HMM := Lib.hid hM
  clear hM
  have hpw : pb < wc.heap.size := Nat.lt_of_lt_of_le hpb HS6.out.only.size
  have hpn : ¬ pb = wc.heap.size := by omega
  obtain ⟨X, hX⟩ : ∃ X, s.extract pos M = X := ⟨_, rfl⟩
  rw [hX] at HNU HNS HNUM
  have HX := Lib.hid hX
  clear hX
  have HA := Lib.hid (show Blk (wc.alloc (.cells #[.bool false, .slice none 0 0] 59)).drew wc.heap.size 59 #[.bool false, .slice none 0 0] from Blk.new _ _ _)
  have HT := Lib.hid (fun (W' : World) (ho : Only (fun k => k = wc.heap.size) (wc.alloc (.cells #[.bool false, .slice none 0 0] 59)).drew W') => show RS w pb s pos (ti + 1) 0 0 W' ∧ Below wc.heap.size wc W' from by
    have h1 : Below wc.heap.size wc (wc.alloc (.cells #[.bool false, .slice none 0 0] 59)).drew := ((Below.refl _ wc).alloc (Nat.le_refl _) _).drew
    have h2 := h1.trans (ho.below h1.size (fun k hk e => by omega))
    exact ⟨HS6.out.below h2, h2⟩)
  have HSS := Lib.hid (show Calls Tryz.prog 17 #[.pointer (some ⟨wc.heap.size, 0, none⟩), .string X, .int .i64 10] (wc.alloc (.cells #[.bool false, .slice none 0 0] 59)).drew (fun e w' => ∃ a b, e = .returned (.tuple #[a, b]) ∧ NumQ w pb s pos (ti + 1) X a b w' ∧ Below wc.heap.size wc w') from by
    refine (setstring_any _ wc.heap.size X HNS.out HNU.out HA.out).mono ?_
    intro e w3 hq
    cases hb : bigS (toN X) with
    | none =>
      obtain ⟨rfl, ho3⟩ := hq.nod hb
      exact ⟨_, _, rfl, .inl ⟨hb, rfl, rfl, (HT.out _ ho3).1⟩, (HT.out _ ho3).2⟩
    | some x =>
      obtain ⟨rfl, hi3, ho3⟩ := hq.okd hb
      exact ⟨_, _, rfl, .inr ⟨x, _, hb, rfl, rfl, hi3, (HT.out _ ho3).1⟩, (HT.out _ ho3).2⟩)
  have HKS := Lib.hid (show ∀ W, Below wc.heap.size wc W → W.cell? ⟨pb, 0, none⟩ = some (.string s) ∧ W.cell? ⟨pb, 1, none⟩ = some (.int .i64 pos) from fun W hW => ⟨(HS6.out.below hW).rd.cells.1, (HS6.out.below hW).rd.cells.2.1⟩)
  go_cut [6, 7] from 118 to 132 (fun s6 s7 wx => NumQ w pb s pos (ti + 1) X s6 s7 wx)
  case first =>
    clear j2 j3 j4 jz
    go_region_held3 (fun w' => w'.cell? ⟨pb, 0, none⟩ = some (.string s) ∧ w'.cell? ⟨pb, 1, none⟩ = some (.int .i64 pos)) (first | (with_reducible exact HKS.out _ hbx) | go_keep) (first
      | (go_simp; go_at_call 17; rw [HX.out]; refine HSS.out.mono ?_; rintro e w3 ⟨a, b, rfl, hq, hbx⟩; have HO := Lib.hid hq; clear hq))
    all_goals
      go_wp2_with fail
      go_meet
      exact HO.out
  case rest =>
  have HN := Lib.hid hcut
  clear hcut j0 j1 j2 j3 j4 jz hpw hpn HA HT HS6 HS5 HSS HKS
  rcases HN.out with ⟨hb, rfl, rfl, hS⟩ | ⟨x, g, hb, rfl, rfl, hI, hS⟩
  · obtain ⟨j0, j1, j2, j3, j4, jz⟩ := hS.rd.cells
    have HS7 := Lib.hid hS
    have HB := Lib.hid hb
    clear hS hb HN
    go_upto_region 27 with (fail)
    go_cut [154] from 133 to 153 (fun s154 wx => s154 = .bool true ∧ RS w pb s pos (ti + 1) 0 0 wx)
    case first =>
      go_big_quiet (fail)
      all_goals
        go_wp2_with fail
        go_meet
        exact ⟨rfl, HS7.out.drewN _⟩
    case rest =>
    obtain ⟨rfl, hS8⟩ := hcut
    clear j0 j1 j2 j3 j4 jz
    obtain ⟨j0, j1, j2, j3, j4, jz⟩ := hS8.rd.cells
    have HS8 := Lib.hid hS8
    clear hS8
    go_wp2_with (go_at_call 8; refine (rfail_any _ pb s pos (ti + 1) 0 0 pos 2 (HS8.out).rd).mono ?_; rintro e w5 ⟨rfl, hr5, ho5⟩; have hts := (HS8.out).turn hpb hr5 ho5; obtain ⟨r0, r1, r2, r3, r4, r5, r6, zr⟩ := res_cells hts.res; have HE := Lib.hid hts; clear hts hr5 ho5)
    refine bodyPost_ret (v := .agg #[.int .i64 0, .int .i64 0, .string ⟨#[]⟩, .int .i64 0, .int .i64 0, .slice none 0 0, .slice none 0 0]) (results_cell_row Tryz.results7 _ _ w.heap.size _ _ _ _ rfl (blk7 _ _ _ _ _ _ _ HE.out.res) Tryz.underlying29 rfl (by kernel_rfl)) rfl ?_
    refine rbad_end (.inl rfl) HE.out hpb hat (HPT.out.trans ?_) _ zero_agg _ _ _ _ _ _ _
    rw [← HNUM.out, num_big_none HB.out]
  · obtain ⟨j0, j1, j2, j3, j4, jz⟩ := hS.rd.cells
    have HS7 := Lib.hid (And.intro hS hI)
    have HB := Lib.hid hb
    have HF := Lib.hid (fun wx => isint64_any g x wx)
    have HI7 := Lib.hid (fun n => show IsI (wc.drewN n) g x from hI.below ⟨rfl, rfl, rfl, Nat.le_refl _, fun _ _ => rfl⟩)
    clear hS hb hI HN
    cases hf : fitsB x with
    | false =>
      have HF := Lib.hid (show ∀ wx, IsI wx g x → Calls Tryz.prog 18 #[.pointer (some ⟨g, 0, none⟩)] wx (fun e w' => e = .returned (.bool false) ∧ w' = wx) from fun wx hi => hf ▸ HF.out wx hi)
      have HNO := Lib.hid (num_big_not HB.out (fun h => by have := (fitsB_iff x).2 h.1; rw [hf] at this; cases this))
      clear hf
      go_upto_region 27 with (fail)
      go_cut [154] from 133 to 153 (fun s154 wx => s154 = .bool true ∧ RS w pb s pos (ti + 1) 0 0 wx)
      case first =>
        go_big_quiet (first | (go_at_call 18; exact Calls.quiet_of_same (HF.out _ (HI7.out _))))
        all_goals
          go_wp2_with fail
          go_meet
          exact ⟨rfl, HS7.out.1.drewN _⟩
      case rest =>
      obtain ⟨rfl, hS8⟩ := hcut
      clear j0 j1 j2 j3 j4 jz
      obtain ⟨j0, j1, j2, j3, j4, jz⟩ := hS8.rd.cells
      have HS8 := Lib.hid hS8
      clear hS8
      go_wp2_with (go_at_call 8; refine (rfail_any _ pb s pos (ti + 1) 0 0 pos 2 (HS8.out).rd).mono ?_; rintro e w5 ⟨rfl, hr5, ho5⟩; have hts := (HS8.out).turn hpb hr5 ho5; obtain ⟨r0, r1, r2, r3, r4, r5, r6, zr⟩ := res_cells hts.res; have HE := Lib.hid hts; clear hts hr5 ho5)
      refine bodyPost_ret (v := .agg #[.int .i64 0, .int .i64 0, .string ⟨#[]⟩, .int .i64 0, .int .i64 0, .slice none 0 0, .slice none 0 0]) (results_cell_row Tryz.results7 _ _ w.heap.size _ _ _ _ rfl (blk7 _ _ _ _ _ _ _ HE.out.res) Tryz.underlying29 rfl (by kernel_rfl)) rfl ?_
      refine rbad_end (.inl rfl) HE.out hpb hat (HPT.out.trans ?_) _ zero_agg _ _ _ _ _ _ _
      rw [← HNUM.out, HNO.out]
    | true =>
      have HF := Lib.hid (show ∀ wx, IsI wx g x → Calls Tryz.prog 18 #[.pointer (some ⟨g, 0, none⟩)] wx (fun e w' => e = .returned (.bool true) ∧ w' = wx) from fun wx hi => hf ▸ HF.out wx hi)
      have hx64 := (fitsB_iff x).1 hf
      have HX64 := Lib.hid hx64
      obtain ⟨SB, hSB⟩ : ∃ SB : ByteArray, (⟨(Go.Lib.itoa x).toArray⟩ : ByteArray) = SB := ⟨_, rfl⟩
      have HST := Lib.hid (show ∀ wx, IsI wx g x → Calls Tryz.prog 19 #[.pointer (some ⟨g, 0, none⟩)] wx (fun e w' => e = .returned (.string SB) ∧ Below wx.heap.size wx w') from fun wx hi => hSB ▸ string_any g x wx hi (by unfold I64 at hx64; omega) (by unfold I64 at hx64; omega))
      obtain ⟨b, hb⟩ : ∃ b, (SB.toList == X.toList) = b := ⟨_, rfl⟩
      have hb2 : (!SB.toList == X.toList) = !b := by rw [hb]
      have HBB := Lib.hid (And.intro hb hSB)
      clear hf hx64 hSB
      go_upto_region 27 with (fail)
      go_cut [154] from 133 to 153 (fun s154 wx => s154 = .bool (!b) ∧ RS w pb s pos (ti + 1) 0 0 wx ∧ IsI wx g x)
      case first =>
        have HFd := Lib.hid (show Calls Tryz.prog 18 #[.pointer (some ⟨g, 0, none⟩)] wc.drew (fun e w' => e = .returned (.bool true) ∧ w' = wc.drew) from HF.out _ (HI7.out 1))
        have HSTd := Lib.hid (show Calls Tryz.prog 19 #[.pointer (some ⟨g, 0, none⟩)] wc.drew (fun e w' => e = .returned (.string SB) ∧ Below wc.heap.size wc.drew w') from HST.out _ (HI7.out 1))
        have HKS := Lib.hid (show ∀ W, Below wc.heap.size wc W → W.cell? ⟨pb, 0, none⟩ = some (.string s) ∧ W.cell? ⟨pb, 1, none⟩ = some (.int .i64 pos) from fun W hW => ⟨(HS7.out.1.below hW).rd.cells.1, (HS7.out.1.below hW).rd.cells.2.1⟩)
        clear j2 j3 j4 jz
        go_region_held3 (fun w' => w'.cell? ⟨pb, 0, none⟩ = some (.string s) ∧ w'.cell? ⟨pb, 1, none⟩ = some (.int .i64 pos)) (first | (with_reducible exact HKS.out _ hbx) | go_keep) (first
          | (go_simp; go_at_call 18; (with_reducible refine HFd.out.mono ?_); rintro e w3 ⟨rfl, rfl⟩)
          | (go_simp; go_at_call 19; (with_reducible refine HSTd.out.mono ?_); rintro e w3 ⟨rfl, hb3⟩; have hbx : Below wc.heap.size wc w3 := (Below.refl _ wc).drew.trans hb3))
        all_goals
          go_wp2_with fail
          go_meet
          exact ⟨by rw [HX.out, hb], HS7.out.1.below hbx, HS7.out.2.below hbx⟩
      case rest =>
      obtain ⟨rfl, hS8, hI8⟩ := hcut
      clear j0 j1 j2 j3 j4 jz hb hb2
      obtain ⟨j0, j1, j2, j3, j4, jz⟩ := hS8.rd.cells
      have HS8 := Lib.hid hS8
      have HI8 := Lib.hid hI8
      clear hS8 hI8
      cases b with
      | false =>
        go_wp2_with (go_at_call 8; refine (rfail_any _ pb s pos (ti + 1) 0 0 pos 2 (HS8.out).rd).mono ?_; rintro e w5 ⟨rfl, hr5, ho5⟩; have hts := (HS8.out).turn hpb hr5 ho5; obtain ⟨r0, r1, r2, r3, r4, r5, r6, zr⟩ := res_cells hts.res; have HE := Lib.hid hts; clear hts hr5 ho5)
        refine bodyPost_ret (v := .agg #[.int .i64 0, .int .i64 0, .string ⟨#[]⟩, .int .i64 0, .int .i64 0, .slice none 0 0, .slice none 0 0]) (results_cell_row Tryz.results7 _ _ w.heap.size _ _ _ _ rfl (blk7 _ _ _ _ _ _ _ HE.out.res) Tryz.underlying29 rfl (by kernel_rfl)) rfl ?_
        refine rbad_end (.inl rfl) HE.out hpb hat (HPT.out.trans ?_) _ zero_agg _ _ _ _ _ _ _
        rw [← HNUM.out, num_big_not HB.out (fun h => by have h1 := HBB.out.1; rw [(sb_eq HBB.out.2).2 h.2] at h1; cases h1)]
      | true =>
        go_wp2_with (go_at_call 20; refine (int64_any g x _ (HI8.out.off HS8.out.rd (Only.one pb 1 _)) HX64.out).mono ?_; rintro e w5 ⟨rfl, rfl⟩; have hts := HS8.out.moved hpb M; obtain ⟨r0, r1, r2, r3, r4, r5, r6, zr⟩ := res_cells hts.res; have HE := Lib.hid hts; clear hts)
        refine bodyPost_ret (v := .agg #[.int .i64 2, .int .i64 x, .string ⟨#[]⟩, .int .i64 0, .int .i64 0, .slice none 0 0, .slice none 0 0]) (results_cell_row Tryz.results7 _ _ w.heap.size _ _ _ _ rfl (blk7 _ _ _ _ _ _ _ HE.out.res) Tryz.underlying29 rfl (by kernel_rfl)) rfl ?_
        refine rtree_end HL.out HE.out hpb (leafP ⟨2, x, ⟨#[]⟩, 0, 0⟩) (HPT.out.trans ?_) hLs (leaf_own _ _ (num_fit HX64.out)) List.nodup_nil (by intro b hb; cases hb) _ rfl _ _ _ _ _ _ _
        rw [← HNUM.out, num_big_some HB.out HX64.out ((sb_eq HBB.out.2).1 HBB.out.1)]
        rfl
end Go.Proofs.YtpeckpiidgkgoaaGreatDoor
