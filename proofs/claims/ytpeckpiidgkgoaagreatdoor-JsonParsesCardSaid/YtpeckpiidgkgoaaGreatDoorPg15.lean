/- TreeDefs, TreeAny. -/
import Derived.Test.YtpeckpiidgkgoaaGreatDoorPg14
/- reader.tree: what its walk leans on. -/
namespace Go.Proofs.YtpeckpiidgkgoaaGreatDoor
open Go.RowKit
set_option linter.unusedVariables false
set_option linter.unusedSimpArgs false

theorem Rd.less {w : World} {rb : Nat} {s : ByteArray} {at_ : Nat} {left : Int} (h : Rd w rb s at_ left) (x : Int) : Rd (w.setCell ⟨rb, 2, none⟩ (.int .i64 x)) rb s at_ x := Blk.set_ h 2 (.int .i64 x)
theorem Rd.alloc {w : World} {rb : Nat} {s : ByteArray} {at_ : Nat} {left : Int} (h : Rd w rb s at_ left) (o : Obj) : Rd (w.alloc o) rb s at_ left := Blk.alloc h o
/-- The three words. -/
def kwK : Nat → Int | 0 => 0 | _ => 1
def kwX : Nat → Int | 1 => 1 | _ => 0
def kwP : Nat → List UInt8 | 0 => [110, 117, 108, 108] | 1 => [116, 114, 117, 101] | _ => [102, 97, 108, 115, 101]
def kwV (k : Nat) : JV := ⟨kwK k, kwX k, ⟨#[]⟩, 0, 0⟩
def kwCells : Array Value := #[.int .i64 0, .int .i64 0, .string ⟨#[]⟩, .int .i64 0, .int .i64 0, .int .i64 1, .int .i64 1, .string ⟨#[]⟩, .int .i64 0, .int .i64 0, .int .i64 1, .int .i64 0, .string ⟨#[]⟩, .int .i64 0, .int .i64 0]
theorem kw_show (k : Nat) : showL (kwV k) = kwP k := by
  match k with
  | 0 => rfl
  | 1 => rfl
  | k + 2 => rfl
def leafP (v : JV) : PT := .node v none 0 [] none 0 []
theorem leaf_own (w : World) (v : JV) (hv : v.Fit) : OwnJ 9 29 w (leafP v) :=
  OwnJ.mk_ ⟨hv, ⟨rfl, .inl ⟨rfl, rfl⟩⟩, ⟨rfl, .inl ⟨rfl, rfl⟩⟩, by intro s hs; cases hs⟩ (by intro k hk; cases hk)
theorem leaf_own_nil (v : JV) : (leafP v).own = [] := rfl
theorem leaf_tree (v : JV) : (leafP v).tree = leafT v := rfl
theorem leaf_value (v : JV) : (leafP v).value = .agg #[.int .i64 v.k, .int .i64 v.n, .string v.s, .int .i64 v.o, .int .i64 v.p, .slice none 0 0, .slice none 0 0] := rfl
def zero7 : Array Value := #[.int .i64 0, .int .i64 0, .string ⟨#[]⟩, .int .i64 0, .int .i64 0, .slice none 0 0, .slice none 0 0]
theorem res_cells {w : World} {g : Nat} {t : TypeId} {c0 c1 c2 c3 c4 c5 c6 : Value} (h : Blk w g t #[c0, c1, c2, c3, c4, c5, c6]) : w.cell? ⟨g, 0, none⟩ = some c0 ∧ w.cell? ⟨g, 1, none⟩ = some c1 ∧ w.cell? ⟨g, 2, none⟩ = some c2 ∧ w.cell? ⟨g, 3, none⟩ = some c3 ∧ w.cell? ⟨g, 4, none⟩ = some c4 ∧ w.cell? ⟨g, 5, none⟩ = some c5 ∧ w.cell? ⟨g, 6, none⟩ = some c6 ∧ ∀ i, w.frozen? ⟨g, i, none⟩ = false :=
  ⟨h.cell 0, h.cell 1, h.cell 2, h.cell 3, h.cell 4, h.cell 5, h.cell 6, h.frozen⟩
/-- What the loop over the three words holds. -/
structure TI (w : World) (rb : Nat) (s : ByteArray) (pos : Nat) (l : Int) (gb k : Nat) (wr : World) : Prop where
  rd : Rd wr rb s pos l
  res : Blk wr w.heap.size 29 #[.int .i64 0, .int .i64 0, .string ⟨#[]⟩, .int .i64 0, .int .i64 0, .slice none 0 0, .slice none 0 0]
  row : Blk wr gb 25 kwCells
  only : Only (fun k => k = rb) w wr
  no : ∀ j, j < k → prefB ((kwP j).map UInt8.toNat) ((toN s).drop pos) = false
theorem kw_at {k : Nat} (h : k < 3) : kwCells[k * 5]? = some (.int .i64 (kwK k)) ∧ kwCells[k * 5 + 1]? = some (.int .i64 (kwX k)) ∧ kwCells[k * 5 + 2]? = some (.string ⟨#[]⟩) ∧ kwCells[k * 5 + 3]? = some (.int .i64 0) ∧ kwCells[k * 5 + 4]? = some (.int .i64 0) := by
  match k, h with
  | 0, _ => exact ⟨rfl, rfl, rfl, rfl, rfl⟩
  | 1, _ => exact ⟨rfl, rfl, rfl, rfl, rfl⟩
  | 2, _ => exact ⟨rfl, rfl, rfl, rfl, rfl⟩
theorem kw_len {k : Nat} : (kwP k).length ≤ 5 := by
  match k with
  | 0 => decide
  | 1 => decide
  | k + 2 => show (5 : Nat) ≤ 5; decide
theorem kw_k (k : Nat) : 0 ≤ (kwV k).k ∧ (kwV k).k ≤ 4 := by
  match k with
  | 0 => decide
  | k + 1 => show (0 : Int) ≤ 1 ∧ (1 : Int) ≤ 4; decide
theorem kw_fit {k : Nat} : (kwV k).Fit := by
  match k with
  | 0 => exact ⟨i64_small _ (.inl rfl), i64_small _ (.inl rfl), by decide, i64_small _ (.inl rfl), i64_small _ (.inl rfl)⟩
  | 1 => exact ⟨i64_small _ (.inr rfl), i64_small _ (.inr rfl), by decide, i64_small _ (.inl rfl), i64_small _ (.inl rfl)⟩
  | k + 2 => exact ⟨i64_small _ (.inr rfl), i64_small _ (.inl rfl), Nat.zero_le _, i64_small _ (.inl rfl), i64_small _ (.inl rfl)⟩
theorem TI.below {w wr w' : World} {rb : Nat} {s : ByteArray} {pos : Nat} {l : Int} {gb k : Nat} (h : TI w rb s pos l gb k wr) (hb : Below wr.heap.size wr w') : TI w rb s pos l gb k w' :=
  ⟨h.rd.below hb, h.res.below hb h.res.lt, h.row.below hb h.row.lt, h.only.trans (Only.of_below hb), h.no⟩
theorem TI.next {w wr : World} {rb : Nat} {s : ByteArray} {pos : Nat} {l : Int} {gb k : Nat} (h : TI w rb s pos l gb k wr) (hn : prefB ((kwP k).map UInt8.toNat) ((toN s).drop pos) = false) : TI w rb s pos l gb (k + 1) wr :=
  ⟨h.rd, h.res, h.row, h.only, fun j hj => by
    by_cases e : j = k
    · subst e; exact hn
    · exact h.no j (by omega)⟩
/-- The reader and the result's place, at whatever place. -/
structure TS (w : World) (rb : Nat) (s : ByteArray) (a : Nat) (l : Int) (W : World) : Prop where
  rd : Rd W rb s a l
  res : Blk W w.heap.size 29 #[.int .i64 0, .int .i64 0, .string ⟨#[]⟩, .int .i64 0, .int .i64 0, .slice none 0 0, .slice none 0 0]
  only : Only (fun k => k = rb) w W
theorem TI.ts {w wr : World} {rb : Nat} {s : ByteArray} {pos : Nat} {l : Int} {gb k : Nat} (h : TI w rb s pos l gb k wr) : TS w rb s pos l wr := ⟨h.rd, h.res, h.only⟩
theorem TS.turn {w W W' : World} {rb : Nat} {s : ByteArray} {a a' : Nat} {l l' : Int} (h : TS w rb s a l W) (hrb : rb < w.heap.size) (hr : Rd W' rb s a' l') (ho : Only (fun k => k = rb) W W') : TS w rb s a' l' W' :=
  ⟨hr, h.res.only ho (by omega), h.only.trans ho⟩
theorem TS.moved {w W : World} {rb : Nat} {s : ByteArray} {a : Nat} {l : Int} (h : TS w rb s a l W) (hrb : rb < w.heap.size) (m : Nat) : TS w rb s (a + m) l (W.setCell ⟨rb, 1, none⟩ (.int .i64 ((a : Int) + m))) :=
  h.turn hrb h.rd.at (Only.setCell (S := fun k => k = rb) (Only.refl _ W) (p := ⟨rb, 1, none⟩) rfl _)
theorem TS.below {w W W' : World} {rb : Nat} {s : ByteArray} {a : Nat} {l : Int} (h : TS w rb s a l W) (hb : Below W.heap.size W W') : TS w rb s a l W' :=
  ⟨h.rd.below hb, h.res.below hb h.res.lt, h.only.trans (Only.of_below hb)⟩
theorem TS.drew {w W : World} {rb : Nat} {s : ByteArray} {a : Nat} {l : Int} (h : TS w rb s a l W) (n : Nat) : TS w rb s a l (W.drewN n) := ⟨h.rd.drew n, h.res.drewN n, h.only.drewN n⟩
theorem not_empty {R : ByteArray} (h : 0 < R.size) : ¬ R.toList = [] ∧ (!R.toList.isEmpty) = true := by
  have : R.toList.isEmpty = false := by
    cases hk : R.toList.isEmpty with
    | false => rfl
    | true => rw [empty_ba hk] at h; exact absurd h (by decide)
  exact ⟨(fun e => by rw [e] at this; cases this), (by rw [this]; rfl)⟩
theorem toList_neq {a b : ByteArray} (h : a ≠ b) : (a.toList == b.toList) = false ∧ (!a.toList == b.toList) = true := by
  have : (a.toList == b.toList) = false := by
    rw [beq_eq_false_iff_ne]
    intro e
    rw [ByteArray.toList_eq, ByteArray.toList_eq] at e
    apply h
    apply ByteArray.ext
    exact Array.toList_inj.1 e
  exact ⟨this, by rw [this]; rfl⟩
theorem is_empty {R : ByteArray} (h : R.size = 0) : R.toList = [] := by
  have : R = ⟨#[]⟩ := by
    obtain ⟨d⟩ := R
    simp [ByteArray.size] at h
    rw [h]
  rw [this, ByteArray.toList_eq]
/-- The end, at the result's place. -/
theorem tree_end {w W : World} {rb : Nat} {s : ByteArray} {a l : Nat} {li : Int} (hl : (l : Int) = li) {P : PR} (hts : TS w rb s a li W) (hrb : rb < w.heap.size) (T : PT) (hP : P = .ok T.tree a l) (ha : a ≤ s.size) (hown : OwnJ 9 29 W T) (hnd : T.own.Nodup) (hlow : ∀ b ∈ T.own, w.heap.size < b) (v : Value) (hv : v = T.value) (c0 c1 c2 c3 c4 c5 c6 : Value) :
    TreeQ rb s P w (.returned v) (((((((W.setCell ⟨w.heap.size, 0, none⟩ c0).setCell ⟨w.heap.size, 1, none⟩ c1).setCell ⟨w.heap.size, 2, none⟩ c2).setCell ⟨w.heap.size, 3, none⟩ c3).setCell ⟨w.heap.size, 4, none⟩ c4).setCell ⟨w.heap.size, 5, none⟩ c5).setCell ⟨w.heap.size, 6, none⟩ c6) := by
  subst hP hv
  have o := only7 W w.heap.size c0 c1 c2 c3 c4 c5 c6 0 1 2 3 4 5 6
  refine ⟨⟨T, rfl, ha, ?_, hown.only o (fun b hb e => by have := hlow b hb; omega), hnd, fun b hb => Nat.le_of_lt (hlow b hb), rfl⟩, ?_⟩
  · rw [hl]
    exact Blk.only hts.rd o (by show rb ≠ w.heap.size; omega)
  · exact ⟨o.os.trans hts.only.os, o.tape.trans hts.only.tape, o.output.trans hts.only.output, Nat.le_trans hts.only.size o.size, fun k hk hn => (o.block k (Nat.lt_of_lt_of_le hk hts.only.size) (by show k ≠ w.heap.size; omega)).trans (hts.only.block k hk hn)⟩
theorem TreeQ.okd {rb : Nat} {s : ByteArray} {P : PR} {w w' : World} {e : Ending} {t : JT} {a l : Nat} (h : TreeQ rb s P w e w') (hP : P = .ok t a l) :
    ∃ T : PT, e = .returned (.agg #[.int .i64 T.val.k, .int .i64 T.val.n, .string T.val.s, .int .i64 T.val.o, .int .i64 T.val.p, .slice T.kA T.keys.length T.kc, .slice T.cA T.kids.length T.cc]) ∧ T.tree = t ∧ a ≤ s.size ∧ Rd w' rb s a l ∧ OwnJ 9 29 w' T ∧ T.own.Nodup ∧ (∀ b ∈ T.own, w.heap.size ≤ b) ∧ Only (fun k => k = rb) w w' := by
  subst hP
  obtain ⟨⟨T, h1, h2, h3, h4, h5, h6, h7⟩, h8⟩ := h
  exact ⟨T, h1, h7, h2, h3, h4, h5, h6, h8⟩
theorem TreeQ.badd {rb : Nat} {s : ByteArray} {P : PR} {w w' : World} {e : Ending} {a : Nat} {x : Int} (h : TreeQ rb s P w e w') (hP : P = .bad a x) :
    e = .panicked [{ v := .iface 45 (.agg #[.int .i64 a, .iface 43 (.int .i64 x)]), recovered := false }] ∧ Only (fun k => k = rb) w w' := by
  subst hP
  exact h
theorem QuotedQ.some_ {w w' : World} {rb : Nat} {s : ByteArray} {at_ m : Nat} {left : Int} {e : Ending} (h : QuotedQ w rb s at_ left m e w') {k : ByteArray} {n : Nat} (hk : txtF m ((toN s).drop at_) = some (k, n)) :
    at_ + n ≤ s.size ∧ e = .returned (.string k) ∧ k.size ≤ m ∧ Rd w' rb s (at_ + n) left ∧ Only (fun k => k = rb) w w' := by
  obtain ⟨⟨k', n', h1, h2, h3, h4⟩ | ⟨h1, _⟩, ho⟩ := h
  · rw [h1] at hk
    injection hk with hk
    injection hk with e1 e2
    subst e1 e2
    refine ⟨h2, h3, ?_, h4, ho⟩
    unfold txtF at h1
    split at h1
    · rename_i b n _
      split at h1
      · rename_i hb
        injection h1 with h1
        injection h1 with e1 _
        rw [← e1]
        unfold ofN
        simpa [ByteArray.size] using hb
      · cases h1
    · cases h1
  · rw [h1] at hk; cases hk
theorem QuotedQ.none_ {w w' : World} {rb : Nat} {s : ByteArray} {at_ m : Nat} {left : Int} {e : Ending} (h : QuotedQ w rb s at_ left m e w') (hk : txtF m ((toN s).drop at_) = none) :
    e = .panicked [{ v := .iface 45 (.agg #[.int .i64 at_, .iface 43 (.int .i64 2)]), recovered := false }] ∧ Only (fun k => k = rb) w w' := by
  obtain ⟨⟨k', n', h1, h2, h3, h4⟩ | ⟨h1, h2⟩, ho⟩ := h
  · rw [h1] at hk; cases hk
  · exact ⟨h2, ho⟩
theorem text_fit {b : ByteArray} (h : b.size ≤ 60) : (⟨3, 0, b, 0, 0⟩ : JV).Fit :=
  ⟨(show I64 3 by unfold I64; decide), (show I64 0 by unfold I64; decide), by show b.size ≤ maxLen; unfold maxLen; omega, (show I64 0 by unfold I64; decide), (show I64 0 by unfold I64; decide)⟩
theorem num_fit {v : Int} (h : I64 v) : (⟨2, v, ⟨#[]⟩, 0, 0⟩ : JV).Fit :=
  ⟨(show I64 2 by unfold I64; decide), h, Nat.zero_le _, (show I64 0 by unfold I64; decide), (show I64 0 by unfold I64; decide)⟩
theorem cut_ascii : ∀ (j : Nat) (b : UInt8), (⟨#[45, 48, 49, 50, 51, 52, 53, 54, 55, 56, 57]⟩ : ByteArray).data.toList[j]? = some b → b.toNat < 128 := by
  intro j b h
  have h := List.mem_of_getElem? h
  simp only [List.mem_cons, List.not_mem_nil, or_false] at h
  rcases h with rfl | rfl | rfl | rfl | rfl | rfl | rfl | rfl | rfl | rfl | rfl <;> decide
theorem TS.cx {W0 w W : World} {rb : Nat} {s : ByteArray} {a : Nat} {l : Int} (h : TS w rb s a l W) (hc : Cx W0 rb w) : Cx W0 rb W.drew := (hc.only h.only).below ⟨rfl, rfl, rfl, Nat.le_refl _, fun _ _ => rfl⟩
theorem AtoiQ.ok_ {s : ByteArray} {w w' : World} {e : Ending} (h : AtoiQ s w e w') {v : Int} (hv : Go.Lib.atoiAll s.data.toList = .ok v) : e = .returned (.tuple #[.int .i64 v, .nilIface]) ∧ Below w.heap.size w w' := by
  obtain ⟨⟨v', h1, h2⟩ | ⟨h1, _⟩, hb⟩ := h
  · rw [h1] at hv
    injection hv with hv
    subst hv
    exact ⟨h2, hb⟩
  · exact absurd hv (h1 v)
theorem AtoiQ.no_ {s : ByteArray} {w w' : World} {e : Ending} (h : AtoiQ s w e w') (hv : ∀ v, Go.Lib.atoiAll s.data.toList ≠ .ok v) : (∃ x T N, e = .returned (.tuple #[.int .i64 x, .iface T (.pointer (some ⟨N, 0, none⟩))])) ∧ Below w.heap.size w w' := by
  obtain ⟨⟨v', h1, h2⟩ | ⟨h1, h2⟩, hb⟩ := h
  · exact absurd h1 (hv v')
  · exact ⟨h2, hb⟩
theorem prefB_len {p l : List Nat} (h : prefB p l = true) : p.length ≤ l.length := (List.isPrefixOf_iff_prefix.1 h).length_le
/-- What kids answers. -/
def kidsR (s : List Nat) (f : Nat) (kind : Int) (endc pos left : Nat) : PR := if s[pos]? = some endc then .ok (leafT (kindV kind)) (pos + 1) left else pK Num s f kind endc pos left [] []
def KidsC (W0 : World) (rb : Nat) (s : ByteArray) (f left : Nat) (kind : Int) (endc : Nat) : Prop :=
  ∀ (w : World) (pos : Nat), pos ≤ s.size → Cx W0 rb w → Rd w rb s pos left → Calls Tryz.prog 24 #[.pointer (some ⟨rb, 0, none⟩), .int .i64 kind, .int .u8 endc] w (TreeQ rb s (kidsR (toN s) f kind endc pos left) w)
/-- What pT is, word by word. -/
theorem pT_kw (s : List Nat) (f pos l k : Nat) (hk : k < 3) (hno : ∀ j, j < k → prefB ((kwP j).map UInt8.toNat) (s.drop pos) = false) (hp : prefB ((kwP k).map UInt8.toNat) (s.drop pos) = true) :
    pT Num s (f + 1) pos (l + 1) = .ok (leafT (kwV k)) (pos + (kwP k).length) l := by
  rw [pT, if_neg (by omega)]
  match k, hk with
  | 0, _ => rw [if_pos (show prefB nullN (s.drop pos) = true from hp)]; rfl
  | 1, _ =>
    rw [if_neg (by rw [show prefB nullN (s.drop pos) = false from hno 0 (by omega)]; simp), if_pos (show prefB trueN (s.drop pos) = true from hp)]
    rfl
  | 2, _ =>
    rw [if_neg (by rw [show prefB nullN (s.drop pos) = false from hno 0 (by omega)]; simp), if_neg (by rw [show prefB trueN (s.drop pos) = false from hno 1 (by omega)]; simp), if_pos (show prefB falseN (s.drop pos) = true from hp)]
    rfl
/-- A quoted text, as a tree. -/
def textR (s : List Nat) (pos l : Nat) : PR := match txtF 60 (s.drop pos) with | some (b, n) => .ok (leafT ⟨3, 0, b, 0, 0⟩) (pos + n) l | none => .bad pos 2
/-- A number, as a tree. -/
def numR (s : List Nat) (pos l : Nat) : PR := match Num (numRun (s.drop pos)) with | some x => .ok (leafT ⟨2, x, ⟨#[]⟩, 0, 0⟩) (pos + (numRun (s.drop pos)).length) l | none => .bad pos 2
theorem pT_rest (s : List Nat) (f pos l : Nat) (hno : ∀ j, j < 3 → prefB ((kwP j).map UInt8.toNat) (s.drop pos) = false) :
    pT Num s (f + 1) pos (l + 1) = if s[pos]? = some 123 then kidsR s f 5 125 (pos + 1) l else if s[pos]? = some 91 then kidsR s f 6 93 (pos + 1) l else if s[pos]? = some 34 then textR s pos l else numR s pos l := by
  rw [pT, if_neg (by omega), if_neg (by rw [show prefB nullN (s.drop pos) = false from hno 0 (by omega)]; simp), if_neg (by rw [show prefB trueN (s.drop pos) = false from hno 1 (by omega)]; simp), if_neg (by rw [show prefB falseN (s.drop pos) = false from hno 2 (by omega)]; simp)]
  rfl
/-- takes, decided. -/
theorem takes_yes (w : World) (rb : Nat) (s : ByteArray) (hs : s.size ≤ 60000) (at_ : Nat) (hat : at_ ≤ s.size) (left : Int) (c : Nat) (hc : c < 256) (h : Rd w rb s at_ left) (hy : (toN s)[at_]? = some c) :
    Calls Tryz.prog 23 #[.pointer (some ⟨rb, 0, none⟩), .int .u8 c] w fun e w' => e = .returned (.bool true) ∧ Rd w' rb s (at_ + 1) left ∧ Only (fun k => k = rb) w w' := by
  refine (takes_any w rb s hs at_ hat left c hc h).mono ?_
  rintro e w' ⟨⟨_, rfl, hr⟩ | ⟨hn, _⟩, ho⟩
  · exact ⟨rfl, hr, ho⟩
  · exact absurd hy hn
theorem takes_no (w : World) (rb : Nat) (s : ByteArray) (hs : s.size ≤ 60000) (at_ : Nat) (hat : at_ ≤ s.size) (left : Int) (c : Nat) (hc : c < 256) (h : Rd w rb s at_ left) (hn : (toN s)[at_]? ≠ some c) :
    Calls Tryz.prog 23 #[.pointer (some ⟨rb, 0, none⟩), .int .u8 c] w fun e w' => e = .returned (.bool false) ∧ Rd w' rb s at_ left ∧ Only (fun k => k = rb) w w' := by
  refine (takes_any w rb s hs at_ hat left c hc h).mono ?_
  rintro e w' ⟨⟨hy, _⟩ | ⟨_, rfl, hr⟩, ho⟩
  · exact absurd hy hn
  · exact ⟨rfl, hr, ho⟩
theorem lt_of_at {s : ByteArray} {at_ c : Nat} (h : (toN s)[at_]? = some c) : at_ < s.size := by
  have := (List.getElem?_eq_some_iff.1 h).1
  rw [toN_len] at this
  exact this
end Go.Proofs.YtpeckpiidgkgoaaGreatDoor
/- reader.tree, given what kids does: the contract. -/
namespace Go.Proofs.YtpeckpiidgkgoaaGreatDoor
open Go.RowKit
set_option linter.unusedVariables false
set_option linter.unusedSimpArgs false

set_option maxRecDepth 100000 in
set_option maxHeartbeats 16000000 in
theorem tree_step (W0 : World) (rb : Nat) (s : ByteArray) (hs : s.size ≤ 60000) (f l pos : Nat) (hat : pos ≤ s.size) (hl : l < 400)
    (hk5 : KidsC W0 rb s f l 5 125) (hk6 : KidsC W0 rb s f l 6 93) (w : World) (hc : Cx W0 rb w) (hr : Rd w rb s pos (l + 1 : Nat)) :
    Calls Tryz.prog 10 #[.pointer (some ⟨rb, 0, none⟩)] w (TreeQ rb s (pT Num (toN s) (f + 1) pos (l + 1)) w) := by
  have hrb : rb < w.heap.size := Blk.lt hr
  obtain ⟨li, hli⟩ : ∃ li : Int, ((l + 1 : Nat) : Int) = li := ⟨_, rfl⟩
  have hlb : 0 < li ∧ li ≤ 400 := by omega
  rw [hli] at hr
  have hl0 : ¬ li - 1 < 0 := by omega
  obtain ⟨h0, h1, h2, f1, f2⟩ := hr.cells
  have HL := Lib.hid (show ((l : Nat) : Int) = li - 1 by omega)
  have HR := Lib.hid hr
  have HC := Lib.hid hc
  have HK5 := Lib.hid hk5
  have HK6 := Lib.hid hk6
  have hat1 : (pos : Int) ≤ (s.size : Int) := by omega
  have hpi : (pos : Int) ≤ 60000 := by omega
  have hne : ¬ rb = w.heap.size := by omega
  have hpos0 : (0 : Int) ≤ pos := by omega
  clear hr hc hk5 hk6 hli
  go_enter Tryz.func10, Tryz.ntmps10
  go_wp2_with fail
  refine wp_at (fun W1 => Rd W1 rb s pos (li - 1) ∧ Blk W1 w.heap.size 29 #[.int .i64 0, .int .i64 0, .string ⟨#[]⟩, .int .i64 0, .int .i64 0, .slice none 0 0, .slice none 0 0] ∧ Only (fun k => k = rb) w W1 ∧ W1.heap.size = w.heap.size + 1) ⟨(HR.out.less (li - 1)).alloc _, Blk.newer _ _ _ (by simp), (Only.setCell (S := fun k => k = rb) (Only.refl _ w) (p := ⟨rb, 2, none⟩) rfl _).alloc _, by simp⟩ ?_
  rintro W1 ⟨q1, q2, q3, q4⟩
  clear h0 h1 h2 f1 f2
  obtain ⟨h0, h1, h2, f1, f2⟩ := q1.cells
  have H1 := Lib.hid (And.intro q1 (And.intro q2 (And.intro q3 q4)))
  clear q1 q2 q3 q4
  go_big_quiet (fail)
  go_wp2_with fail
  have I0 : ∀ n, TI w rb s pos (li - 1) W1.heap.size 0 ((W1.drewN n).alloc (.cells kwCells 25)) := fun n =>
    ⟨((H1.out.1.drew n).alloc _), (H1.out.2.1.drewN n).alloc _, Blk.newer _ _ _ rfl, (H1.out.2.2.1.drewN n).alloc _, by intro j hj; omega⟩
  have HI0 := Lib.hid I0
  clear I0 h0 h1 h2 f1 f2
  have hgb : Hid (W1.heap.size = w.heap.size + 1) := Lib.hid H1.out.2.2.2
  generalize W1.heap.size = gb at *
  go_loopw [43] (fun iv wr => ∃ k : Nat, iv = .int .i64 k ∧ k ≤ 3 ∧ TI w rb s pos (li - 1) gb k wr) (fun iv _ => 3 - (intOf iv).toNat)
  case atStart => exact ⟨0, rfl, by omega, HI0.out _⟩
  case round =>
    obtain ⟨k, rfl, hk, hI⟩ := hrel
    by_cases hlt : k < 3
    · have hlti : (k : Int) < 3 := by omega
      obtain ⟨e0, e1, e2, e3, e4⟩ := kw_at hlt
      have hrow := hI.row
      have g0 : wr.cell? ⟨gb, k * 5, none⟩ = some (.int .i64 (kwK k)) := (hrow.cell (k * 5)).trans e0
      have g1 : wr.cell? ⟨gb, k * 5 + 1, none⟩ = some (.int .i64 (kwX k)) := (hrow.cell (k * 5 + 1)).trans e1
      have g2 : wr.cell? ⟨gb, k * 5 + 2, none⟩ = some (.string ⟨#[]⟩) := (hrow.cell (k * 5 + 2)).trans e2
      have g3 : wr.cell? ⟨gb, k * 5 + 3, none⟩ = some (.int .i64 0) := (hrow.cell (k * 5 + 3)).trans e3
      have g4 : wr.cell? ⟨gb, k * 5 + 4, none⟩ = some (.int .i64 0) := (hrow.cell (k * 5 + 4)).trans e4
      have HI := Lib.hid hI
      clear hI hrow e0 e1 e2 e3 e4
      have hno := HI.out.no
      obtain ⟨m, hm⟩ : ∃ m : Nat, (kwP k).length = m := ⟨_, rfl⟩
      obtain ⟨PB, hPB⟩ : ∃ PB : ByteArray, (⟨(kwP k).toArray⟩ : ByteArray) = PB := ⟨_, rfl⟩
      have hsz : PB.size = m := by rw [← hPB, ← hm]; simp [ByteArray.size]
      have hmb : PB.size ≤ 5 := by rw [hsz, ← hm]; exact kw_len
      obtain ⟨b, hb⟩ : ∃ b, prefB ((kwP k).map UInt8.toNat) ((toN s).drop pos) = b := ⟨_, rfl⟩
      have hpt : b = true → pT Num (toN s) (f + 1) pos (l + 1) = .ok (leafT (kwV k)) (pos + PB.size) l := by
        intro hbt
        rw [hsz, ← hm]
        exact pT_kw (toN s) f pos l k hlt hno (by rw [hb, hbt])
      have hle : b = true → pos + PB.size ≤ s.size := by
        intro hbt
        have := prefB_len (hb.trans hbt)
        rw [List.length_map, hm, List.length_drop, toN_len] at this
        omega
      have hHP : ∀ w1, Calls Tryz.prog 22 #[.string (s.extract pos s.size), .string PB] w1 fun e w' => e = .returned (.bool b) ∧ w' = w1 := by
        intro w1
        have := Tryz.strings_HasPrefix (s.extract pos s.size) PB w1
        rw [← hPB, prefix_bytes, show (s.extract pos s.size).data.toList.map UInt8.toNat = (toN s).drop pos from toN_extract s pos, hb] at this
        rw [← hPB]
        exact this
      have hSH : ∀ w1, Pow10 w1 → Calls Tryz.prog 21 #[.agg #[.int .i64 (kwK k), .int .i64 (kwX k), .string ⟨#[]⟩, .int .i64 0, .int .i64 0]] w1 fun e w' => e = .returned (.string PB) ∧ Below w1.heap.size w1 w' := by
        intro w1 hp
        have := show_any (kwV k) (kw_k k).1 (kw_k k).2 kw_fit.n (fun _ => Nat.zero_le _) w1 hp
        rw [kw_show, hPB] at this
        exact this
      have hfit : (kwV k).Fit := kw_fit
      rw [show kwV k = ⟨kwK k, kwX k, ⟨#[]⟩, 0, 0⟩ from rfl] at hpt hfit
      have HSH := Lib.hid hSH
      have HHP := Lib.hid hHP
      have HPT := Lib.hid hpt
      have HB := Lib.hid hb
      have HLE := Lib.hid hle
      have HF := Lib.hid hfit
      have hpk : ¬ rb = wr.heap.size := by have := HI.out.rd; have := Blk.lt this; omega
      clear hno hb hpt hle hHP hSH hfit hsz hPB hm
      generalize kwK k = K at *
      generalize kwX k = X at *
      cases b with
      | true =>
        go_wp2_with (first
          | (go_at_call 21; refine (HSH.out _ ((HC.out.only HI.out.only).below ((Below.refl _ _).alloc (Nat.le_refl _) _)).pow').mono ?_; rintro e w2 ⟨rfl, hb2⟩; have hb3 := ((Below.refl _ wr).alloc (Nat.le_refl _) _).trans (hb2.mono (by simp)); have hI2 := HI.out.below hb3; have hv2 := (Blk.new wr 25 #[.int .i64 K, .int .i64 X, .string ⟨#[]⟩, .int .i64 0, .int .i64 0]).below hb2 (by simp); have hr2 := hI2.rd; obtain ⟨j0, j1, j2, y1, y2⟩ := hr2.cells; have v0 := hv2.cell 0; have v1 := hv2.cell 1; have v2 := hv2.cell 2; have v3 := hv2.cell 3; have v4 := hv2.cell 4; simp only [List.getElem?_toArray, List.getElem?_cons_zero, List.getElem?_cons_succ] at v0 v1 v2 v3 v4; obtain ⟨r0, r1, r2, r3, r4, r5, r6, zr⟩ := res_cells hI2.res; have HI2 := Lib.hid hI2; clear hr2 hv2 hI2 hb3 hb2)
          | (go_at_call 22; refine (HHP.out _).mono ?_; rintro e w3 ⟨rfl, rfl⟩))
        have hts := HI2.out.ts.moved hrb PB.size
        refine bodyPost_ret (v := .agg #[.int .i64 K, .int .i64 X, .string ⟨#[]⟩, .int .i64 0, .int .i64 0, .slice none 0 0, .slice none 0 0]) (results_cell_row Tryz.results10 _ _ w.heap.size _ _ _ _ rfl (blk7 _ _ _ _ _ _ _ hts.res) Tryz.underlying29 rfl (by kernel_rfl)) rfl ?_
        exact tree_end HL.out hts hrb (leafP ⟨K, X, ⟨#[]⟩, 0, 0⟩) (HPT.out trivial) (HLE.out trivial) (leaf_own _ _ HF.out) List.nodup_nil (by intro b hb; cases hb) _ rfl _ _ _ _ _ _ _
      | false =>
        go_wp2_with (first
          | (go_at_call 21; refine (HSH.out _ ((HC.out.only HI.out.only).below ((Below.refl _ _).alloc (Nat.le_refl _) _)).pow').mono ?_; rintro e w2 ⟨rfl, hb2⟩; have hb3 := ((Below.refl _ wr).alloc (Nat.le_refl _) _).trans (hb2.mono (by simp)); have hI2 := HI.out.below hb3; have HI2 := Lib.hid hI2; clear hI2 hb3 hb2)
          | (go_at_call 22; refine (HHP.out _).mono ?_; rintro e w3 ⟨rfl, rfl⟩))
        go_roundw
        case rel => exact ⟨k + 1, by go_num, by omega, HI2.out.next HB.out⟩
        case measure => simp [intOf] <;> omega
    · obtain rfl : k = 3 := by omega
      clear hk
      have hno := HI0
      have HPT := Lib.hid (pT_rest (toN s) f pos l hI.no)
      have HS := Lib.hid hI.ts
      clear hI hno HI0
      by_cases h123 : (toN s)[pos]? = some 123
      · rw [if_pos h123] at HPT
        have hlt1 := lt_of_at h123
        have HT := Lib.hid (takes_yes wr rb s hs pos hat (li - 1) 123 (by decide) HS.out.rd h123)
        cases hP : kidsR (toN s) f 5 125 (pos + 1) l with
        | ok t a l' =>
          rw [hP] at HPT
          have HP := Lib.hid hP
          clear hP h123
          go_wp2_with (first
            | (go_at_call 23; refine HT.out.mono ?_; rintro e w3 ⟨rfl, hr3, ho3⟩; have HS3 := Lib.hid (HS.out.turn hrb hr3 ho3); clear hr3 ho3)
            | (go_at_call 24; refine (HK5.out _ (pos + 1) (by omega) (HC.out.only HS3.out.only) (by rw [HL.out]; exact HS3.out.rd)).mono ?_; intro e w4 hq; obtain ⟨T, rfl, rfl, ha, hr4, hown, hnd, hlow, ho4⟩ := hq.okd HP.out; have hts := HS3.out.turn hrb hr4 ho4; obtain ⟨r0, r1, r2, r3, r4, r5, r6, zr⟩ := res_cells hts.res; have HW := Lib.hid (And.intro ha (And.intro hown (And.intro hnd (fun b (hb : b ∈ T.own) => Nat.lt_of_lt_of_le HS3.out.res.lt (hlow b hb))))); have HS4 := Lib.hid hts; clear ha hr4 hown hnd hlow ho4 hts))
          refine bodyPost_ret (v := .agg #[.int .i64 T.val.k, .int .i64 T.val.n, .string T.val.s, .int .i64 T.val.o, .int .i64 T.val.p, .slice T.kA T.keys.length T.kc, .slice T.cA T.kids.length T.cc]) (results_cell_row Tryz.results10 _ _ w.heap.size _ _ _ _ rfl (blk7 _ _ _ _ _ _ _ HS4.out.res) Tryz.underlying29 rfl (by kernel_rfl)) rfl ?_
          exact tree_end rfl HS4.out hrb T HPT.out HW.out.1 HW.out.2.1 HW.out.2.2.1 HW.out.2.2.2 _ rfl _ _ _ _ _ _ _
        | bad a x =>
          rw [hP] at HPT
          have HP := Lib.hid hP
          clear hP h123
          go_wp2_with (first
            | (go_at_call 23; refine HT.out.mono ?_; rintro e w3 ⟨rfl, hr3, ho3⟩; have HS3 := Lib.hid (HS.out.turn hrb hr3 ho3); clear hr3 ho3)
            | (go_at_call 24; refine (HK5.out _ (pos + 1) (by omega) (HC.out.only HS3.out.only) (by rw [HL.out]; exact HS3.out.rd)).mono ?_; intro e w4 hq; obtain ⟨rfl, ho4⟩ := hq.badd HP.out))
          rw [HPT.out]
          exact ⟨rfl, rfl, HS3.out.only.trans ho4⟩
      · rw [if_neg h123] at HPT
        have HT := Lib.hid (show Calls Tryz.prog 23 #[.pointer (some ⟨rb, 0, none⟩), .int .u8 123] wr _ from takes_no wr rb s hs pos hat (li - 1) 123 (by decide) HS.out.rd h123)
        by_cases h91 : (toN s)[pos]? = some 91
        · rw [if_pos h91] at HPT
          have hlt1 := lt_of_at h91
          have HY := Lib.hid (fun w2 (hr : Rd w2 rb s pos (li - 1)) => show Calls Tryz.prog 23 #[.pointer (some ⟨rb, 0, none⟩), .int .u8 91] w2 _ from takes_yes w2 rb s hs pos hat (li - 1) 91 (by decide) hr h91)
          cases hP : kidsR (toN s) f 6 93 (pos + 1) l with
          | ok t a l' =>
            rw [hP] at HPT
            have HP := Lib.hid hP
            clear hP h123 h91
            go_wp2_with (first
              | (go_at_call 23; with_reducible refine HT.out.mono ?_; rintro e w2 ⟨rfl, hr2, ho2⟩; have HS2 := Lib.hid (HS.out.turn hrb hr2 ho2); clear hr2 ho2)
              | (go_at_call 23; with_reducible refine (HY.out _ HS2.out.rd).mono ?_; rintro e w3 ⟨rfl, hr3, ho3⟩; have HS3 := Lib.hid (HS2.out.turn hrb hr3 ho3); clear hr3 ho3)
              | (go_at_call 24; refine (HK6.out _ (pos + 1) (by omega) (HC.out.only HS3.out.only) (by rw [HL.out]; exact HS3.out.rd)).mono ?_; intro e w4 hq; obtain ⟨T, rfl, rfl, ha, hr4, hown, hnd, hlow, ho4⟩ := hq.okd HP.out; have hts := HS3.out.turn hrb hr4 ho4; obtain ⟨r0, r1, r2, r3, r4, r5, r6, zr⟩ := res_cells hts.res; have HW := Lib.hid (And.intro ha (And.intro hown (And.intro hnd (fun b (hb : b ∈ T.own) => Nat.lt_of_lt_of_le HS3.out.res.lt (hlow b hb))))); have HS4 := Lib.hid hts; clear ha hr4 hown hnd hlow ho4 hts))
            refine bodyPost_ret (v := .agg #[.int .i64 T.val.k, .int .i64 T.val.n, .string T.val.s, .int .i64 T.val.o, .int .i64 T.val.p, .slice T.kA T.keys.length T.kc, .slice T.cA T.kids.length T.cc]) (results_cell_row Tryz.results10 _ _ w.heap.size _ _ _ _ rfl (blk7 _ _ _ _ _ _ _ HS4.out.res) Tryz.underlying29 rfl (by kernel_rfl)) rfl ?_
            exact tree_end rfl HS4.out hrb T HPT.out HW.out.1 HW.out.2.1 HW.out.2.2.1 HW.out.2.2.2 _ rfl _ _ _ _ _ _ _
          | bad a x =>
            rw [hP] at HPT
            have HP := Lib.hid hP
            clear hP h123 h91
            go_wp2_with (first
              | (go_at_call 23; with_reducible refine HT.out.mono ?_; rintro e w2 ⟨rfl, hr2, ho2⟩; have HS2 := Lib.hid (HS.out.turn hrb hr2 ho2); clear hr2 ho2)
              | (go_at_call 23; with_reducible refine (HY.out _ HS2.out.rd).mono ?_; rintro e w3 ⟨rfl, hr3, ho3⟩; have HS3 := Lib.hid (HS2.out.turn hrb hr3 ho3); clear hr3 ho3)
              | (go_at_call 24; refine (HK6.out _ (pos + 1) (by omega) (HC.out.only HS3.out.only) (by rw [HL.out]; exact HS3.out.rd)).mono ?_; intro e w4 hq; obtain ⟨rfl, ho4⟩ := hq.badd HP.out))
            rw [HPT.out]
            exact ⟨rfl, rfl, HS3.out.only.trans ho4⟩
        · rw [if_neg h91] at HPT
          have HN := Lib.hid (fun w2 (hr : Rd w2 rb s pos (li - 1)) => show Calls Tryz.prog 23 #[.pointer (some ⟨rb, 0, none⟩), .int .u8 91] w2 _ from takes_no w2 rb s hs pos hat (li - 1) 91 (by decide) hr h91)
          have hx := toN_extract s pos
          obtain ⟨R, hR⟩ : ∃ R, s.extract pos s.size = R := ⟨_, rfl⟩
          have hRs : R.size = s.size - pos := by rw [← hR]; simp
          by_cases h34 : (toN s)[pos]? = some 34
          · rw [if_pos h34] at HPT
            have hlt1 := lt_of_at h34
            have h0 : 0 < R.size := by omega
            have h0i : (0 : Int) < (R.size : Int) := by omega
            obtain ⟨hk1, hk2⟩ := not_empty h0
            have hcell : ∀ h, ((R[0]'h).toNat : Int) = 34 := by
              intro h
              have h1 : (toN R)[0]? = some 34 := by rw [← hR, toN_extract, List.getElem?_drop]; exact h34
              rw [toN_at h] at h1
              injection h1 with h1
              omega
            rw [hR]
            have HX := Lib.hid (And.intro hx (And.intro hR (And.intro h34 hRs)))
            clear hx hR h34 h123 h91 hRs
            go_wp2_with (first
              | (go_at_call 23; with_reducible refine HT.out.mono ?_; rintro e w2 ⟨rfl, hr2, ho2⟩; have HS2 := Lib.hid (HS.out.turn hrb hr2 ho2); clear hr2 ho2)
              | (go_at_call 23; with_reducible refine (HN.out _ HS2.out.rd).mono ?_; rintro e w3 ⟨rfl, hr3, ho3⟩; have HS3 := Lib.hid (HS2.out.turn hrb hr3 ho3); clear hr3 ho3))
            unfold textR at HPT
            cases hq : txtF 60 ((toN s).drop pos) with
            | some p =>
              obtain ⟨b, n⟩ := p
              have HQ := Lib.hid hq
              rw [hq] at HPT
              clear hq
              go_wp2_with (go_at_call 25; refine (quoted_any _ rb s hs pos hat (li - 1) 60 (by decide) HS3.out.rd).mono ?_; intro e w4 hq; obtain ⟨hle, rfl, hb60, hr4, ho4⟩ := hq.some_ HQ.out; have hts := HS3.out.turn hrb hr4 ho4; obtain ⟨r0, r1, r2, r3, r4, r5, r6, zr⟩ := res_cells hts.res; have HW := Lib.hid (And.intro hle hb60); have HS4 := Lib.hid hts; clear hle hb60 hr4 ho4 hts hq)
              refine bodyPost_ret (v := .agg #[.int .i64 3, .int .i64 0, .string b, .int .i64 0, .int .i64 0, .slice none 0 0, .slice none 0 0]) (results_cell_row Tryz.results10 _ _ w.heap.size _ _ _ _ rfl (blk7 _ _ _ _ _ _ _ HS4.out.res) Tryz.underlying29 rfl (by kernel_rfl)) rfl ?_
              exact tree_end HL.out HS4.out hrb (leafP ⟨3, 0, b, 0, 0⟩) HPT.out HW.out.1 (leaf_own _ _ (text_fit HW.out.2)) List.nodup_nil (by intro b hb; cases hb) _ rfl _ _ _ _ _ _ _
            | none =>
              have HQ := Lib.hid hq
              rw [hq] at HPT
              clear hq
              go_wp2_with (go_at_call 25; refine (quoted_any _ rb s hs pos hat (li - 1) 60 (by decide) HS3.out.rd).mono ?_; intro e w4 hq; obtain ⟨rfl, ho4⟩ := hq.none_ HQ.out; clear hq)
              rw [HPT.out]
              exact ⟨rfl, rfl, HS3.out.only.trans ho4⟩
          · rw [if_neg h34] at HPT
            unfold numR at HPT
            obtain ⟨L, hL⟩ : ∃ L, L = (numRun (toN R)).length := ⟨_, rfl⟩
            obtain ⟨g1, g2, g3, g4⟩ := run_parts R L hL
            obtain ⟨N0, hN0⟩ : ∃ N0, R.extract 0 L = N0 := ⟨_, rfl⟩
            rw [hN0] at g3 g4
            obtain ⟨TL, hTL⟩ : ∃ TL : ByteArray, (⟨(Lib.trimLeftS R.data.toList cutS).toArray⟩ : ByteArray) = TL := ⟨_, rfl⟩
            have hTs : TL.size = R.size - L := by rw [← hTL, ← g2]; simp [ByteArray.size]
            have HTL := Lib.hid (fun w1 => show Calls Tryz.prog 26 #[.string R, .string ⟨#[45, 48, 49, 50, 51, 52, 53, 54, 55, 56, 57]⟩] w1 (fun e w' => e = .returned (.string TL) ∧ Below w1.heap.size w1 w') from hTL ▸ Tryz.strings_TrimLeft R ⟨#[45, 48, 49, 50, 51, 52, 53, 54, 55, 56, 57]⟩ w1 (by decide) cut_ascii)
            have hsub : (R.size : Int) - (TL.size : Int) = (L : Int) := by omega
            have hRi : (R.size : Int) ≤ 60000 := by omega
            have hTi : (TL.size : Int) ≤ 60000 := by omega
            have hLi : (L : Int) ≤ (R.size : Int) := by omega
            have hND : (toN s).drop pos = toN R := by rw [← hx, hR]
            rw [hND] at HPT
            have hle : pos + L ≤ s.size := by omega
            have HX := Lib.hid (And.intro hx (And.intro hR (And.intro hRs (And.intro hTs (And.intro hTL (And.intro hND (And.intro g1 (And.intro g2 (And.intro g3 (And.intro hL (And.intro hN0 (And.intro g4 hle))))))))))))
            have HNC := Lib.hid (num_cases N0 (numRun (toN R)) g3)
            have hN6 : N0.size ≤ 60000 := by omega
            rw [hR]
            have hcase : (R.toList = []) ∨ (0 < R.size ∧ (0 : Int) < (R.size : Int) ∧ (¬ R.toList = [] ∧ (!R.toList.isEmpty) = true) ∧ ∃ x : Int, (∀ h, ((R[0]'h).toNat : Int) = x) ∧ (x == 34) = false ∧ ¬ x = 34) := by
              by_cases h0 : R.size = 0
              · exact .inl (is_empty h0)
              · refine .inr ⟨by omega, by omega, not_empty (by omega), ((R[0]'(by omega)).toNat : Int), fun _ => rfl, ?_⟩
                have h1 : (toN R)[0]? = (toN s)[pos]? := by rw [← hR, toN_extract, List.getElem?_drop]; rfl
                rw [toN_at (show 0 < R.size by omega)] at h1
                have : (R[0]'(by omega)).toNat ≠ 34 := fun e => h34 (by rw [← h1, e])
                refine ⟨?_, by omega⟩
                rw [beq_eq_false_iff_ne]
                omega
            clear hx hR hRs hTs hTL hND g1 g2 g3 hL hN0 g4 hle h34 h123 h91
            rcases hcase with hk | ⟨h0, h0i, ⟨hk1, hk2⟩, x, hcell, hx1, hx2⟩
            all_goals
              go_wp2_with (first
                | (go_at_call 23; with_reducible refine HT.out.mono ?_; rintro e w2 ⟨rfl, hr2, ho2⟩; have HS2 := Lib.hid (HS.out.turn hrb hr2 ho2); clear hr2 ho2)
                | (go_at_call 23; with_reducible refine (HN.out _ HS2.out.rd).mono ?_; rintro e w3 ⟨rfl, hr3, ho3⟩; have HS3 := Lib.hid (HS2.out.turn hrb hr3 ho3); clear hr3 ho3)
                | (go_at_call 26; refine (HTL.out _).mono ?_; rintro e w4 ⟨rfl, hb4⟩; have HS4 := Lib.hid (HS3.out.below hb4); clear hb4))
            all_goals
              have hN0 := HX.out.2.2.2.2.2.2.2.2.2.2.1
              rw [hN0]
              rcases HNC.out with ⟨v, hv, hvI, hni⟩ | ⟨hno, hn⟩
              · obtain ⟨IB, hIB⟩ : ∃ IB : ByteArray, (⟨(Go.Lib.itoa v).toArray⟩ : ByteArray) = IB := ⟨_, rfl⟩
                rw [hIB] at hni
                obtain ⟨b, hb⟩ : ∃ b, (IB.toList == N0.toList) = b := ⟨_, rfl⟩
                have hb2 : (!IB.toList == N0.toList) = !b := by rw [hb]
                have hnb : Num (numRun (toN R)) = if b then some v else none := by
                  rcases hni with ⟨hn, hi⟩ | ⟨hn, hi⟩
                  · rw [hn, ← hb, hi, if_pos (by simp)]
                  · rw [hn, ← hb, (toList_neq hi).1]; rfl
                have HV := Lib.hid (And.intro hv (And.intro hvI hnb))
                have hIT := fun w1 (hp : Pow10 w1) => itoa_any v hvI w1 hp
                rw [hIB] at hIT
                have HIT := Lib.hid hIT
                clear hv hvI hni hnb hIT hIB
                refine (atoi_any N0 hN6 _ (HC.out.only HS4.out.only).err').mono ?_
                intro e w5 hq
                obtain ⟨rfl, hb5⟩ := hq.ok_ HV.out.1
                have HS5 := Lib.hid (HS4.out.below hb5)
                clear hb5 hq
                go_wp2_with fail
                go_region_with (go_at_call 28; refine (HIT.out w5.drew (HS5.out.cx HC.out).pow').mono ?_; rintro e w6 ⟨rfl, hb6⟩; have hts := HS5.out.below (show Below w5.heap.size w5 w6 from ⟨hb6.os, hb6.tape, hb6.output, hb6.size, hb6.block⟩); obtain ⟨r0, r1, r2, r3, r4, r5, r6, zr⟩ := res_cells hts.res; obtain ⟨j0, j1, j2, y1, y2⟩ := hts.rd.cells; have HS6 := Lib.hid hts; clear hts hb6)
                cases b with
                | true =>
                  go_wp2_with fail
                  have hts := HS6.out.moved hrb L
                  refine bodyPost_ret (v := .agg #[.int .i64 2, .int .i64 v, .string ⟨#[]⟩, .int .i64 0, .int .i64 0, .slice none 0 0, .slice none 0 0]) (results_cell_row Tryz.results10 _ _ w.heap.size _ _ _ _ rfl (blk7 _ _ _ _ _ _ _ hts.res) Tryz.underlying29 rfl (by kernel_rfl)) rfl ?_
                  refine tree_end HL.out hts hrb (leafP ⟨2, v, ⟨#[]⟩, 0, 0⟩) (HPT.out.trans ?_) HX.out.2.2.2.2.2.2.2.2.2.2.2.2 (leaf_own _ _ (num_fit HV.out.2.1)) List.nodup_nil (by intro b hb; cases hb) _ rfl _ _ _ _ _ _ _
                  rw [HV.out.2.2, ← HX.out.2.2.2.2.2.2.2.2.2.1]
                  rfl
                | false =>
                  go_wp2_with (go_at_call 11; refine (fail_any _ rb pos 2).mono ?_; unfold faultE; rintro e w7 ⟨rfl, rfl⟩)
                  rw [HPT.out, HV.out.2.2]
                  exact ⟨rfl, rfl, HS6.out.only⟩
              · have HV := Lib.hid (And.intro hno hn)
                clear hno hn
                refine (atoi_any N0 hN6 _ (HC.out.only HS4.out.only).err').mono ?_
                intro e w5 hq
                obtain ⟨⟨x0, T0, B0, rfl⟩, hb5⟩ := hq.no_ HV.out.1
                have hts := HS4.out.below hb5
                obtain ⟨j0, j1, j2, y1, y2⟩ := hts.rd.cells
                have HS5 := Lib.hid hts
                clear hb5 hq hts
                go_wp2_with fail
                go_big_quiet (fail)
                go_wp2_with (go_at_call 11; refine (fail_any _ rb pos 2).mono ?_; unfold faultE; rintro e w7 ⟨rfl, rfl⟩)
                rw [HPT.out, HV.out.2]
                exact ⟨rfl, rfl, (HS5.out.drew _).only⟩
/-- No tree is left. -/
theorem tree_full (rb : Nat) (s : ByteArray) (hs : s.size ≤ 60000) (f pos : Nat) (hat : pos ≤ s.size) (w : World) (hr : Rd w rb s pos (0 : Nat)) :
    Calls Tryz.prog 10 #[.pointer (some ⟨rb, 0, none⟩)] w (TreeQ rb s (pT Num (toN s) (f + 1) pos 0) w) := by
  have hP : pT Num (toN s) (f + 1) pos 0 = .bad pos 4 := by rw [pT, if_pos rfl]
  rw [hP]
  have hrb : rb < w.heap.size := Blk.lt hr
  have hne : ¬ rb = w.heap.size := by omega
  obtain ⟨h0, h1, h2, f1, f2⟩ := hr.cells
  have HR := Lib.hid hr
  clear hr hP
  go_enter Tryz.func10, Tryz.ntmps10
  go_wp2_with (go_at_call 11; refine (fail_any _ rb pos 4).mono ?_; unfold faultE; rintro e w7 ⟨rfl, rfl⟩)
  refine ⟨rfl, rfl, (Only.setCell (S := fun k => k = rb) (Only.refl _ w) (p := ⟨rb, 2, none⟩) rfl _).alloc _⟩
end Go.Proofs.YtpeckpiidgkgoaaGreatDoor
