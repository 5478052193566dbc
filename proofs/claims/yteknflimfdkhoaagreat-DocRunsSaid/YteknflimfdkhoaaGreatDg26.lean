/- slices.Delete of one ref: a contract. dag.Book.All: the walk. -/
import Derived.Test.YteknflimfdkhoaaGreatDg9
import Derived.Test.YteknflimfdkhoaaGreatDg25
import Derived.Test.YteknflimfdkhoaaGreatDg22
import Derived.Test.YteknflimfdkhoaaGreatDg19
import Derived.Test.YteknflimfdkhoaaGreatDg8
import Derived.Outline
namespace Go.Proofs.YteknflimfdkhoaaGreat
open Go.RowKit
set_option linter.unusedVariables false
set_option linter.unusedSimpArgs false
def DelRQ (E : TypeId) (sz : Nat) (w : World) (A : Option Addr) (n c i : Nat) (xs : List Value) (e : Ending) (w' : World) : Prop :=
  e = .returned (.slice A (n - 1) c) ∧ w'.ownsRow 0 E sz (.slice A (n - 1) c) (n - 1) (xs.take (i * sz) ++ xs.drop ((i + 1) * sz)) ∧ Only (· ∈ blkOf A) w w'


set_option maxRecDepth 100000 in
set_option maxHeartbeats 2000000 in
theorem deleteRef_any (A : Option Addr) (n c i : Nat) (xs : List Value) (w : World) (hown : w.ownsRow 0 33 2 (.slice A n c) n xs) (hn : n ≤ 1000) (hi : i < n) (h2 : ∀ u ∈ xs, u.oneCell' = true) :
    Calls Tryz.prog 44 #[.slice A n c, .int .i64 i, .int .i64 ((i : Int) + 1)] w (DelRQ 33 2 w A n c i xs) := by
  rcases hown.2 with ⟨hv, h0⟩ | ⟨g, cap, cur, hv, hb0, hg, hnc, hcm, hcs, htk⟩
  · omega
  injection hv with hA _ hc
  subst hA hc
  have hxl : xs.length = n * 2 := hown.1
  obtain ⟨inf, hi1, hz1, hs1, hb1⟩ := info_parts (P := Tryz.prog) (e := 33) infoRef
  have hg' : Blk w g 33 cur := hg
  have hnews : (xs.drop ((i + 1) * 2)).length = (n - (i + 1)) * 2 := by rw [List.length_drop, hxl]; omega
  have hsrcv : ∀ j u, (xs.drop ((i + 1) * 2))[j]? = some u → w.drew.cell? ⟨g, (i + 1) * 2 + j, none⟩ = some u := by
    intro j u hu
    rw [List.getElem?_drop, ← htk, List.getElem?_take] at hu
    split at hu
    · rw [Array.getElem?_toList] at hu
      exact (hg'.cell _).trans hu
    · cases hu
  obtain ⟨n1, hn1⟩ : ∃ n1, n1 = n - 1 := ⟨_, rfl⟩
  obtain ⟨S, hS, hsrc⟩ : ∃ S : Addr, (if c = i + 1 then (some ⟨g, 0, none⟩ : Option Addr) else some ⟨g, (i + 1) * 2, none⟩) = some S ∧ Hid (∀ j u, (xs.drop ((i + 1) * 2))[j]? = some u → w.drew.cell? (S.add j) = some u) := by
    by_cases h : c = i + 1
    · refine ⟨⟨g, 0, none⟩, by rw [if_pos h], fun j u hu => ?_⟩
      have h0 : n - (i + 1) = 0 := by omega
      rw [h0, Nat.zero_mul] at hnews
      rw [List.length_eq_zero_iff.1 hnews] at hu
      simp at hu
    · exact ⟨⟨g, (i + 1) * 2, none⟩, by rw [if_neg h], fun j u hu => by rw [Addr.add_lit]; have := hsrcv j u hu; simpa only [Nat.mul_one] using this⟩
  obtain ⟨W1, hW1⟩ : ∃ W1, W1 = w.drew.setCells g (0 + i * 2) (xs.drop ((i + 1) * 2)) := ⟨_, rfl⟩
  obtain ⟨hB1, hO1⟩ := Blk.setCells_ (xs.drop ((i + 1) * 2)) w.drew (0 + i * 2) cur hg'
  rw [← hW1] at hB1 hO1
  have s1 := Lib.hid hnews
  have s2 : Hid (∀ u ∈ xs.drop ((i + 1) * 2), u.oneCell' = true) := Lib.hid (fun u hu => h2 u (List.mem_of_mem_drop hu))
  have s3 : Hid (∀ t, t < (xs.drop ((i + 1) * 2)).length → (w.drew.cell? ⟨g, 0 + i * 2 + t, none⟩).isSome = true ∧ w.drew.frozen? ⟨g, 0 + i * 2 + t, none⟩ = false) := Lib.hid (fun t ht => by
    rw [hnews] at ht
    refine ⟨?_, (show Blk w.drew g _ cur from hg').frozen _⟩
    show (w.cell? _).isSome = true
    rw [hg'.cell, Array.getElem?_eq_getElem (by omega)]
    rfl)
  have hzs : (.agg #[.int .i64 0, .int .i64 0] : Value).cells.size = 2 := by decide
  obtain ⟨W2, hW2⟩ : ∃ W2, W2 = W1.setCells g (n1 * 2) (.agg #[.int .i64 0, .int .i64 0] : Value).cells.toList := ⟨_, rfl⟩
  have hcl : ∀ ty, (Builtin.clear_ #[53] ty #[.slice (some ⟨g, n1 * 2, none⟩) 1 (c - n1)]).run Tryz.prog W1 = .ok (.tuple #[]) W2 := fun ty => by
    rw [hW2]
    exact run_clear_one W1 _ _ ty _ Tryz.underlying53 (by intro w; kernel_rfl) g (n1 * 2) _ (by decide) (fun j hj => by
      rw [hzs] at hj
      rw [hB1.cell, Array.getElem?_eq_getElem (by rw [setL_size]; omega)]
      rfl) (fun j _ => hB1.frozen _)
  obtain ⟨hB2, hO2⟩ := Blk.setCells_ (.agg #[.int .i64 0, .int .i64 0] : Value).cells.toList W1 (n1 * 2) _ hB1
  have HFIN := Lib.hid (show DelRQ 33 2 w (some ⟨g, 0, none⟩) n c i xs (.returned (.slice (some ⟨g, 0, none⟩) (n - 1) c)) W2 from by
    rw [hW2]
    subst hn1
    have hd := del_row (zs := (.agg #[.int .i64 0, .int .i64 0] : Value).cells.toList) hcs htk hnc hi (by simpa using hzs) (by decide)
    try rw [Nat.mul_one (n - 1)] at hd
    have hone : Only (· ∈ blkOf (some ⟨g, 0, none⟩)) w W1 := ((Only.refl (· = g) w).drew.trans hO1).mono (fun k _ h => by subst h; simp [blkOf])
    refine ⟨rfl, ⟨?_, .inr ⟨g, c, _, rfl, hb0, hB2, by omega, hcm, ?_, ?_⟩⟩, hone.trans (hO2.mono (fun k _ h => by subst h; simp [blkOf]))⟩
    · rw [List.length_append, List.length_take, List.length_drop, hxl]; omega
    · rw [setL_size, setL_size]; exact hcs
    · rw [Nat.zero_add]; simpa only [Nat.mul_one] using hd)
  have hW := Lib.hid hW1
  have hni : (n : Int) ≤ 1000 := by omega
  have hii : (i : Int) + 1 ≤ (n : Int) := by omega
  have HNN := Lib.hid (show i + (n - (i + 1)) = n1 by omega)
  have HN1 := Lib.hid hn1
  have hcn : (c : Int) ≤ 9223372036854775807 := by unfold maxLen at hcm; omega
  have hn1c : n1 < n := by omega
  have hs : ∀ w, (Go.sizeOf 33).run Tryz.prog w = .ok 2 w := by intro w; kernel_rfl
  have he : Tryz.prog.elem 53 = 33 := by simp [Program.elem, Tryz.underlying53]
  have hsl1 : ∀ W, (Instr.slice 53 (.slice (some ⟨g, 0, none⟩) n c) none (some (.int .i64 (i : Int))) none).run Tryz.prog W = .ok (.slice (some ⟨g, 0, none⟩) i c) W := fun W => by
    rw [run_slice_h W 53 _ n c (by rw [he]; exact Tryz.underlying53) .i64 i (by omega) (by omega), he, hs]
    simp [Result.andThen, sliced, Addr.add]
  have hsl2 : ∀ W, (Instr.slice 53 (.slice (some ⟨g, 0, none⟩) n c) (some (.int .i64 ((i : Int) + 1))) none none).run Tryz.prog W = .ok (.slice (some S) (n - (i + 1)) (c - (i + 1))) W := fun W => by
    have ht : ((i : Int) + 1).toNat = i + 1 := by omega
    rw [run_slice_l W 53 _ n c (by rw [he]; exact Tryz.underlying53) .i64 ((i : Int) + 1) (by omega) (by omega), he, hs]
    simp only [Result.andThen, sliced, ht]
    rw [← hS]
    simp [Addr.add_lit]
  have hsl3 : ∀ W, (Instr.slice 53 (.slice (some ⟨g, 0, none⟩) n1 c) (some (.int .i64 (n1 : Int))) (some (.int .i64 (n : Int))) none).run Tryz.prog W = .ok (.slice (some ⟨g, n1 * 2, none⟩) 1 (c - n1)) W := fun W => by
    rw [run_slice_lh W 53 _ n1 c (by rw [he]; exact Tryz.underlying53) .i64 .i64 n1 n (by omega) (by omega) (by omega), he, hs]
    simp only [Result.andThen, sliced, Int.toNat_natCast]
    rw [if_neg (by omega), show n - n1 = 1 by omega]
    simp [Addr.add_lit]
  have hne : ((i : Int) == (i : Int) + 1) = false := by
    simp only [beq_eq_false_iff_ne]
    omega
  have HCL := Lib.hid hcl
  clear hcl hW2 hW1 hB1 hO1 hB2 hO2 hg hg' hnews hsrcv hxl htk hcs hown hzs hb0 hS hn1 hs he
  go_enter Tryz.func44, Tryz.ntmps44
  go_wp2_with fail
  go_region_law (refine step_append_room rfl (.tmp 22) (.tmp 25) 53 rfl 33 inf 2 Tryz.underlying53 hi1 hs1 g 0 i c (by simp [Act.eval, Act.put]) S (n - (i + 1)) (c - (i + 1)) (xs.drop ((i + 1) * 2)) (by simp [Act.eval, Act.put]) s1.out hsrc.out s2.out (by omega) s3.out ?_; rw [← hW.out, HNN.out])
  all_goals go_wp2_with (first | ((with_reducible refine wpList_clear_run (o := ⟨none, _, _, _, _, _⟩) _ ?g1 (.tmp 31) 53 ?g2 (.slice (some ⟨g, n1 * 2, none⟩) 1 (c - n1)) ?g3 (HCL.out _) ?_); (case g1 => rfl); (case g2 => rfl); (case g3 => rfl)) | fail)
  all_goals
    go_ret
    rw [← HN1.out] at HFIN
    exact HFIN.out
end Go.Proofs.YteknflimfdkhoaaGreat
namespace Go.Proofs.YteknflimfdkhoaaGreat
open Go.RowKit Go.Maps
set_option linter.unusedVariables false
set_option linter.unusedSimpArgs false

theorem infoCh : (Tryz.prog.info? 65).map (fun i => (i.zero, i.size, i.bytes)) = some (some zCh, 5, 72) := by kernel_rfl
theorem own_base0 {w : World} {B e sz n : Nat} {v : Value} {xs : List Value} (h : w.ownsRow B e sz v n xs) : w.ownsRow 0 e sz v n xs := by
  obtain ⟨h1, h2⟩ := h
  refine ⟨h1, ?_⟩
  rcases h2 with h2 | ⟨g, cap, cur, hv, hb, hr⟩
  · exact .inl h2
  · exact .inr ⟨g, cap, cur, hv, Nat.zero_le _, hr⟩
theorem own_low {w : World} {B e sz n c : Nat} {A : Option Addr} {xs : List Value} (h : w.ownsRow B e sz (.slice A n c) n xs) : ∀ b ∈ blkOf A, B ≤ b := by
  rcases h.2 with ⟨hv, _⟩ | ⟨g, cap, cur, hv, hb, _⟩
  · injection hv with hA _ _
    subst hA
    intro b hb
    cases hb
  · injection hv with hA _ _
    subst hA
    intro b hb'
    simp [blkOf] at hb'
    omega
/-- A change of All's own: it lies between lo and hi. -/
def InR (lo hi : Nat) (W : World) (x : PCh) : Prop := ∀ W' : World, (∀ b, lo ≤ b → b < hi → W'.heap[b]? = W.heap[b]?) → InC W' x
theorem InR.inc {lo hi : Nat} {W : World} {x : PCh} (h : InR lo hi W x) : InC W x := h W (fun _ _ _ => rfl)
theorem InR.only {lo hi : Nat} {W W' : World} {x : PCh} {S : Nat → Prop} (h : InR lo hi W x) (hh : hi ≤ W.heap.size) (ho : Only S W W') (hs : ∀ b, lo ≤ b → b < hi → ¬ S b) : InR lo hi W' x :=
  fun W2 h2 => h W2 (fun b h3 h4 => (h2 b h3 h4).trans (ho.block b (Nat.lt_of_lt_of_le h4 hh) (hs b h3 h4)))
/-- What holds of a change of All's row. -/
def Keep (W : World) (low : Nat) (B : Option Addr) (x : PCh) : Prop := ∃ lo hi, InR lo hi W x ∧ low ≤ lo ∧ hi ≤ W.heap.size ∧ ∀ b ∈ blkOf B, b < lo ∨ hi ≤ b
theorem Keep.only {W W' : World} {low : Nat} {B : Option Addr} {x : PCh} {S : Nat → Prop} (h : Keep W low B x) (ho : Only S W W') (hs : ∀ b, S b → b < low ∨ b ∈ blkOf B) : Keep W' low B x := by
  obtain ⟨lo, hi, h1, h2, h3, h4⟩ := h
  refine ⟨lo, hi, h1.only h3 ho (fun b b1 b2 hb => ?_), h2, Nat.le_trans h3 ho.size, h4⟩
  rcases hs b hb with h5 | h5
  · omega
  · rcases h4 b h5 with h6 | h6 <;> omega
theorem refs_take : ∀ (l : List (Int × Int)) (i : Nat), refs (l.take i) = (refs l).take (i * 2)
  | [], i => by simp [refs]
  | x :: l, 0 => by simp [refs]
  | x :: l, i + 1 => by
    have := refs_take l i
    simp only [refs, List.take_succ_cons, List.flatMap_cons] at *
    rw [this, show (i + 1) * 2 = i * 2 + 2 by omega]
    rfl
theorem refs_drop : ∀ (l : List (Int × Int)) (i : Nat), refs (l.drop i) = (refs l).drop (i * 2)
  | [], i => by simp [refs]
  | x :: l, 0 => by simp [refs]
  | x :: l, i + 1 => by
    have := refs_drop l i
    simp only [refs, List.drop_succ_cons, List.flatMap_cons] at *
    rw [this, show (i + 1) * 2 = i * 2 + 2 by omega]
    rfl
theorem own_mem {A : Option Addr} {n c k : Nat} (h : some k = (Value.slice A n c).ownBlock) : k ∈ blkOf A := by
  cases A with
  | none => cases h
  | some a =>
    have : k = a.block := Option.some.inj h
    simp [blkOf, this]
def lenOfV : Value → Nat | .slice _ n _ => n | _ => 0
/-- What holds at each round. -/
structure AllM (w : World) (L : List PCh) (keys : List (Int × Int)) (bk pb dm db low : Nat) (A : Option Addr) (cA : Nat) (al : List PCh) (left : List (Int × Int)) (Dd : DataW Value) (B : Option Addr) (cB : Nat) (W : World) : Prop where
  pl : AllP L keys al left
  bel : Below w.heap.size w W
  pbx : Blk W pb 54 #[.pointer (some ⟨bk, 0, none⟩)]
  dbx : Blk W db 92 #[.map (some dm)]
  set : SetM W dm Dd (al.map PCh.ref).reverse
  lrow : W.ownsRow 0 33 2 (.slice A left.length cA) left.length (refs left)
  arow : W.ownsRow 0 65 5 (.slice B al.length cB) al.length (chsCells al)
  keep : ∀ x ∈ al, Keep W low B x
  lo : low ≤ W.heap.size
  dsz : Maps.size Dd ≤ al.length
  bne : ∀ b ∈ blkOf B, b ∉ blkOf A ∧ w.heap.size ≤ b ∧ b ≠ dm ∧ b ≠ pb ∧ b ≠ db
def AllQ (w : World) (L : List PCh) (e : Ending) (w' : World) : Prop :=
  ∃ (al : List PCh) (B : Option Addr) (cB : Nat), e = .returned (.slice B al.length cB) ∧ AllOf L al ∧ SlAt w' B (chsCells al) ∧ (∀ x ∈ al, InC w' x) ∧ Below w.heap.size w w' ∧ al.length ≤ 120

/-- What All gives, and where it lies: in blocks made by the call. -/
def AllX (w : World) (L : List PCh) (e : Ending) (w' : World) : Prop :=
  ∃ (al : List PCh) (B : Option Addr) (cB : Nat), e = .returned (.slice B al.length cB) ∧ AllOf L al ∧ Below w.heap.size w w' ∧ al.length ≤ 120 ∧ ∀ W' : World, (∀ b, w.heap.size ≤ b → b < w'.heap.size → W'.heap[b]? = w'.heap[b]?) → SlAt W' B (chsCells al) ∧ ∀ x ∈ al, InC W' x

theorem all_push {w3 w6 : World} {B : Option Addr} {cB : Nat} {al : List PCh} {x : PCh} (hb6 : Below w3.heap.size w3 w6) (hnew : ∀ W' : World, (∀ b, w3.heap.size ≤ b → b < w6.heap.size → W'.heap[b]? = w6.heap[b]?) → InC W' x)
    (hrow : w3.ownsRow 0 65 5 (.slice B al.length cB) al.length (chsCells al)) (hall : al.length ≤ 120) :
    ∃ (B' : Option Addr) (c' : Nat) (w9 : World), (∀ ty, (Builtin.append_ #[60, 60] ty #[.slice B al.length cB, .slice (some ⟨w6.heap.size, 0, none⟩) 1 1]).run Tryz.prog (w6.alloc (.cells #[.int .i64 x.actor, .int .i64 x.seq, .int .i64 x.start, .slice x.dA x.deps.length x.dc, .slice x.oA x.ops.length x.oc] 65)) = .ok (.slice B' (al.length + 1) c') w9) ∧
      Only (· ∈ blkOf B) w3 w9 ∧ w9.ownsRow 0 65 5 (.slice B' (al.length + 1) c') (al.length + 1) (chsCells (al ++ [x])) ∧ Keep w9 w3.heap.size B' x ∧ (B' = B ∨ ∃ g, B' = some ⟨g, 0, none⟩ ∧ w3.heap.size ≤ g) := by
  have hBL : ∀ b ∈ blkOf B, b < w3.heap.size := own_ltD hrow
  have ho6 : Only (· ∈ blkOf B) w3 w6 := Only.of_below hb6
  have ho7 : Only (· ∈ blkOf B) w3 (w6.alloc (.cells #[.int .i64 x.actor, .int .i64 x.seq, .int .i64 x.start, .slice x.dA x.deps.length x.dc, .slice x.oA x.ops.length x.oc] 65)) := ho6.alloc _
  have hrow7 := own_keepD hrow (w' := w6.alloc (.cells #[.int .i64 x.actor, .int .i64 x.seq, .int .i64 x.start, .slice x.dA x.deps.length x.dc, .slice x.oA x.ops.length x.oc] 65)) (fun b hb hl => (hb6.trans ((Below.refl _ _).alloc hb6.size _)).block b hl)
  have hcell : SlAt (w6.alloc (.cells #[.int .i64 x.actor, .int .i64 x.seq, .int .i64 x.start, .slice x.dA x.deps.length x.dc, .slice x.oA x.ops.length x.oc] 65)) (some ⟨w6.heap.size, 0, none⟩) x.cells := .inr ⟨_, 0, rfl, fun j u hu => by
    rw [Nat.zero_add, (Blk.new w6 _ _).cell]
    simpa [PCh.cells] using hu⟩
  obtain ⟨B', c', w9, hrun, hown9, hg9, hB9⟩ := run_append_sl (P := Tryz.prog) (w6.alloc (.cells #[.int .i64 x.actor, .int .i64 x.seq, .int .i64 x.start, .slice x.dA x.deps.length x.dc, .slice x.oA x.ops.length x.oc] 65)) 60 0 65 Tryz.underlying60 infoCh rfl (by decide) B al.length cB (chsCells al) hrow7 (some ⟨w6.heap.size, 0, none⟩) 1 1 x.cells rfl hcell (fun u hu => chsCells_one [x] u (by simpa [chsCells] using hu)) (by unfold maxLen; omega) (by omega)
  have ho79 : Only (· ∈ blkOf B) (w6.alloc (.cells #[.int .i64 x.actor, .int .i64 x.seq, .int .i64 x.start, .slice x.dA x.deps.length x.dc, .slice x.oA x.ops.length x.oc] 65)) w9 := ⟨hg9.os, hg9.tape, hg9.output, hg9.size, fun k hk hn => hg9.block k hk (fun e => hn (own_mem e))⟩
  refine ⟨B', c', w9, fun _ => hrun, ho7.trans ho79, ?_, ?_, ?_⟩
  · rw [chsCells_append]; simpa [chsCells] using hown9
  · have hin : InR w3.heap.size w6.heap.size w6 x := fun W' h => hnew W' h
    have h69 : Only (· ∈ blkOf B) w6 w9 := ((Only.refl _ _).alloc _).trans ho79
    refine ⟨w3.heap.size, w6.heap.size, hin.only (Nat.le_refl _) h69 (fun b h1 h2 hb => by have := hBL b hb; omega), Nat.le_refl _, h69.size, fun b hb => ?_⟩
    rcases hB9 with ⟨rfl, _⟩ | rfl
    · exact .inl (hBL b hb)
    · simp [blkOf] at hb
      right
      omega
  · rcases hB9 with ⟨rfl, _⟩ | rfl
    · exact .inl rfl
    · exact .inr ⟨_, rfl, by simp; have := hb6.size; omega⟩

set_option maxRecDepth 100000 in
set_option maxHeartbeats 4000000 in
theorem all_is (bk h wt bh : Nat) (Dh Dw Db : DataW Value) (L : List PCh) (w : World) (H : Dag w bk h wt bh Dh Dw Db L) :
    Calls Tryz.prog 17 #[.pointer (some ⟨bk, 0, none⟩)] w (AllX w L) := by
  have hmm := @run_makeMap Tryz.prog
  obtain ⟨W2, hW2⟩ : ∃ W2, W2 = ((w.alloc (.cells #[.pointer (some ⟨bk, 0, none⟩)] 54)).alloc (.map #[] 0)).alloc (.cells #[.map (some (w.heap.size + 1))] 92) := ⟨_, rfl⟩
  have hb2 : Below w.heap.size w W2 := by rw [hW2]; exact (((Below.refl _ _).alloc (Nat.le_refl _) _).alloc (by simp) _).alloc (by simp; omega) _
  obtain ⟨dm, hdm⟩ : ∃ dm, dm = w.heap.size + 1 := ⟨_, rfl⟩
  have hp2 : Blk W2 w.heap.size 54 #[.pointer (some ⟨bk, 0, none⟩)] := by rw [hW2]; exact ((Blk.new w _ _).alloc _).alloc _
  have hd2 : Blk W2 (dm + 1) 92 #[.map (some dm)] := by rw [hW2, hdm]; exact Blk.newer _ _ _ (by simp)
  have hm2 : SetM W2 dm (.map []) [] := by
    refine ⟨?_, fun r hr => by rw [mget_empty]; rfl⟩
    have := (World.ownsMap_made (w.alloc (.cells #[.pointer (some ⟨bk, 0, none⟩)] 54)) Tryz.prog 33 anyElem).alloc (.cells #[.map (some (w.heap.size + 1))] 92)
    rw [← hW2, show (w.alloc (.cells #[.pointer (some ⟨bk, 0, none⟩)] 54)).heap.size = dm by rw [hdm]; simp] at this
    exact OM.of this
  have hs2 : W2.heap.size = dm + 2 := by rw [hW2, hdm]; simp
  have H2 := Lib.hid (And.intro hb2 (And.intro hp2 (And.intro hd2 (And.intro hm2 (And.intro H (And.intro hW2 (And.intro hdm hs2)))))))
  have p0 : W2.cell? ⟨w.heap.size, 0, none⟩ = some (.pointer (some ⟨bk, 0, none⟩)) := hp2.cell 0
  have p1 : W2.cell? ⟨bk, 0, none⟩ = some (.map (some h)) := (H.below hb2).bkm.blk.cell 0
  have HO := Lib.hid (show W2.ownsMap Tryz.prog 33 anyElem h (Maps.size Dh) Dh from (H.below hb2).bkm.has)
  have hsz : Maps.size Dh ≤ 120 := by have := H.sz; omega
  clear hb2 hp2 hd2 hm2 H hW2 hdm hs2
  go_enter Tryz.func17, Tryz.ntmps17
  go_upto_region 3 with (fail)
  rw [← H2.out.2.2.2.2.2.1]
  go_wp2_with (go_at_call 37; (with_reducible refine (rising_any h _ Dh _ HO.out (by omega)).mono ?_); rintro e w1 ⟨l, A, cA, hk, hl, rfl, hown, hb1⟩; have HK := Lib.hid (And.intro hk (And.intro hl (And.intro hown hb1))); clear hk hown hb1 hl)
  clear p0 p1
  have hll : l.length ≤ 120 := by have := HK.out.2.1; omega
  rw [← H2.out.2.2.2.2.2.2.1]
  have HM0 := Lib.hid (show AllM w L (sortR l) bk w.heap.size dm (dm + 1) w1.heap.size A cA [] (sortR l) (.map []) none 0 w1 from by
    obtain ⟨hb2, hp2, hd2, hm2, H, _, hdm, hs2⟩ := H2.out
    obtain ⟨hk, hl, hown, hb1⟩ := HK.out
    refine ⟨AllP.start _ _, hb2.trans (hb1.mono hb2.size), hp2.below hb1 hp2.lt, hd2.below hb1 hd2.lt, hm2.below hb1, ?_, ⟨rfl, .inl ⟨rfl, rfl⟩⟩, fun x hx => (by cases hx), Nat.le_refl _, by simp [Maps.size], fun b hb => (by cases hb)⟩
    rw [sortR_len]
    exact own_base0 hown)
  have HA := Lib.hid (show ∀ b ∈ blkOf A, dm + 2 ≤ b ∧ b < w1.heap.size from by
    intro b hb
    have h1 := own_low HK.out.2.2.1 b hb
    rw [H2.out.2.2.2.2.2.2.2] at h1
    exact ⟨h1, own_ltD (own_base0 HK.out.2.2.1) b hb⟩)
  go_loopw [3, 5, 6] (fun ov lv _ wr => ∃ al left Dd B cB, ov = .slice B al.length cB ∧ lv = .slice A left.length cA ∧ AllM w L (sortR l) bk w.heap.size dm (dm + 1) w1.heap.size A cA al left Dd B cB wr) (fun _ lv _ _ => lenOfV lv)
  case atStart => exact ⟨[], sortR l, .map [], none, 0, rfl, by rw [sortR_len], HM0.out⟩
  case round =>
    obtain ⟨al, left, Dd, B, cB, rfl, rfl, hM⟩ := hrel
    have HM := Lib.hid hM
    clear hM HM0
    by_cases hlt : 0 < left.length
    · have hne : left ≠ [] := fun e => by rw [e] at hlt; simp at hlt
      have hD : Dag wr bk h wt bh Dh Dw Db L := H2.out.2.2.2.2.1.below HM.out.bel
      obtain ⟨i, y, hf, hix, hi, hy, hfy, hyr, hat, hdy⟩ := HM.out.pl.idx hD.ndp hD.shut ((sortR_perm l).trans (HK.out.1.perm hD)) hne
      obtain ⟨r, hr⟩ : ∃ r, r = y.ref := ⟨_, rfl⟩
      have hri : I2 r := by rw [hr]; exact (chE_good (hD.good y hy).2).i2
      have hl120 : left.length + al.length = l.length := by
        have := HM.out.pl.perm.length_eq
        simp [sortR_len] at this
        omega
      have hall : al.length ≤ 120 := by omega
      have hi120 : i < 120 := by omega
      have HP := Lib.hid (And.intro hf (And.intro hix (And.intro hy (And.intro hfy (And.intro hyr (And.intro hat (And.intro hdy (And.intro hr hl120))))))))
      have HC := Lib.hid (idx_all (.pointer (some ⟨w.heap.size, 0, none⟩)) (.pointer (some ⟨dm + 1, 0, none⟩)) (okIn L (al.map PCh.ref).reverse) left A cA wr (by unfold maxLen; omega) (SlAt.of_owns HM.out.lrow) (fun s hs W hW => all1_any w.heap.size (dm + 1) dm bk h wt bh Dd Dh Dw Db L _ s W (HM.out.pbx.below hW HM.out.pbx.lt) (HM.out.dbx.below hW HM.out.dbx.lt) (HM.out.set.below hW) (hD.below hW) (by
        have hk2 := (HM.out.pl.perm.trans (sortR_perm l)).mem_iff.1 (List.mem_append.2 (.inr hs))
        exact HK.out.1.i2 _ hk2)))
      rw [hix] at HC
      have HD := Lib.hid hD
      have hln : left.length ≤ 120 := by omega
      clear hf hix hy hfy hyr hat hdy hr hl120 hD hne
      go_upto_region 6 with (go_at_call 39; (with_reducible refine HC.out.mono ?_); rintro e w3 ⟨rfl, hb3⟩)
      have HB3 := Lib.hid hb3
      clear hb3
      have hA3 : SlAt w3 A (refs left) := (SlAt.of_owns HM.out.lrow).below HB3.out
      obtain ⟨ab, ao, d, ha, hd, hx1, hx2⟩ := hA3.ref hi
      obtain rfl : d = r := by
        have h1 := HP.out.2.2.2.2.2.1
        rw [hd] at h1
        rw [HP.out.2.2.2.2.2.2.2.1]
        exact Option.some.inj h1
      have HAA := Lib.hid ha
      have hBlk : ∀ b ∈ blkOf B, b < w3.heap.size := fun b hb => Nat.lt_of_lt_of_le (own_ltD HM.out.arow b hb) HB3.out.size
      have HBL := Lib.hid hBlk
      have hD3 : Dag w3 bk h wt bh Dh Dw Db L := HD.out.below HB3.out
      have hS : ∀ W, Only (· ∈ blkOf B) w3 W → W.cell? ⟨w.heap.size, 0, none⟩ = some (.pointer (some ⟨bk, 0, none⟩)) ∧ W.cell? ⟨bk, 0, none⟩ = some (.map (some h)) ∧ W.cell? ⟨ab, ao + i * 2, none⟩ = some (.int .i64 d.1) ∧ W.cell? ⟨ab, ao + i * 2 + 1, none⟩ = some (.int .i64 d.2) ∧ (Instr.lookup 93 (.map (some h)) (.agg #[.int .i64 d.1, .int .i64 d.2]) false).run Tryz.prog W = .ok (.agg #[.int .i64 y.actor, .int .i64 y.seq, .int .i64 y.start, .slice y.dA y.deps.length y.dc, .slice y.oA y.ops.length y.oc]) W := by
        intro W hW
        have q1 : Blk W w.heap.size _ _ := (HM.out.pbx.below HB3.out HM.out.pbx.lt).only hW (fun e => (HM.out.bne _ e).2.2.2.1 rfl)
        have hw0 : ∀ b ∈ blkOf B, w.heap.size ≤ b := fun b hb => (HM.out.bne b hb).2.1
        have q2 : Blk W bk _ _ := hD3.bkm.blk.only hW (fun e => by have h1 := hw0 _ e; have h2 := H2.out.2.2.2.2.1.bkm.blk.lt; omega)
        have hA4 := hA3.only hW (fun b off s e hb => by
          have h1 := (HM.out.bne b hb).1
          rw [e] at h1
          exact h1 (by simp [blkOf]))
        obtain ⟨ab2, ao2, d2, ha2, hd2, hy1, hy2⟩ := hA4.ref hi
        rw [ha] at ha2
        have e1 : ab = ab2 ∧ ao = ao2 := by
          have := Option.some.inj ha2
          injection this with e1 e2 e3
          exact ⟨e1, e2⟩
        obtain ⟨rfl, rfl⟩ := e1
        rw [hd] at hd2
        obtain rfl := Option.some.inj hd2
        refine ⟨q1.cell 0, q2.cell 0, hy1, hy2, ?_⟩
        have := run_look pairRef (w := W) (hD3.bkm.has.only hW (fun e => by have h1 := hw0 _ e; have h2 := H2.out.2.2.2.2.1.bkm.has.lt; omega)) Tryz.underlying93 (zeroCh _) hri
        rw [show (mget Dh d).getD zCh = y.value by
          rw [H2.out.2.2.2.2.1.has d hri, HP.out.2.2.2.2.2.2.2.1, HP.out.2.2.2.2.1, HP.out.2.2.2.1]
          rfl] at this
        exact this
      have HKS := Lib.hid hS
      have HRI := Lib.hid (And.intro hri hd)
      have HY := Lib.hid (show InC w3 y ∧ GoodC y from ⟨(hD3.good y HP.out.2.2.1).1, chE_good (hD3.good y HP.out.2.2.1).2⟩)
      obtain ⟨p0, p1, p2, p3, p4⟩ := hS w3 (Only.refl _ _)
      have HR3 := Lib.hid (own_keepD HM.out.arow (w' := w3) (fun b hb hl => HB3.out.block b hl))
      clear hA3 hd hx1 hx2 hD3 hS hBlk hri
      rw [ha]
      clear ha HC
      go_cut [3] from 19 to 31 (fun s3 wx => ∃ (x : PCh) (B' : Option Addr) (cB' : Nat), s3 = .slice B' (al.length + 1) cB' ∧ x.ref = y.ref ∧ x.ch = y.ch ∧ Only (· ∈ blkOf B) w3 wx ∧ wx.ownsRow 0 65 5 (.slice B' (al.length + 1) cB') (al.length + 1) (chsCells (al ++ [x])) ∧ Keep wx w3.heap.size B' x ∧ (B' = B ∨ ∃ g, B' = some ⟨g, 0, none⟩ ∧ w3.heap.size ≤ g))
      case first =>
        go_region_held3 (fun w' => w'.cell? ⟨w.heap.size, 0, none⟩ = some (.pointer (some ⟨bk, 0, none⟩)) ∧ w'.cell? ⟨bk, 0, none⟩ = some (.map (some h)) ∧ w'.cell? ⟨ab, ao + i * 2, none⟩ = some (.int .i64 d.1) ∧ w'.cell? ⟨ab, ao + i * 2 + 1, none⟩ = some (.int .i64 d.2) ∧ (Instr.lookup 93 (.map (some h)) (.agg #[.int .i64 d.1, .int .i64 d.2]) false).run Tryz.prog w' = .ok (.agg #[.int .i64 y.actor, .int .i64 y.seq, .int .i64 y.start, .slice y.dA y.deps.length y.dc, .slice y.oA y.ops.length y.oc]) w') (first
          | (with_reducible exact HKS.out _ (Only.refl _ w3).drew)
          | (with_reducible exact HKS.out _ ho6)
          | (with_reducible exact HKS.out _ ho7)
          | (with_reducible exact HKS.out _ ho9)
          | go_keep) (first
          | (refine step_append_run (o := ⟨some 31, _, _, _, _, _⟩) rfl _ _ _ _ rfl _ _ rfl rfl (HR1.out _) ?_)
          | (go_simp
             (with_reducible refine (cloneChange_any y _ (HY.out.1.below (Below.refl _ _).drew) (by have := HY.out.2.deps; omega) (by have := HY.out.2.ops; omega) (fun o ho => by have := HY.out.2.preds o ho; omega)).mono ?_)
             rintro e w6 ⟨x, rfl, hx1, hx2, hx3, hb5, hnew⟩
             have hb6 : Below w3.heap.size w3 w6 := (Below.refl w3.heap.size w3).drew.trans hb5
             have ho6 : Only (· ∈ blkOf B) w3 w6 := Only.of_below hb6
             have ho7 : Only (· ∈ blkOf B) w3 (w6.alloc (.cells #[.int .i64 x.actor, .int .i64 x.seq, .int .i64 x.start, .slice x.dA x.deps.length x.dc, .slice x.oA x.ops.length x.oc] 65)) := ho6.alloc _
             obtain ⟨B', c', w9, hrun2, ho9, hF⟩ := all_push hb6 hnew HR3.out hall
             have HR1 := Lib.hid hrun2
             have HF := Lib.hid (And.intro hx2 (And.intro hx1 (And.intro ho9 hF)))
             clear hx1 hx2 hx3 hb5 hnew hrun2 hF))
        all_goals
          go_wp2_with fail
          go_meet
          exact ⟨x, B', c', rfl, HF.out.1, HF.out.2.1, HF.out.2.2.1, HF.out.2.2.2.1, HF.out.2.2.2.2.1, HF.out.2.2.2.2.2⟩
      case rest =>
        obtain ⟨x, B', cB', rfl, hxr, hxc, ho4, hrow4, hkx, hB4⟩ := hcut
        obtain ⟨_, _, q2, q3, _⟩ := HKS.out wc ho4
        have hw0 : ∀ b ∈ blkOf B, w.heap.size ≤ b := fun b hb => (HM.out.bne b hb).2.1
        have hdb4 : Blk wc (dm + 1) 92 #[.map (some dm)] := (HM.out.dbx.below HB3.out HM.out.dbx.lt).only ho4 (fun e => (HM.out.bne _ e).2.2.2.2 rfl)
        have hset4 : SetM wc dm Dd (al.map PCh.ref).reverse := (HM.out.set.below HB3.out).only ho4 (fun e => (HM.out.bne _ e).2.2.1 rfl)
        have hl4 : wc.ownsRow 0 33 2 (.slice A left.length cA) left.length (refs left) := own_keepD HM.out.lrow (fun b hb hl => by
          rw [ho4.block b (Nat.lt_of_lt_of_le hl HB3.out.size) (fun e => (HM.out.bne b e).1 hb)]
          exact HB3.out.block b hl)
        have H4 := Lib.hid (And.intro hxr (And.intro hxc (And.intro ho4 (And.intro hrow4 (And.intro hkx (And.intro hB4 (And.intro hset4 (And.intro hl4 hdb4))))))))
        have q1 : wc.cell? ⟨dm + 1, 0, none⟩ = some (.map (some dm)) := hdb4.cell 0
        have hri := HRI.out.1
        clear hxr hxc ho4 hrow4 hkx hB4 hw0 hdb4 hset4 hl4 p0 p1 p2 p3 p4
        go_wp2_with fail
        go_still_tail 5, (by kernel_rfl)
        change wpList _ _ _ _ _ wc.drew
        refine wpList_upd _ rfl _ _ _ 92 rfl 33 4 pairRef Tryz.underlying92 dm _ Dd rfl (show wc.drew.ownsMap Tryz.prog 33 anyElem dm (Maps.size Dd) Dd from H4.out.2.2.2.2.2.2.1.own) (by have := HM.out.dsz; unfold maxLen; omega) d rfl hri (.bool true) rfl ?_
        intro W5 hm5 ho5 hs5
        have hl5 : W5.ownsRow 0 33 2 (.slice (some ⟨ab, ao, none⟩) left.length cA) left.length (refs left) := by
          rw [← HAA.out]
          exact own_keepD (show wc.drew.ownsRow 0 _ 2 _ _ _ from H4.out.2.2.2.2.2.2.2.1) (fun b hb hl => ho5.block b hl (fun e => by have := (HA.out b hb).1; omega))
        have H5 := Lib.hid (And.intro hm5 (And.intro ho5 hl5))
        have hi2 : (i : Int) ≤ 120 := by omega
        clear hm5 ho5 hl5 q1 q2 q3
        go_wp2_with (go_at_call 44; (with_reducible refine (deleteRef_any (some ⟨ab, ao, none⟩) left.length cA i (refs left) _ H5.out.2.2 (by omega) hi (refs_one _)).mono ?_); rintro e W6 ⟨rfl, hown6, ho6⟩)
        have HE6 : ∃ al' left' Dd' B2 cB2, Value.slice B' (al.length + 1) cB' = .slice B2 al'.length cB2 ∧ Value.slice A (left.length - 1) cA = .slice A left'.length cA ∧ AllM w L (sortR l) bk w.heap.size dm (dm + 1) w1.heap.size A cA al' left' Dd' B2 cB2 W6 ∧ left'.length = left.length - 1 := by
          obtain ⟨hxr, hxc, ho4, hrow4, hkx, hB4, hset4, hl4, hdb4⟩ := H4.out
          obtain ⟨hm5, ho5, hl5⟩ := H5.out
          rw [← HAA.out] at hown6 ho6
          have hle : (left.eraseIdx i).length = left.length - 1 := by rw [List.length_eraseIdx, if_pos hi]
          have hlow : w1.heap.size ≤ w3.heap.size := Nat.le_trans HM.out.lo HB3.out.size
          have ho35 : Only (fun b => b ∈ blkOf B ∨ b = dm) w3 W5 := ((ho4.mono (fun k _ e => .inl e)).drew).trans (ho5.mono (fun k _ e => .inr e))
          have ho36 : Only (fun b => (b ∈ blkOf B ∨ b = dm) ∨ b ∈ blkOf A) w3 W6 := (ho35.mono (fun k _ e => .inl e)).trans (ho6.mono (fun k _ e => .inr e))
          have hdmw : w.heap.size < dm := by have := H2.out.2.2.2.2.2.2.1; omega
          have hdm1 : dm + 2 ≤ w1.heap.size := by have := HK.out.2.2.2.size; have := H2.out.2.2.2.2.2.2.2; omega
          have hBA : ∀ b ∈ blkOf B', b ∉ blkOf A ∧ w.heap.size ≤ b ∧ b ≠ dm ∧ b ≠ w.heap.size ∧ b ≠ dm + 1 := fun b hb => by
            rcases hB4 with rfl | ⟨g, rfl, hg⟩
            · exact HM.out.bne b hb
            · simp [blkOf] at hb
              subst hb
              exact ⟨fun e => by have := (HA.out b e).2; omega, by omega, by omega, by omega, by omega⟩
          have hB'lt : ∀ b ∈ blkOf B', b < wc.heap.size := own_ltD hrow4
          refine ⟨al ++ [x], left.eraseIdx i, Dd.put (rlit d) (.held (.bool true)), B', cB', by simp, by rw [hle], ⟨?_, ?_, ?_, ?_, ?_, ?_, ?_, ?_, ?_, ?_, hBA⟩, hle⟩
          · exact HM.out.pl.step HP.out.1 hi HP.out.2.2.1 HP.out.2.2.2.2.1 HP.out.2.2.2.2.2.2.1 hxr hxc
          · refine (HM.out.bel.trans (HB3.out.mono HM.out.bel.size)).trans (ho36.below (Nat.le_trans HM.out.bel.size HB3.out.size) (fun k hk e => ?_))
            rcases e with (e | e) | e
            · have := (HM.out.bne k e).2.1; omega
            · omega
            · have := (HA.out k e).1; omega
          · exact (HM.out.pbx.below HB3.out HM.out.pbx.lt).only ho36 (fun e => by
              rcases e with (e | e) | e
              · exact (HM.out.bne _ e).2.2.2.1 rfl
              · omega
              · have := (HA.out _ e).1; omega)
          · exact (HM.out.dbx.below HB3.out HM.out.dbx.lt).only ho36 (fun e => by
              rcases e with (e | e) | e
              · exact (HM.out.bne _ e).2.2.2.2 rfl
              · omega
              · have := (HA.out _ e).1; omega)
          · refine ⟨(OM.of hm5).only ho6 (fun e => by have := (HA.out _ e).1; omega), fun r hr => ?_⟩
            rw [hset4.own.get_put HRI.out.1 hr, hset4.get r hr, List.map_append, List.reverse_append]
            have hdx : x.ref = d := by rw [hxr, HP.out.2.2.2.2.2.2.2.1]
            simp only [List.map_cons, List.map_nil, List.reverse_cons, List.reverse_nil, List.nil_append, List.singleton_append, List.mem_cons, hdx]
            by_cases e : r = d <;> simp [e]
          · have e1 : refs (left.eraseIdx i) = (refs left).take (i * 2) ++ (refs left).drop ((i + 1) * 2) := by rw [List.eraseIdx_eq_take_drop_succ, refs_append, refs_take, refs_drop]
            rw [hle, e1]
            exact hown6
          · have h6 : W6.ownsRow 0 65 5 (.slice B' (al.length + 1) cB') (al.length + 1) (chsCells (al ++ [x])) := own_keepD hrow4 (fun b hb hl => by
              rw [ho6.block b (Nat.lt_of_lt_of_le hl ho5.size) (fun e => (hBA b hb).1 e)]
              exact ho5.block b hl (fun e => (hBA b hb).2.2.1 e))
            simpa using h6
          · intro z hz
            rcases List.mem_append.1 hz with hz | hz
            · have k1 := (HM.out.keep z hz).only (Only.of_below (S := fun _ => False) HB3.out) (fun b h => h.elim)
              have k2 := k1.only ho4 (fun b h => .inr h)
              have k3 : Keep wc w1.heap.size B' z := by
                rcases hB4 with rfl | ⟨g, rfl, hg⟩
                · exact k2
                · obtain ⟨lo, hi3, h1, h2, h3, h4⟩ := (HM.out.keep z hz).only (Only.of_below (S := fun _ => False) HB3.out) (fun b h => h.elim)
                  refine ⟨lo, hi3, h1.only h3 ho4 (fun b b1 b2 hb => by rcases h4 b hb with h5 | h5 <;> omega), h2, Nat.le_trans h3 ho4.size, fun b hb => ?_⟩
                  simp [blkOf] at hb
                  subst hb
                  exact .inr (by omega)
              exact ((show Keep wc.drew w1.heap.size B' z from k3).only ho5 (fun b h => .inl (by have : b = dm := h; omega))).only ho6 (fun b h => .inl (HA.out b h).2)
            · rw [List.mem_singleton] at hz
              subst hz
              obtain ⟨lo, hi3, h1, h2, h3, h4⟩ := hkx
              have k0 : Keep wc w1.heap.size B' z := ⟨lo, hi3, h1, Nat.le_trans hlow h2, h3, h4⟩
              exact ((show Keep wc.drew w1.heap.size B' z from k0).only ho5 (fun b h => .inl (by have : b = dm := h; omega))).only ho6 (fun b h => .inl (HA.out b h).2)
          · exact Nat.le_trans hlow ho36.size
          · have h1 := hset4.own.size_put d (.held (.bool true))
            have h2 := HM.out.dsz
            simp
            omega
        have HE := Lib.hid HE6
        clear HE6 hown6 ho6
        go_wp2_with fail
        rw [← HAA.out]
        go_roundw
        case rel =>
          obtain ⟨al', left', Dd', B2, cB2, e1, e2, h3, h4⟩ := HE.out
          first | exact ⟨al', left', Dd', B2, cB2, e1, e2, h3⟩ | ((repeat apply Exists.intro); exact ⟨⟨al', left', Dd', B2, cB2, e1, e2, h3⟩, rfl⟩)
        case measure =>
          show left.length - 1 < left.length
          omega
    · have hz : left = [] := List.length_eq_zero_iff.1 (by omega)
      subst hz
      go_wp2_with fail
      go_ret
      refine ⟨al, B, cB, rfl, HM.out.pl.fin (HK.out.1.perm H2.out.2.2.2.2.1) H2.out.2.2.2.2.1.ndp, HM.out.bel, by have := HM.out.pl.perm.length_eq; simp [sortR_len] at this; omega, fun W' hW => ⟨sl_keep (SlAt.of_owns HM.out.arow) (fun b hb hl => hW b (HM.out.bne b hb).2.1 hl), fun x hx => ?_⟩⟩
      obtain ⟨lo, hi, h1, h2, h3, _⟩ := HM.out.keep x hx
      refine h1 W' (fun b b1 b2 => hW b ?_ (Nat.lt_of_lt_of_le b2 h3))
      have h4 := HK.out.2.2.2.size
      have h5 := H2.out.1.size
      omega
theorem all_any (bk h wt bh : Nat) (Dh Dw Db : DataW Value) (L : List PCh) (w : World) (H : Dag w bk h wt bh Dh Dw Db L) :
    Calls Tryz.prog 17 #[.pointer (some ⟨bk, 0, none⟩)] w (AllQ w L) := by
  refine (all_is bk h wt bh Dh Dw Db L w H).mono ?_
  rintro e w' ⟨al, B, cB, rfl, h1, h2, h3, h4⟩
  obtain ⟨h5, h6⟩ := h4 w' (fun _ _ _ => rfl)
  exact ⟨al, B, cB, rfl, h1, h5, h6, h2, h3⟩
end Go.Proofs.YteknflimfdkhoaaGreat
