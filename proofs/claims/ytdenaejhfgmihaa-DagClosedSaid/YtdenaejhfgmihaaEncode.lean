/- bookref1.Encode: what it writes. -/
import Derived.Test.YtdenaejhfgmihaaEncPut
import Derived.Test.YtdenaejhfgmihaaDagInv
import Derived.Deep.RegionHeld3
namespace Go.Proofs.Ytdenaejhfgmihaa
open Go.RowKit
set_option linter.unusedVariables false
set_option linter.unusedSimpArgs false

def pairI (p : Int × Int) : List Int := numsI [p.1, p.2]
def pairsI (l : List (Int × Int)) : List Int := l.flatMap pairI
def insI (b : Bool) : Int := if b then 1 else 0
def opI1 (o : OpV) : List Int := numsI [o.kind, o.obj.1, o.obj.2, (o.key.size : Int)]
def opI2 (o : OpV) : List Int := numsI [o.elem.1, o.elem.2, insI o.ins, o.val.k]
def opI3 (o : OpV) : List Int := numsI [(o.preds.length : Int)]
def opI (o : OpV) : List Int := (((((((opI1 o ++ strI o.key) ++ opI2 o) ++ sgnI o.val.n) ++ numsI [(o.val.s.size : Int)]) ++ strI o.val.s) ++ opI3 o)) ++ pairsI o.preds
def opsI (l : List OpV) : List Int := l.flatMap opI
def encI (c : Ch) : List Int := ((numsI [c.actor, c.seq, c.start, (c.deps.length : Int)] ++ pairsI c.deps) ++ numsI [(c.ops.length : Int)]) ++ opsI c.ops
theorem numsI_le' (l : List Int) (k : Nat) (h : l.length = k) : (numsI l).length ≤ 11 * k := by have := numsI_le l; rw [h] at this; exact this
theorem sgnI_le (x : Int) : (sgnI x).length ≤ 11 := natI_le _
theorem pairsI_le (l : List (Int × Int)) : (pairsI l).length ≤ 22 * l.length := by
  induction l with
  | nil => simp [pairsI]
  | cons x l ih =>
    have := numsI_le [x.1, x.2]
    simp only [pairsI, pairI, List.flatMap_cons, List.length_append, List.length_cons, List.length_nil] at *
    omega
theorem pairsI_snoc (l : List (Int × Int)) (x : Int × Int) : pairsI (l ++ [x]) = pairsI l ++ pairI x := by simp [pairsI]
theorem opsI_snoc (l : List OpV) (x : OpV) : opsI (l ++ [x]) = opsI l ++ opI x := by simp [opsI]
theorem empty_size {s : ByteArray} (h : s.toList.isEmpty = true) : s.size = 0 := by
  have h1 : s.toList = [] := by simpa using h
  have h2 : s.toList.length = s.size := by simp [ByteArray.toList_eq]
  rw [h1] at h2
  simpa using h2.symm
theorem val_small {v : JV} (h : v.ok = true) : v.s.size ≤ 60 := by
  have hb : v.bare = true → v.s.size ≤ 60 := fun h => by
    unfold JV.bare at h
    simp only [Bool.and_eq_true] at h
    have : v.s.toList.isEmpty = true := by first | exact h.1 | exact h.1.1 | exact h.2 | exact h.2.1 | exact h.2.2
    have := empty_size this
    omega
  unfold JV.ok at h
  split at h
  · simp only [Bool.and_eq_true] at h; exact hb h.1
  split at h
  · simp only [Bool.and_eq_true] at h; exact hb h.1
  split at h
  · exact hb h
  split at h
  · simp only [Bool.and_eq_true, decide_eq_true_eq] at h; omega
  split at h
  · exact hb h
  split at h
  · simp only [Bool.and_eq_true] at h; have := empty_size h.1.2; omega
  split at h
  · simp only [Bool.and_eq_true] at h; have := empty_size h.1.2; omega
  · cases h
theorem opI_le {o : OpV} (h1 : o.key.size ≤ 20) (h2 : o.val.s.size ≤ 60) (h3 : o.preds.length ≤ 12) : (opI o).length ≤ 600 := by
  have a1 := numsI_le' [o.kind, o.obj.1, o.obj.2, (o.key.size : Int)] 4 rfl
  have a2 := numsI_le' [o.elem.1, o.elem.2, insI o.ins, o.val.k] 4 rfl
  have a3 := numsI_le' [(o.preds.length : Int)] 1 rfl
  have a4 := sgnI_le o.val.n
  have a5 := numsI_le' [(o.val.s.size : Int)] 1 rfl
  have a6 := pairsI_le o.preds
  have a7 := strI_len o.key
  have a8 := strI_len o.val.s
  unfold opI opI1 opI2 opI3
  simp only [List.length_append]
  omega

/-- What stands while Encode goes on. -/
structure EncS (w : World) (c : PCh) (A : Option Addr) (cA : Nat) (xs : List Int) (W : World) : Prop where
  cb : CB w c W
  row : ByR W A cA xs
  low : ∀ b ∈ blkOf A, w.heap.size < b
theorem EncS.step {w W W' : World} {c : PCh} {A A' : Option Addr} {cA cA' : Nat} {xs xs' : List Int} (h : EncS w c A cA xs W) (hs : Stp W W' A A') (hr : ByR W' A' cA' xs') : EncS w c A' cA' xs' W' := by
  have hn : w.heap.size ∉ blkOf A := fun e => by have := h.low _ e; omega
  refine ⟨⟨h.cb.bel.trans (hs.only.below h.cb.bel.size (fun k hk e => by have := h.low k e; omega)), (hs.blk h.cb.blk hn).1⟩, hr, fun b hb => ?_⟩
  rcases hs.new b hb with h1 | h1
  · exact h.low b h1
  · have := h.cb.blk.lt; omega
theorem EncS.new {w W W' : World} {c : PCh} {A : Option Addr} {cA : Nat} {xs : List Int} (h : EncS w c A cA xs W) (hb : Below W.heap.size W W') : EncS w c A cA xs W' := h.step (Stp.below A hb) (h.row.keep hb)
/-- nums of new numbers. -/
theorem nums_new {W W' : World} {A : Option Addr} {cA : Nat} {xs : List Int} (l : List Int) (h : ByR W A cA xs) (hb : Below W.heap.size W W') (hB : Blk W' W.heap.size 3 (ints l).toArray) (hn : l.length ≤ 1000) (hx : xs.length ≤ 500000) :
    Calls Try.prog 55 #[.slice A xs.length cA, .slice (some ⟨W.heap.size, 0, none⟩) l.length l.length] W' (fun e w' => ∃ A' c', e = .returned (.slice A' (xs ++ numsI l).length c') ∧ ByR w' A' c' (xs ++ numsI l) ∧ Stp W w' A A') :=
  (nums_any A cA xs l (some ⟨W.heap.size, 0, none⟩) l.length W' (h.keep hb) (.inr ⟨_, 0, rfl, fun j u hu => by rw [Nat.zero_add, hB.cell]; simpa using hu⟩) (fun b off s e hm => by
    have := h.lt b hm
    injection e with e
    injection e with e1 _ _
    omega) hn hx).mono (fun e w' ⟨A', c', h1, h2, h3⟩ => ⟨A', c', h1, h2, (Stp.below A hb).trans h3⟩)
/-- .. and the op that is written now. -/
structure EncO (w : World) (c : PCh) (o : POp) (ob : Nat) (A : Option Addr) (cA : Nat) (xs : List Int) (W : World) : Prop where
  enc : EncS w c A cA xs W
  obx : Blk W ob 64 #[.int .i64 o.op.kind, .int .i64 o.op.obj.1, .int .i64 o.op.obj.2, .string o.op.key, .int .i64 o.op.elem.1, .int .i64 o.op.elem.2, .bool o.op.ins, .int .i64 o.op.val.k, .int .i64 o.op.val.n, .string o.op.val.s, .int .i64 o.op.val.o, .int .i64 o.op.val.p, .slice o.pA o.op.preds.length o.pc]
  on : ob ∉ blkOf A
theorem EncO.step {w W W' : World} {c : PCh} {o : POp} {ob : Nat} {A A' : Option Addr} {cA cA' : Nat} {xs xs' : List Int} (h : EncO w c o ob A cA xs W) (hs : Stp W W' A A') (hr : ByR W' A' cA' xs') : EncO w c o ob A' cA' xs' W' :=
  ⟨h.enc.step hs hr, (hs.blk h.obx h.on).1, (hs.blk h.obx h.on).2⟩
theorem alloc_below (W : World) (o : Obj) : Below W.heap.size W (W.alloc o) := (Below.refl _ _).alloc (Nat.le_refl _) _
def EncQ (w : World) (bs : List Int) (e : Ending) (w' : World) : Prop := ∃ A c, e = .returned (.slice A bs.length c) ∧ ByR w' A c bs ∧ Below w.heap.size w w'

set_option maxRecDepth 100000 in
set_option maxHeartbeats 4000000 in
theorem encode_any (c : PCh) (w : World) (hc : InC w c) (hg : GoodC c) : Calls Try.prog 42 #[.agg #[.int .i64 c.actor, .int .i64 c.seq, .int .i64 c.start, .slice c.dA c.deps.length c.dc, .slice c.oA c.ops.length c.oc]] w (EncQ w (encI c.ch)) := by
  obtain ⟨W0, hW0⟩ : ∃ W0, W0 = w.alloc (.cells #[.int .i64 c.actor, .int .i64 c.seq, .int .i64 c.start, .slice c.dA c.deps.length c.dc, .slice c.oA c.ops.length c.oc] 31) := ⟨_, rfl⟩
  have hC0 : CB w c W0 := by rw [hW0]; exact ⟨(Below.refl _ _).alloc (Nat.le_refl _) _, Blk.new _ _ _⟩
  have H0 := Lib.hid (And.intro hC0 (And.intro hc (And.intro hg hW0)))
  have c0 : W0.cell? ⟨w.heap.size, 0, none⟩ = some (.int .i64 c.actor) := hC0.blk.cell 0
  have c1 : W0.cell? ⟨w.heap.size, 1, none⟩ = some (.int .i64 c.seq) := hC0.blk.cell 1
  have c2 : W0.cell? ⟨w.heap.size, 2, none⟩ = some (.int .i64 c.start) := hC0.blk.cell 2
  have c3 : W0.cell? ⟨w.heap.size, 3, none⟩ = some (.slice c.dA c.deps.length c.dc) := hC0.blk.cell 3
  have hdl := hg.deps
  have hol := hg.ops
  clear hC0 hc hg hW0
  go_enter Try.func42, Try.ntmps42
  go_upto_region 1 with (fail)
  rw [← H0.out.2.2.2]
  go_wp2_with fail
  refine (nums_new (W := W0) (A := none) (cA := 0) (xs := []) [c.actor, c.seq, c.start, (c.deps.length : Int)] ⟨rfl, .inl ⟨rfl, rfl⟩⟩ (alloc_below _ _) (Blk.new _ _ _) (by simp) (by simp)).mono ?_
  rintro e w1 ⟨A1, c1', rfl, hB1, hS1⟩
  have HE1 := Lib.hid (show EncS w c A1 c1' (numsI [c.actor, c.seq, c.start, (c.deps.length : Int)]) w1 from (show EncS w c none 0 [] W0 from ⟨H0.out.1, ⟨rfl, .inl ⟨rfl, rfl⟩⟩, fun b hb => (by cases hb)⟩).step hS1 hB1)
  clear hB1 hS1 c0 c1 c2 c3
  obtain ⟨ps, hps⟩ : ∃ ps, numsI [c.actor, c.seq, c.start, (c.deps.length : Int)] = ps := ⟨_, rfl⟩
  have hpl : ps.length ≤ 44 := by rw [← hps]; exact numsI_le' _ 4 rfl
  rw [hps] at HE1
  rw [List.nil_append, hps]
  have HPS := Lib.hid hps
  clear hps
  go_wp2_with fail
  go_loopw [3, 4] (fun bv iv wr => ∃ (k : Nat) (A : Option Addr) (cA : Nat), bv = .slice A (ps ++ pairsI (c.deps.take k)).length cA ∧ iv = .int .i64 k ∧ k ≤ c.deps.length ∧ EncS w c A cA (ps ++ pairsI (c.deps.take k)) wr) (fun _ iv _ => c.deps.length - (intOf iv).toNat)
  case atStart => exact ⟨0, A1, c1', by simp [pairsI], rfl, Nat.zero_le _, by simpa [pairsI] using HE1.out⟩
  case round =>
    obtain ⟨k, A, cA, rfl, rfl, hk, hE⟩ := hrel
    have HE := Lib.hid hE
    have c3 : wr.cell? ⟨w.heap.size, 3, none⟩ = some (.slice c.dA c.deps.length c.dc) := hE.cb.blk.cell 3
    by_cases hlt : k < c.deps.length
    · obtain ⟨b, off, d, ha, hd, hx1, hx2⟩ := (H0.out.2.1.deps.below hE.cb.bel).ref hlt
      have HD := Lib.hid (And.intro hd ha)
      clear hE hd
      rw [ha] at c3
      clear ha
      obtain ⟨qs, hqs⟩ : ∃ qs, ps ++ pairsI (c.deps.take k) = qs := ⟨_, rfl⟩
      have hql : qs.length ≤ 400 := by
        rw [← hqs, List.length_append]
        have h1 := pairsI_le (c.deps.take k)
        have h2 : (c.deps.take k).length ≤ c.deps.length := List.length_take_le' _ _
        omega
      rw [hqs] at HE ⊢
      have HQS := Lib.hid hqs
      clear hqs
      go_wp2_with fail
      have hS : ∀ W, Only (· ∈ blkOf A) wr W → W.cell? ⟨w.heap.size, 3, none⟩ = some (.slice (some ⟨b, off, none⟩) c.deps.length c.dc) ∧ W.cell? ⟨b, off + k * 2, none⟩ = some (.int .i64 d.1) ∧ W.cell? ⟨b, off + k * 2 + 1, none⟩ = some (.int .i64 d.2) := by
        intro W hW
        have hn : w.heap.size ∉ blkOf A := fun e => by have := HE.out.low _ e; omega
        have hbw := HE.out.cb.bel.trans (hW.below HE.out.cb.bel.size (fun q hq e => by have := HE.out.low q e; omega))
        obtain ⟨b2, off2, d2, ha2, hd2, hy1, hy2⟩ := (H0.out.2.1.deps.below hbw).ref hlt
        rw [HD.out.2] at ha2
        have e1 : b = b2 ∧ off = off2 := by
          have := Option.some.inj ha2
          injection this with e1 e2 e3
          exact ⟨e1, e2⟩
        obtain ⟨rfl, rfl⟩ := e1
        rw [HD.out.1] at hd2
        obtain rfl := Option.some.inj hd2
        refine ⟨?_, hy1, hy2⟩
        rw [← HD.out.2]
        exact (HE.out.cb.blk.only hW hn).cell 3
      have HKS := Lib.hid hS
      clear hS
      go_region_held3 (fun w' => w'.cell? ⟨w.heap.size, 3, none⟩ = some (.slice (some ⟨b, off, none⟩) c.deps.length c.dc) ∧ w'.cell? ⟨b, off + k * 2, none⟩ = some (.int .i64 d.1) ∧ w'.cell? ⟨b, off + k * 2 + 1, none⟩ = some (.int .i64 d.2))
          (first
            | (with_reducible exact HKS.out _ (Only.refl _ wr).drew)
            | (with_reducible exact HKS.out _ ((Only.refl _ wr).alloc _).drew)
            | (with_reducible exact HKS.out _ ho6)
            | go_keep)
          (first
            | (go_simp
               refine (nums_new (W := wr) (A := A) (cA := cA) (xs := qs) [d.1, d.2] HE.out.row (alloc_below _ _).drew (Blk.new _ _ _) (by simp) (by omega)).mono ?_
               rintro e w6 ⟨A', c', rfl, hB6, hS6⟩
               have ho6 := hS6.only
               have HF := Lib.hid (HE.out.step hS6 hB6)
               clear hB6 hS6))
      all_goals
        have he : qs ++ pairI d = ps ++ pairsI (c.deps.take (k + 1)) := by rw [← HQS.out, List.take_add_one, HD.out.1, Option.toList_some, pairsI_snoc, List.append_assoc]
        have HG := Lib.hid (show EncS w c A' c' (ps ++ pairsI (c.deps.take (k + 1))) w6 by rw [← he]; exact HF.out)
        have HEE := Lib.hid he
        clear he
        go_wp2_with fail
        exact ⟨⟨k + 1, A', c', by rw [← HEE.out]; simp [pairI], by push_cast; rfl, by omega, HG.out⟩, by simp [intOf]; omega⟩
    · obtain rfl : k = c.deps.length := by omega
      rw [List.take_length] at HE ⊢
      clear hE
      have c4 : wr.cell? ⟨w.heap.size, 4, none⟩ = some (.slice c.oA c.ops.length c.oc) := HE.out.cb.blk.cell 4
      obtain ⟨p2, hp2⟩ : ∃ p2, ps ++ pairsI c.deps = p2 := ⟨_, rfl⟩
      have hp2l : p2.length ≤ 400 := by rw [← hp2, List.length_append]; have h1 := pairsI_le c.deps; omega
      rw [hp2] at HE ⊢
      have HP2 := Lib.hid hp2
      clear hp2
      go_wp2_with fail
      refine (nums_new (W := wr) (A := A) (cA := cA) (xs := p2) [(c.ops.length : Int)] HE.out.row (alloc_below _ _) (Blk.new _ _ _) (by simp) (by omega)).mono ?_
      rintro e w2 ⟨A2, c2', rfl, hB2, hS2⟩
      obtain ⟨rs, hrs⟩ : ∃ rs, p2 ++ numsI [(c.ops.length : Int)] = rs := ⟨_, rfl⟩
      rw [hrs] at hB2 ⊢
      have hrl : rs.length ≤ 420 := by rw [← hrs, List.length_append]; have h1 := numsI_le' [(c.ops.length : Int)] 1 rfl; omega
      have HRS := Lib.hid hrs
      have HE2 := Lib.hid (HE.out.step hS2 hB2)
      clear hB2 hS2 c3 c4 hrs
      go_wp2_with fail
      go_loopw [3, 5, 6, 7, 8] (fun bv jv _ _ _ wr => ∃ (j : Nat) (A : Option Addr) (cA : Nat), bv = .slice A (rs ++ opsI ((c.ops.map POp.op).take j)).length cA ∧ jv = .int .i64 j ∧ j ≤ c.ops.length ∧ EncS w c A cA (rs ++ opsI ((c.ops.map POp.op).take j)) wr ∧ (rs ++ opsI ((c.ops.map POp.op).take j)).length ≤ 420 + 600 * j) (fun _ jv _ _ _ _ => c.ops.length - (intOf jv).toNat)
      case atStart => exact ⟨0, A2, c2', by simp [opsI], rfl, Nat.zero_le _, by simpa [opsI] using HE2.out, by simpa [opsI] using hrl⟩
      case round =>
        obtain ⟨j, A, cA, rfl, rfl, hj, hE, hln⟩ := hrel
        have HE := Lib.hid hE
        have c4 : wr.cell? ⟨w.heap.size, 4, none⟩ = some (.slice c.oA c.ops.length c.oc) := hE.cb.blk.cell 4
        by_cases hlt2 : j < c.ops.length
        · have ho := List.getElem?_eq_getElem hlt2
          generalize c.ops[j] = o at ho
          have hom := List.mem_of_getElem? ho
          obtain ⟨b, off, ha, hcell⟩ := (H0.out.2.1.ops.below hE.cb.bel).op ho
          have HD := Lib.hid (And.intro ho (And.intro ha hom))
          have o0 : wr.cell? ⟨b, off + j * 13, none⟩ = some (.int .i64 o.op.kind) := hcell 0 _ rfl
          have o1 : wr.cell? ⟨b, off + j * 13 + 1, none⟩ = some (.int .i64 o.op.obj.1) := hcell 1 _ rfl
          have o2 : wr.cell? ⟨b, off + j * 13 + 2, none⟩ = some (.int .i64 o.op.obj.2) := hcell 2 _ rfl
          have o3 : wr.cell? ⟨b, off + j * 13 + 3, none⟩ = some (.string o.op.key) := hcell 3 _ rfl
          have o4 : wr.cell? ⟨b, off + j * 13 + 4, none⟩ = some (.int .i64 o.op.elem.1) := hcell 4 _ rfl
          have o5 : wr.cell? ⟨b, off + j * 13 + 5, none⟩ = some (.int .i64 o.op.elem.2) := hcell 5 _ rfl
          have o6 : wr.cell? ⟨b, off + j * 13 + 6, none⟩ = some (.bool o.op.ins) := hcell 6 _ rfl
          have o7 : wr.cell? ⟨b, off + j * 13 + 7, none⟩ = some (.int .i64 o.op.val.k) := hcell 7 _ rfl
          have o8 : wr.cell? ⟨b, off + j * 13 + 8, none⟩ = some (.int .i64 o.op.val.n) := hcell 8 _ rfl
          have o9 : wr.cell? ⟨b, off + j * 13 + 9, none⟩ = some (.string o.op.val.s) := hcell 9 _ rfl
          have o10 : wr.cell? ⟨b, off + j * 13 + 10, none⟩ = some (.int .i64 o.op.val.o) := hcell 10 _ rfl
          have o11 : wr.cell? ⟨b, off + j * 13 + 11, none⟩ = some (.int .i64 o.op.val.p) := hcell 11 _ rfl
          have o12 : wr.cell? ⟨b, off + j * 13 + 12, none⟩ = some (.slice o.pA o.op.preds.length o.pc) := hcell 12 _ rfl
          clear hE ho hcell hom
          rw [ha] at c4
          clear ha
          obtain ⟨q0, hq0⟩ : ∃ q0, rs ++ opsI ((c.ops.map POp.op).take j) = q0 := ⟨_, rfl⟩
          rw [hq0] at HE hln ⊢
          have HQ0 := Lib.hid hq0
          have hl0 : q0.length ≤ 25000 := by omega
          have HLN := Lib.hid hln
          clear hq0 hln
          have hj40 : (j : Int) ≤ 40 := by omega
          obtain ⟨W1, hW1⟩ : ∃ W1, W1 = wr.alloc (.cells #[.int .i64 o.op.kind, .int .i64 o.op.obj.1, .int .i64 o.op.obj.2, .string o.op.key, .int .i64 o.op.elem.1, .int .i64 o.op.elem.2, .bool o.op.ins, .int .i64 o.op.val.k, .int .i64 o.op.val.n, .string o.op.val.s, .int .i64 o.op.val.o, .int .i64 o.op.val.p, .slice o.pA o.op.preds.length o.pc] 64) := ⟨_, rfl⟩
          obtain ⟨ob, hob⟩ : ∃ ob, ob = wr.heap.size := ⟨_, rfl⟩
          have hO1 : EncO w c o ob A cA q0 W1 := by rw [hW1, hob]; exact ⟨HE.out.new (alloc_below _ _), Blk.new _ _ _, fun e => by have := HE.out.row.lt _ e; omega⟩
          go_upto_region 11 with (fail)
          rw [← hW1, ← hob]
          clear hW1 hob c4 o0 o1 o2 o3 o4 o5 o6 o7 o8 o9 o10 o11 o12
          have HO0 := Lib.hid hO1
          clear hO1
          have HB := Lib.hid (show o.op.key.size ≤ 20 ∧ o.op.val.s.size ≤ 60 ∧ o.op.preds.length ≤ 12 from ⟨H0.out.2.2.1.key o HD.out.2.2, val_small (H0.out.2.2.1.val o HD.out.2.2), H0.out.2.2.1.preds o HD.out.2.2⟩)
          have o0 : W1.cell? ⟨ob, 0, none⟩ = some (.int .i64 o.op.kind) := HO0.out.obx.cell 0
          have o1 : W1.cell? ⟨ob, 1, none⟩ = some (.int .i64 o.op.obj.1) := HO0.out.obx.cell 1
          have o2 : W1.cell? ⟨ob, 2, none⟩ = some (.int .i64 o.op.obj.2) := HO0.out.obx.cell 2
          have o3 : W1.cell? ⟨ob, 3, none⟩ = some (.string o.op.key) := HO0.out.obx.cell 3
          have hks : (o.op.key.size : Int) ≤ 20 := by have := HB.out.1; omega
          go_wp2_with fail
          refine (nums_new (W := W1) (A := A) (cA := cA) (xs := q0) [o.op.kind, o.op.obj.1, o.op.obj.2, (o.op.key.size : Int)] HO0.out.enc.row (alloc_below _ _) (Blk.new _ _ _) (by simp) (by omega)).mono ?_
          rintro e w3 ⟨A3, c3, rfl, hB, hS⟩
          obtain ⟨q1, hq1⟩ : ∃ q, q0 ++ numsI [o.op.kind, o.op.obj.1, o.op.obj.2, (o.op.key.size : Int)] = q := ⟨_, rfl⟩
          have hl1 : q1.length ≤ 25100 := by rw [← hq1, List.length_append]; have h1 := numsI_le' [o.op.kind, o.op.obj.1, o.op.obj.2, (o.op.key.size : Int)] 4 rfl; omega
          rw [hq1] at hB ⊢
          have HQ1 := Lib.hid hq1
          have HO1 := Lib.hid (HO0.out.step hS hB)
          clear hB hS hq1
          clear o0 o1 o2 o3
          go_upto_region 12 with (fail)
          have o3 : w3.cell? ⟨ob, 3, none⟩ = some (.string o.op.key) := HO1.out.obx.cell 3
          obtain ⟨A4, c4, w4, hr, hB, hS⟩ := by_string (s := o.op.key) HO1.out.enc.row (by have := HB.out.1; omega)
          obtain ⟨q2, hq2⟩ : ∃ q, q1 ++ strI o.op.key = q := ⟨_, rfl⟩
          have hl2 : q2.length ≤ 25200 := by rw [← hq2, List.length_append, strI_len]; have h1 := HB.out.1; omega
          rw [hq2] at hB hr
          have HR := Lib.hid hr
          have HQ2 := Lib.hid hq2
          have HO2 := Lib.hid (HO1.out.step hS hB)
          clear hB hS hr hq2
          go_upto_region 13 with (refine wpList_append_run (o := ⟨some 77, _, _, _, _, _⟩) rfl _ _ _ _ rfl rfl rfl (HR.out _) ?_)
          clear HR
          clear o3
          have o6 : w4.cell? ⟨ob, 6, none⟩ = some (.bool o.op.ins) := HO2.out.obx.cell 6
          go_upto_if 79 with (fail)
          go_cut [7] (fun s7 wx => s7 = .int .i64 (insI o.op.ins) ∧ wx = w4)
          case first =>
            go_wp2_with fail
            all_goals
              go_meet
              first
                | (have hi : o.op.ins = true := by assumption); refine ⟨?_, rfl⟩; rw [hi]; rfl
                | (have hi : o.op.ins = false := by assumption); refine ⟨?_, rfl⟩; rw [hi]; rfl
                | (have hi : o.op.ins = true := by assumption); simp [insI, hi]
                | (have hi : o.op.ins = false := by assumption); simp [insI, hi]
          case rest =>
          obtain ⟨rfl, hwc⟩ := hcut
          rw [hwc]
          clear hwc o6
          have o4 : w4.cell? ⟨ob, 4, none⟩ = some (.int .i64 o.op.elem.1) := HO2.out.obx.cell 4
          have o5 : w4.cell? ⟨ob, 5, none⟩ = some (.int .i64 o.op.elem.2) := HO2.out.obx.cell 5
          have o7 : w4.cell? ⟨ob, 7, none⟩ = some (.int .i64 o.op.val.k) := HO2.out.obx.cell 7
          go_wp2_with fail
          refine (nums_new (W := w4) (A := A4) (cA := c4) (xs := q2) [o.op.elem.1, o.op.elem.2, insI o.op.ins, o.op.val.k] HO2.out.enc.row (alloc_below _ _) (Blk.new _ _ _) (by simp) (by omega)).mono ?_
          rintro e w5 ⟨A5, c5, rfl, hB, hS⟩
          obtain ⟨q3, hq3⟩ : ∃ q, q2 ++ numsI [o.op.elem.1, o.op.elem.2, insI o.op.ins, o.op.val.k] = q := ⟨_, rfl⟩
          have hl3 : q3.length ≤ 25300 := by rw [← hq3, List.length_append]; have h1 := numsI_le' [o.op.elem.1, o.op.elem.2, insI o.op.ins, o.op.val.k] 4 rfl; omega
          rw [hq3] at hB ⊢
          have HQ3 := Lib.hid hq3
          have HO3 := Lib.hid (HO2.out.step hS hB)
          clear hB hS hq3
          clear o4 o5 o7
          go_upto_region 17 with (fail)
          have o8 : w5.cell? ⟨ob, 8, none⟩ = some (.int .i64 o.op.val.n) := HO3.out.obx.cell 8
          have hvn : I64 o.op.val.n := (H0.out.2.1.op o HD.out.2.2).val.n
          have HVN := Lib.hid hvn
          clear hvn
          go_wp2_with fail
          refine (rputS_any o.op.val.n HVN.out w5).mono ?_
          rintro e w6 ⟨B, cb, rfl, hb1, hb2, hb3⟩
          have hsl := sgnI_le o.op.val.n
          obtain ⟨A6, c6, w7, hr, hB, hS⟩ := by_append (cb := cb) (HO3.out.enc.row.keep hb2) hb1.at (by omega)
          obtain ⟨q4, hq4⟩ : ∃ q, q3 ++ sgnI o.op.val.n = q := ⟨_, rfl⟩
          have hl4 : q4.length ≤ 25400 := by rw [← hq4, List.length_append]; omega
          rw [hq4] at hB hr
          have HR := Lib.hid hr
          have HQ4 := Lib.hid hq4
          have HO4 := Lib.hid (HO3.out.step ((Stp.below _ hb2).trans hS) hB)
          clear hB hS hr hq4 hb1 hb2 hb3 hsl o8
          go_upto_region 18 with (refine wpList_append_run (o := ⟨some 98, _, _, _, _, _⟩) rfl _ _ _ _ rfl rfl rfl (HR.out _) ?_)
          clear HR
          have o9 : w7.cell? ⟨ob, 9, none⟩ = some (.string o.op.val.s) := HO4.out.obx.cell 9
          have hvs : (o.op.val.s.size : Int) ≤ 60 := by have := HB.out.2.1; omega
          go_wp2_with fail
          refine (nums_new (W := w7) (A := A6) (cA := c6) (xs := q4) [(o.op.val.s.size : Int)] HO4.out.enc.row (alloc_below _ _) (Blk.new _ _ _) (by simp) (by omega)).mono ?_
          rintro e w8 ⟨A7, c7, rfl, hB, hS⟩
          obtain ⟨q5, hq5⟩ : ∃ q, q4 ++ numsI [(o.op.val.s.size : Int)] = q := ⟨_, rfl⟩
          have hl5 : q5.length ≤ 25500 := by rw [← hq5, List.length_append]; have h1 := numsI_le' [(o.op.val.s.size : Int)] 1 rfl; omega
          rw [hq5] at hB ⊢
          have HQ5 := Lib.hid hq5
          have HO5 := Lib.hid (HO4.out.step hS hB)
          clear hB hS hq5
          clear o9
          go_upto_region 19 with (fail)
          have o9 : w8.cell? ⟨ob, 9, none⟩ = some (.string o.op.val.s) := HO5.out.obx.cell 9
          obtain ⟨A8, c8, w9, hr, hB, hS⟩ := by_string (s := o.op.val.s) HO5.out.enc.row (by have := HB.out.2.1; omega)
          obtain ⟨q6, hq6⟩ : ∃ q, q5 ++ strI o.op.val.s = q := ⟨_, rfl⟩
          have hl6 : q6.length ≤ 25600 := by rw [← hq6, List.length_append, strI_len]; have h1 := HB.out.2.1; omega
          rw [hq6] at hB hr
          have HR := Lib.hid hr
          have HQ6 := Lib.hid hq6
          have HO6 := Lib.hid (HO5.out.step hS hB)
          clear hB hS hr hq6
          go_upto_region 20 with (refine wpList_append_run (o := ⟨some 110, _, _, _, _, _⟩) rfl _ _ _ _ rfl rfl rfl (HR.out _) ?_)
          clear HR
          clear o9
          have o12 : w9.cell? ⟨ob, 12, none⟩ = some (.slice o.pA o.op.preds.length o.pc) := HO6.out.obx.cell 12
          go_wp2_with fail
          refine (nums_new (W := w9) (A := A8) (cA := c8) (xs := q6) [(o.op.preds.length : Int)] HO6.out.enc.row (alloc_below _ _) (Blk.new _ _ _) (by simp) (by omega)).mono ?_
          rintro e w10 ⟨A9, c9, rfl, hB, hS⟩
          obtain ⟨q7, hq7⟩ : ∃ q, q6 ++ numsI [(o.op.preds.length : Int)] = q := ⟨_, rfl⟩
          have hl7 : q7.length ≤ 25700 := by rw [← hq7, List.length_append]; have h1 := numsI_le' [(o.op.preds.length : Int)] 1 rfl; omega
          rw [hq7] at hB ⊢
          have HQ7 := Lib.hid hq7
          have HO7 := Lib.hid (HO6.out.step hS hB)
          clear hB hS hq7
          clear o12
          have hpl12 : o.op.preds.length ≤ 12 := HB.out.2.2
          have o12 : w10.cell? ⟨ob, 12, none⟩ = some (.slice o.pA o.op.preds.length o.pc) := HO7.out.obx.cell 12
          go_wp2_with fail
          clear o12
          go_loopw [3, 8] (fun bv iv wr => ∃ (k : Nat) (A : Option Addr) (cA : Nat), bv = .slice A (q7 ++ pairsI (o.op.preds.take k)).length cA ∧ iv = .int .i64 k ∧ k ≤ o.op.preds.length ∧ EncO w c o ob A cA (q7 ++ pairsI (o.op.preds.take k)) wr) (fun _ iv _ => o.op.preds.length - (intOf iv).toNat)
          case atStart => exact ⟨0, A9, c9, by simp [pairsI], rfl, Nat.zero_le _, by simpa [pairsI] using HO7.out⟩
          case round =>
            obtain ⟨k, Ak, cAk, rfl, rfl, hk, hE⟩ := hrel
            have HEk := Lib.hid hE
            have o12 : wr.cell? ⟨ob, 12, none⟩ = some (.slice o.pA o.op.preds.length o.pc) := hE.obx.cell 12
            by_cases hlt3 : k < o.op.preds.length
            · obtain ⟨pb, po, d, hpa, hpd, hx1, hx2⟩ := ((H0.out.2.1.preds o HD.out.2.2).below hE.enc.cb.bel).ref hlt3
              have HPD := Lib.hid (And.intro hpd hpa)
              clear hE hpd
              rw [hpa] at o12
              clear hpa
              obtain ⟨qs, hqs⟩ : ∃ qs, q7 ++ pairsI (o.op.preds.take k) = qs := ⟨_, rfl⟩
              have hql : qs.length ≤ 26000 := by
                rw [← hqs, List.length_append]
                have h1 := pairsI_le (o.op.preds.take k)
                have h2 : (o.op.preds.take k).length ≤ o.op.preds.length := List.length_take_le' _ _
                omega
              rw [hqs] at HEk ⊢
              have HQS := Lib.hid hqs
              clear hqs
              have hS : ∀ W, Only (· ∈ blkOf Ak) wr W → W.cell? ⟨ob, 12, none⟩ = some (.slice (some ⟨pb, po, none⟩) o.op.preds.length o.pc) ∧ W.cell? ⟨pb, po + k * 2, none⟩ = some (.int .i64 d.1) ∧ W.cell? ⟨pb, po + k * 2 + 1, none⟩ = some (.int .i64 d.2) := by
                intro W hW
                have hbw := HEk.out.enc.cb.bel.trans (hW.below HEk.out.enc.cb.bel.size (fun q hq e => by have := HEk.out.enc.low q e; omega))
                obtain ⟨b2, off2, d2, ha2, hd2, hy1, hy2⟩ := ((H0.out.2.1.preds o HD.out.2.2).below hbw).ref hlt3
                rw [HPD.out.2] at ha2
                have e1 : pb = b2 ∧ po = off2 := by
                  have := Option.some.inj ha2
                  injection this with e1 e2 e3
                  exact ⟨e1, e2⟩
                obtain ⟨rfl, rfl⟩ := e1
                rw [HPD.out.1] at hd2
                obtain rfl := Option.some.inj hd2
                refine ⟨?_, hy1, hy2⟩
                rw [← HPD.out.2]
                exact (HEk.out.obx.only hW HEk.out.on).cell 12
              have HKS := Lib.hid hS
              clear hS
              go_wp2_with fail
              go_region_held3 (fun w' => w'.cell? ⟨ob, 12, none⟩ = some (.slice (some ⟨pb, po, none⟩) o.op.preds.length o.pc) ∧ w'.cell? ⟨pb, po + k * 2, none⟩ = some (.int .i64 d.1) ∧ w'.cell? ⟨pb, po + k * 2 + 1, none⟩ = some (.int .i64 d.2))
                (first
                  | (with_reducible exact HKS.out _ (Only.refl _ wr).drew)
                  | (with_reducible exact HKS.out _ ((Only.refl _ wr).alloc _).drew)
                  | (with_reducible exact HKS.out _ ho6)
                  | go_keep)
                (first
                  | (go_simp
                     refine (nums_new (W := wr) (A := Ak) (cA := cAk) (xs := qs) [d.1, d.2] HEk.out.enc.row (alloc_below _ _).drew (Blk.new _ _ _) (by simp) (by omega)).mono ?_
                     rintro e wq ⟨A', c', rfl, hB6, hS6⟩
                     have ho6 := hS6.only
                     have HF := Lib.hid (HEk.out.step hS6 hB6)
                     clear hB6 hS6))
              all_goals
                have he : qs ++ pairI d = q7 ++ pairsI (o.op.preds.take (k + 1)) := by rw [← HQS.out, List.take_add_one, HPD.out.1, Option.toList_some, pairsI_snoc, List.append_assoc]
                have HG := Lib.hid (show EncO w c o ob A' c' (q7 ++ pairsI (o.op.preds.take (k + 1))) wq by rw [← he]; exact HF.out)
                have HEE := Lib.hid he
                clear he
                go_wp2_with fail
                exact ⟨⟨k + 1, A', c', by rw [← HEE.out]; simp [pairI], by push_cast; rfl, by omega, HG.out⟩, by simp [intOf]; omega⟩
            · obtain rfl : k = o.op.preds.length := by omega
              rw [List.take_length] at HEk ⊢
              clear hE
              go_wp2_with fail
              have he : q7 ++ pairsI o.op.preds = rs ++ opsI ((c.ops.map POp.op).take (j + 1)) := by
                have hm : (c.ops.map POp.op)[j]? = some o.op := by rw [List.getElem?_map, HD.out.1]; rfl
                rw [List.take_add_one, hm, Option.toList_some, opsI_snoc, ← List.append_assoc, HQ0.out]
                unfold opI opI1 opI2 opI3
                simp only [← List.append_assoc]
                rw [HQ1.out, HQ2.out, HQ3.out, HQ4.out, HQ5.out, HQ6.out, HQ7.out]
              have hle : (rs ++ opsI ((c.ops.map POp.op).take (j + 1))).length ≤ 420 + 600 * (j + 1) := by
                have hm : (c.ops.map POp.op)[j]? = some o.op := by rw [List.getElem?_map, HD.out.1]; rfl
                rw [List.take_add_one, hm, Option.toList_some, opsI_snoc, ← List.append_assoc, HQ0.out, List.length_append]
                have h1 := HLN.out
                have h2 := opI_le HB.out.1 HB.out.2.1 HB.out.2.2
                omega
              exact ⟨⟨j + 1, Ak, cAk, by rw [← he]; try simp, by push_cast; rfl, by omega, by rw [← he]; exact HEk.out.enc, hle⟩, by simp [intOf]; omega⟩
        · obtain rfl : j = c.ops.length := by omega
          have hta : (c.ops.map POp.op).take c.ops.length = c.ops.map POp.op := List.take_of_length_le (by simp)
          rw [hta] at HE ⊢
          clear hE hln
          go_wp2_with fail
          go_ret
          have hfin : rs ++ opsI (c.ops.map POp.op) = encI c.ch := by
            show _ = ((numsI [c.actor, c.seq, c.start, (c.deps.length : Int)] ++ pairsI c.deps) ++ numsI [((c.ops.map POp.op).length : Int)]) ++ opsI (c.ops.map POp.op)
            rw [List.length_map, HPS.out, HP2.out, HRS.out]
          rw [← hfin]
          exact ⟨A, cA, rfl, HE.out.row, HE.out.cb.bel⟩
end Go.Proofs.Ytdenaejhfgmihaa
