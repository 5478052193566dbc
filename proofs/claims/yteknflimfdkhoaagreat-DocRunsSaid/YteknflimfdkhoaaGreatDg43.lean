/- state.State.Elements: a contract. slices.DeleteFunc of the elements of a list that have no values: a contract. -/
import Derived.Test.YteknflimfdkhoaaGreatDg20
import Derived.Test.YteknflimfdkhoaaGreatDg41
import Derived.Test.YteknflimfdkhoaaGreatDg28
import Derived.Deep.LoopGhost
import Derived.Deep.RegionHeld3
import Derived.Test.YteknflimfdkhoaaGreatDg36
import Derived.Outline
namespace Go.Proofs.YteknflimfdkhoaaGreat
open Go.RowKit Go.Maps Go.Sort
set_option linter.unusedVariables false
set_option linter.unusedSimpArgs false

theorem row_init {w : World} {B c : Nat} {A : Option Addr} {l : List (Int × Int)} {n : Int × Int} (h : w.ownsRow B 24 2 (.slice A (l.length + 1) c) (l.length + 1) (refs (l ++ [n]))) : w.ownsRow B 24 2 (.slice A l.length c) l.length (refs l) := by
  refine ⟨refs_length _, ?_⟩
  rcases h.2 with ⟨hn, _⟩ | ⟨g, cap, cur, hv, hb, hg, h1, h2, h3, h4⟩
  · injection hn with _ hn _
    omega
  · injection hv with hA _ hc
    subst hA hc
    refine .inr ⟨g, c, cur, rfl, hb, hg, by omega, h2, h3, ?_⟩
    have h5 : cur.toList.take (l.length * 2) = (cur.toList.take ((l.length + 1) * 2)).take (l.length * 2) := by rw [List.take_take, Nat.min_eq_left (by omega)]
    rw [h5, h4, refs_append, List.take_append_of_le_length (by rw [refs_length]; exact Nat.le_refl _), List.take_of_length_le (by rw [refs_length]; exact Nat.le_refl _)]
theorem sortKids_any (B c : Nat) (A : Option Addr) (l : List (Int × Int)) (w : World) (hO : w.ownsRow B 24 2 (.slice A l.length c) l.length (refs l)) (hl : l.length < 4611686018427387904) :
    Calls Tryz.prog 60 #[.slice A l.length c, .func (.func 61) #[] #[]] w fun e w' =>
      e = .returned (.tuple #[]) ∧ w'.ownsRow B 24 2 (.slice A l.length c) l.length (refs (sortC cmpId l)) ∧ Only (fun k => (Value.slice A l.length c).ownBlock = some k) w w' := by
  by_cases h0 : l = []
  · subst h0
    refine (sortNoneI_any _ _ _ _).mono ?_
    rintro e w2 ⟨rfl, hw2⟩
    rw [hw2]
    exact ⟨rfl, by simpa [sortC] using hO, Only.refl _ _⟩
  · obtain ⟨g, rfl⟩ : ∃ g, A = some ⟨g, 0, none⟩ := by
      rcases hO.2 with ⟨_, hn0⟩ | ⟨g, cap, cur, hv, _⟩
      · exact absurd (List.eq_nil_of_length_eq_zero hn0) h0
      · injection hv with hv; exact ⟨g, hv⟩
    refine (sortIds_any cmpId swo_refs tot_refs _ enters_cmp compareId_grow B g c l w hO hl).mono ?_
    rintro e w2 ⟨rfl, h2, h3⟩
    exact ⟨rfl, h2, ⟨h3.os, h3.tape, h3.output, h3.size, fun k hk hn => h3.block k hk (fun e => hn (by rw [e]; rfl))⟩⟩
theorem kids_i2 {w : World} {B sb kb vb ib lb N : Nat} {s : Sta} (H : StM w B sb kb vb ib lb N s) {obj n : Int × Int} (ho : I2 obj) (hn : I2 n) : ∀ m ∈ kidsOf s obj n, I2 m := fun m hm => by
  obtain ⟨A, c, Di, hk, _⟩ := H.is.look (x := (obj, ⟨#[]⟩, n)) ⟨ho, Nat.zero_le _, hn⟩
  exact hk.i2 m ((sortC_perm _ _).mem_iff.1 hm)
/-- What holds at each round: the stack's top last. -/
structure ElI (w : World) (s : Sta) (obj : Int × Int) (F k : Nat) (O st : List (Int × Int)) (Ao As : Option Addr) (co cs : Nat) (W : World) : Prop where
  out : W.ownsRow (w.heap.size + 1) 24 2 (.slice Ao O.length co) O.length (refs O)
  stk : W.ownsRow (w.heap.size + 1) 24 2 (.slice As st.length cs) st.length (refs st)
  ne : ∀ a b, Ao = some a → As = some b → a.block ≠ b.block
  i2 : ∀ n ∈ st, I2 n
  i2o : ∀ n ∈ O, I2 n
  done : doneE s obj k st.reverse
  eq : O ++ elemsF s obj k st.reverse = elemsF s obj F [(0, 0)]
  len : O.length + k ≤ F
  bel : Below w.heap.size w W
  box : Blk W w.heap.size 24 #[.int .i64 obj.1, .int .i64 obj.2]
/-- What Elements answers. -/
def ElemsQ (w : World) (l : List (Int × Int)) (e : Ending) (w' : World) : Prop := ∃ (A : Option Addr) (c : Nat), e = .returned (.slice A l.length c) ∧ w'.ownsRow (w.heap.size + 1) 24 2 (.slice A l.length c) l.length (refs l) ∧ Below w.heap.size w w' ∧ ∀ n ∈ l, I2 n
/-- Behind the test of the element. -/
structure ElM (w wr : World) (obj r : Int × Int) (O st0 : List (Int × Int)) (Ao As : Option Addr) (co cs : Nat) (W : World) : Prop where
  out : W.ownsRow (w.heap.size + 1) 24 2 (.slice Ao O.length co) O.length (refs O)
  stk : W.ownsRow (w.heap.size + 1) 24 2 (.slice As st0.length cs) st0.length (refs st0)
  ne : ∀ a b, Ao = some a → As = some b → a.block ≠ b.block
  bel : Below w.heap.size w W
  box : Blk W w.heap.size 24 #[.int .i64 obj.1, .int .i64 obj.2]
  nb : Blk W wr.heap.size 24 #[.int .i64 r.1, .int .i64 r.2]
theorem own_alt {w : World} {B n c : Nat} {A : Option Addr} {xs : List Value} (h : w.ownsRow B 24 2 (.slice A n c) n xs) {k : Nat} (hk : (Value.slice A n c).ownBlock = some k) : B ≤ k ∧ k < w.heap.size ∧ ∃ a, A = some a ∧ a.block = k := by
  obtain ⟨h1, h2⟩ := h.lt k hk
  cases A with
  | none => cases hk
  | some a =>
    have hk : some a.block = some k := hk
    injection hk with hk
    exact ⟨h1, h2, a, rfl, hk⟩
set_option maxRecDepth 100000 in
set_option maxHeartbeats 4000000 in
theorem elements_any (B sb kb vb ib lb N F : Nat) (s : Sta) (obj : Int × Int) (w : World) (H : StM w B sb kb vb ib lb N s) (hob : I2 obj) (hd : doneE s obj F [(0, 0)]) (hF : F ≤ 1000) :
    Calls Tryz.prog 54 #[.pointer (some ⟨sb, 0, none⟩), .agg #[.int .i64 obj.1, .int .i64 obj.2]] w (ElemsQ w (elemsF s obj F [(0, 0)])) := by
  obtain ⟨W2, hW2⟩ : ∃ W2, W2 = (w.alloc (.cells #[.int .i64 obj.1, .int .i64 obj.2] 24)).alloc (.cells #[.int .i64 0, .int .i64 0] 24) := ⟨_, rfl⟩
  have hb2 : Below w.heap.size w W2 := by rw [hW2]; exact ((Below.refl _ _).alloc (Nat.le_refl _) _).alloc (by simp) _
  have hI0 : ElI w s obj F F [] [(0, 0)] none (some ⟨w.heap.size + 1, 0, none⟩) 0 1 W2 := by
    refine ⟨⟨rfl, .inl ⟨rfl, rfl⟩⟩, ⟨rfl, .inr ⟨w.heap.size + 1, 1, #[.int .i64 0, .int .i64 0], rfl, Nat.le_refl _, ?_, Nat.le_refl _, by decide, rfl, rfl⟩⟩, fun a b h _ => (by cases h), ?_, fun n hn => (by cases hn), hd, rfl, by simp, hb2, ?_⟩
    · rw [hW2]; exact Blk.newer _ _ _ (by simp)
    · intro n hn
      rw [List.mem_singleton] at hn
      subst hn
      exact ⟨⟨by decide, by decide⟩, ⟨by decide, by decide⟩⟩
    · rw [hW2]; exact (Blk.new w _ _).alloc _
  have HH := Lib.hid (And.intro H (And.intro hob hI0))
  have HW := Lib.hid hW2
  clear H hob hd hI0 hb2 hW2
  go_enter Tryz.func54, Tryz.ntmps54
  go_upto_block 0 with (fail)
  rw [← HW.out]
  clear HW
  go_wp2_with fail
  go_loopg [5, 6, 7, 8] F (fun k s5 s6 _ _ wr => ∃ (O st : List (Int × Int)) (Ao As : Option Addr) (co cs : Nat), s5 = .slice Ao O.length co ∧ s6 = .slice As st.length cs ∧ ElI w s obj F k O st Ao As co cs wr)
  case atStart => exact ⟨_, _, _, _, _, _, rfl, rfl, HH.out.2.2⟩
  case round =>
    obtain ⟨O, st, Ao, As, co, cs, rfl, rfl, hI⟩ := hrel
    rcases List.eq_nil_or_concat st with rfl | ⟨st0, n, hst⟩
    · have HI := Lib.hid hI
      clear hI
      go_wp2_with fail
      go_ret
      have h := HI.out.eq
      rw [List.reverse_nil, elemsF_nil, List.append_nil] at h
      rw [← h]
      exact ⟨_, _, rfl, HI.out.out, HI.out.bel, HI.out.i2o⟩
    · rw [List.concat_eq_append] at hst
      subst hst
      obtain ⟨L, hL⟩ : ∃ L, L = st0.length := ⟨_, rfl⟩
      have hlen : (st0 ++ [n]).length = L + 1 := by rw [hL]; simp
      have hrow := hI.stk
      rw [hlen] at hrow ⊢
      have hdn : doneE s obj gk (n :: st0.reverse) := by have := hI.done; rwa [List.reverse_append, List.reverse_cons, List.reverse_nil, List.nil_append, List.singleton_append] at this
      have heq := hI.eq
      rw [List.reverse_append, List.reverse_cons, List.reverse_nil, List.nil_append, List.singleton_append] at heq
      obtain ⟨k1, rfl⟩ : ∃ k1, gk = k1 + 1 := by
        cases gk with
        | zero => exact hdn.elim
        | succ k1 => exact ⟨k1, rfl⟩
      obtain ⟨b, off, r, hA, hr, hx, hy⟩ := (SlAt.of_owns hrow).ref (k := L) (by rw [hlen]; omega)
      have hrn : r = n := by
        rw [hL, List.getElem?_concat_length] at hr
        exact (Option.some.inj hr).symm
      subst hrn
      have hcs : L + 1 ≤ cs ∧ cs ≤ 9223372036854775807 := by
        rcases hrow.2 with ⟨hn, _⟩ | ⟨g, cap, cur, hv, _, _, h1, h2, _⟩
        · injection hn with _ hn _
          omega
        · injection hv with _ _ hc
          subst hc
          exact ⟨h1, Nat.le_trans h2 (by decide)⟩
      have hL1000 : L + 1 ≤ 1000 := by
        have h1 := doneE_len s obj _ _ hdn
        have h2 := hI.len
        rw [List.length_cons, List.length_reverse, ← hL] at h1
        omega
      have hs1 : IntKind.i64.wrap (((L + 1 : Nat) : Int) - 1) = (L : Int) := by rw [IntKind.wrap_i64]; omega
      have hs2 : wrap64 (((L + 1 : Nat) : Int) - 1) = (L : Int) := by unfold wrap64; omega
      have hsl : ∀ W, (Instr.slice 49 (.slice (some ⟨b, off, none⟩) (L + 1) cs) none (some (.int .i64 (L : Int))) none).run Tryz.prog W = .ok (.slice (some ⟨b, off, none⟩) L cs) W := fun W => by
        have hs : ∀ w, (Go.sizeOf 24).run Tryz.prog w = .ok 2 w := by intro w; kernel_rfl
        have he : Tryz.prog.elem 49 = 24 := by simp [Program.elem, Tryz.underlying49]
        rw [run_slice_h W 49 _ (L + 1) cs (by rw [he]; exact Tryz.underlying49) .i64 L (by omega) (by omega), he, hs]
        simp [Result.andThen, sliced, Addr.add]
      obtain ⟨W4, hW4⟩ : ∃ W4, W4 = wr.alloc (.cells #[.int .i64 r.1, .int .i64 r.2] 24) := ⟨_, rfl⟩
      have hb4 : Below wr.heap.size wr W4 := by rw [hW4]; exact (Below.refl _ _).alloc (Nat.le_refl _) _
      have hN4 : Blk W4 wr.heap.size 24 #[.int .i64 r.1, .int .i64 r.2] := by rw [hW4]; exact Blk.new _ _ _
      have HI := Lib.hid (And.intro hI (And.intro hdn (And.intro heq (And.intro hrow (And.intro hb4 (And.intro hN4 (And.intro hL hlen)))))))
      have HA := Lib.hid hA
      clear hI hdn heq hrow hb4 hN4 hL hr hlen
      rw [hA]
      clear hA
      go_upto_region 5 with (fail)
      rw [← hW4]
      clear hW4 hx hy
      have n0 : W4.cell? ⟨wr.heap.size, 0, none⟩ = some (.int .i64 r.1) := HI.out.2.2.2.2.2.1.cell 0
      have n1 : W4.cell? ⟨wr.heap.size, 1, none⟩ = some (.int .i64 r.2) := HI.out.2.2.2.2.2.1.cell 1
      have hO4 := rowS_only HI.out.1.out (Only.of_below (S := fun _ => False) HI.out.2.2.2.2.1) (fun _ _ h => h)
      have hS4 := rowS_only (row_init (by have := HI.out.2.2.2.1; rw [HI.out.2.2.2.2.2.2.1] at this; exact this)) (Only.of_below (S := fun _ => False) HI.out.2.2.2.2.1) (fun _ _ h => h)
      have hwr : w.heap.size + 1 ≤ wr.heap.size := HI.out.1.box.lt
      have hOl : O.length ≤ 1000 := by have := HI.out.1.len; omega
      have hM4 : ElM w wr obj r O st0 Ao As co cs W4 := ⟨hO4, hS4, HI.out.1.ne, HI.out.1.bel.trans (HI.out.2.2.2.2.1.mono HI.out.1.bel.size), HI.out.1.box.below HI.out.2.2.2.2.1 HI.out.1.box.lt, HI.out.2.2.2.2.2.1⟩
      obtain ⟨W5, hW5⟩ : ∃ W5, W5 = W4.alloc (.cells #[.int .i64 r.1, .int .i64 r.2] 24) := ⟨_, rfl⟩
      have hal5 : Below W4.heap.size W4 W5 := by rw [hW5]; exact (Below.refl _ _).alloc (Nat.le_refl _) _
      obtain ⟨A', c', w5, hrun, hown5, ho5, hA'⟩ := id_push (x1 := r.1) (x2 := r.2) hO4 (by have := HI.out.2.2.2.2.1.size; omega) (by omega)
      have hM5 : ElM w wr obj r (O ++ [r]) st0 A' As c' cs w5 := by
        refine ⟨?_, rowS_only hS4 ho5 (fun a ha e => ?_), fun a b ha hb => ?_, hM4.bel.trans (ho5.below hM4.bel.size (fun k hk e => by have := (own_alt hO4 e).1; omega)), hM4.box.only ho5 (fun e => by have := (own_alt hO4 e).1; omega), hM4.nb.only ho5 (fun e => by have := (own_alt HI.out.1.out e).2.1; omega)⟩
        · rw [List.length_append, refs_append]; exact hown5
        · obtain ⟨_, _, a0, ha0, hb0⟩ := own_alt hO4 e
          exact HI.out.1.ne a0 a ha0 ha hb0
        · rcases hA' with h | ⟨g, h, hg⟩
          · exact HI.out.1.ne a b (h ▸ ha) hb
          · rw [h] at ha
            injection ha with ha
            subst ha
            have : b.block < wr.heap.size := (HI.out.1.stk.lt b.block (by rw [hb]; rfl)).2
            have h4 := HI.out.2.2.2.2.1.size
            show g ≠ b.block
            omega
      have HRN := Lib.hid hrun
      have HM := Lib.hid (And.intro hM4 hM5)
      clear hrun hown5 ho5 hA' hM4 hM5 hO4 hS4 hW5 hal5
      go_upto_region 6 with (fail)
      go_cut [27] from 19 to 26 (fun s27 wx => wx = W4 ∧ ∃ zb : Bool, s27 = .bool zb ∧ (zb = true ↔ r ≠ (0, 0)))
      case first =>
        go_wp2_with fail
        all_goals
          go_meet
          refine ⟨rfl, _, rfl, ?_⟩
          obtain ⟨r1, r2⟩ := r
          simp_all
      case rest =>
      obtain ⟨rfl, zb, rfl, hzb⟩ := hcut
      have HZ := Lib.hid hzb
      clear hzb
      go_upto_if 27 with (fail)
      go_cut [5] from 28 to 31 (fun s5 wx => ∃ (O2 : List (Int × Int)) (A2 : Option Addr) (c2 : Nat), s5 = .slice A2 O2.length c2 ∧ O2 = O ++ (if r = (0, 0) then [] else [r]) ∧ ElM w wr obj r O2 st0 A2 As c2 cs wx)
      case first =>
        cases zb with
        | false =>
          have hr0 : r = (0, 0) := Classical.byContradiction (fun h => by have := HZ.out.2 h; cases this)
          go_wp2_with fail
          go_meet
          exact ⟨O, Ao, co, rfl, by rw [if_pos hr0, List.append_nil], HM.out.1⟩
        | true =>
          have hr1 : r ≠ (0, 0) := HZ.out.1 rfl
          go_wp2_with (at_builtin; refine Lib.wpList_append_run _ rfl _ _ _ _ rfl _ _ rfl rfl _ _ (HRN.out _) ?_)
          go_meet
          exact ⟨O ++ [r], A', c', by rw [List.length_append]; rfl, by rw [if_neg hr1], HM.out.2⟩
      case rest =>
      obtain ⟨O2, A2, c2, rfl, hO2, hM⟩ := hcut
      have hri : I2 r := HI.out.1.i2 r (by simp)
      obtain ⟨Ak, ck, Di, hk1, hk2, _⟩ := HH.out.1.is.look (x := (obj, ⟨#[]⟩, r)) ⟨HH.out.2.1, Nat.zero_le _, hri⟩
      obtain ⟨l, hl⟩ : ∃ l, (s.kids (obj, ⟨#[]⟩, r)).getD [] = l := ⟨_, rfl⟩
      rw [hl] at hk1 hk2
      have hkids : kidsOf s obj r = sortC cmpId l := by unfold kidsOf; rw [hl]
      have hd1 : doneE s obj k1 ((kidsOf s obj r).reverse ++ st0.reverse) := HI.out.2.1
      have hkl : l.length + L ≤ k1 := by
        have h1 := doneE_len s obj _ _ hd1
        rw [hkids, List.length_append, List.length_reverse, List.length_reverse, sortC_len, ← HI.out.2.2.2.2.2.2.1] at h1
        exact h1
      have hk1000 : l.length + L ≤ 1000 := by have := HI.out.1.len; omega
      obtain ⟨m, hm⟩ : ∃ m, m = l.length := ⟨_, rfl⟩
      rw [← hm] at hk2
      have hww : Below w.heap.size w wc := hM.bel
      have HKS := Lib.hid (show ∀ W, Below wc.heap.size wc W → W.cell? ⟨sb, 2, none⟩ = some (.map (some ib)) ∧ W.cell? ⟨w.heap.size, 0, none⟩ = some (.int .i64 obj.1) ∧ W.cell? ⟨w.heap.size, 1, none⟩ = some (.int .i64 obj.2) ∧ W.cell? ⟨wr.heap.size, 0, none⟩ = some (.int .i64 r.1) ∧ W.cell? ⟨wr.heap.size, 1, none⟩ = some (.int .i64 r.2) ∧ (Instr.lookup 73 (.map (some ib)) (.agg #[.int .i64 obj.1, .int .i64 obj.2, .string ⟨#[]⟩, .int .i64 r.1, .int .i64 r.2]) false).run Tryz.prog W = .ok (.slice Ak m ck) W from fun W hW => by
        have hb := hww.trans (hW.mono hww.size)
        refine ⟨(HH.out.1.blk.below hb HH.out.1.blk.lt).cell 2, (hM.box.below hW hM.box.lt).cell 0, (hM.box.below hW hM.box.lt).cell 1, (hM.nb.below hW hM.nb.lt).cell 0, (hM.nb.below hW hM.nb.lt).cell 1, hk2 W (Only.of_below hb)⟩)
      have HCL := Lib.hid (cloneId_any Ak m ck (refs l) wc.drew (by rw [refs_length, hm]) (((SlAt.of_owns hk1.row).below hww).drew) (by omega) (refs_one l))
      have HR := Lib.hid (And.intro hO2 (And.intro hM (And.intro hkids (And.intro hd1 (And.intro hkl (And.intro hk1000 (And.intro hm (And.intro hww hri))))))))
      clear hO2 hM hk1 hk2 hkids hd1 hkl hk1000 hww hl HM HRN HZ hri hm
      obtain ⟨f0, f1, f2, f3, f4, f5⟩ := HKS.out wc (Below.refl _ _)
      go_upto_region 8 with (fail)
      go_region_held3 (fun w' => w'.cell? ⟨sb, 2, none⟩ = some (.map (some ib)) ∧ w'.cell? ⟨w.heap.size, 0, none⟩ = some (.int .i64 obj.1) ∧ w'.cell? ⟨w.heap.size, 1, none⟩ = some (.int .i64 obj.2) ∧ w'.cell? ⟨wr.heap.size, 0, none⟩ = some (.int .i64 r.1) ∧ w'.cell? ⟨wr.heap.size, 1, none⟩ = some (.int .i64 r.2) ∧ (Instr.lookup 73 (.map (some ib)) (.agg #[.int .i64 obj.1, .int .i64 obj.2, .string ⟨#[]⟩, .int .i64 r.1, .int .i64 r.2]) false).run Tryz.prog w' = .ok (.slice Ak m ck) w')
        (first | (with_reducible exact HKS.out _ (Below.refl _ wc).drew) | (with_reducible exact HKS.out _ HB6.out) | go_keep) (first
        | (go_simp
           go_at_call 67
           (with_reducible refine HCL.out.mono ?_)
           (rintro e w6 ⟨A6, c6, rfl, hown6, hb6, hlow6⟩)
           have HB6 := Lib.hid (show Below wc.heap.size wc w6 from (Below.refl wc.heap.size wc).drew.trans hb6)
           have H6 := Lib.hid (And.intro hown6 hlow6)
           clear hown6 hb6 hlow6))
      obtain ⟨K, hK⟩ : ∃ K, K = kidsOf s obj r := ⟨_, rfl⟩
      have hKl : K.length = m := by rw [hK, HR.out.2.2.1, sortC_len, HR.out.2.2.2.2.2.2.1]
      have HSO : Hid (Calls Tryz.prog 60 #[.slice A6 m c6, .func (.func 61) #[] #[]] w6 fun e w' => e = .returned (.tuple #[]) ∧ w'.ownsRow 0 24 2 (.slice A6 m c6) m (refs K) ∧ Only (fun k => (Value.slice A6 m c6).ownBlock = some k) w6 w') := Lib.hid (by
        have h := H6.out.1
        have hm := HR.out.2.2.2.2.2.2.1
        rw [hK, HR.out.2.2.1, hm]
        rw [hm] at h
        exact sortKids_any 0 c6 A6 l w6 h (by have := HR.out.2.2.2.2.2.1; omega))
      have hK1 : m + L ≤ 1000 := by have := HR.out.2.2.2.2.2.1; have := HR.out.2.2.2.2.2.2.1; omega
      have HK := Lib.hid (And.intro hK hKl)
      clear hK hKl f0 f1 f2 f3 f4 f5
      go_upto_region 10 with (go_at_call 60; (with_reducible refine HSO.out.mono ?_); (rintro e w7 ⟨rfl, hown7, ho7⟩); (have H7 := Lib.hid (And.intro hown7 ho7)); clear hown7 ho7)
      have hL := HI.out.2.2.2.2.2.2.1
      have hown7 := H7.out.1
      have hfar : ∀ W, Below wc.heap.size wc W → Only (fun k => (Value.slice A6 m c6).ownBlock = some k) W w7 → ∀ i, i < wc.heap.size → ¬ (Value.slice A6 m c6).ownBlock = some i := fun W _ _ i hi e => by
        cases A6 with
        | none => cases e
        | some a =>
          have e : some a.block = some i := e
          injection e with e
          have h1 := H6.out.2 a.block (by simp [blkOf])
          have h2 := HB6.out.size
          have h3 : wc.drew.heap.size = wc.heap.size := rfl
          omega
      have hf7 := hfar w6 HB6.out H7.out.2
      have hb7 : Below wc.heap.size wc w7 := HB6.out.trans (H7.out.2.below HB6.out.size (fun k hk e => hf7 k hk e))
      have hstk7 := rowS_only HR.out.2.1.stk (Only.of_below (S := fun _ => False) hb7) (fun _ _ h => h)
      have hout7 := rowS_only HR.out.2.1.out (Only.of_below (S := fun _ => False) hb7) (fun _ _ h => h)
      rw [HA.out, ← hL] at hstk7
      have hbytes : (L + m) * 16 ≤ 140737488355328 := by omega
      obtain ⟨A8, c8, w8, hrun8, hown8, hgr8, hA8⟩ := run_append_sl (P := Tryz.prog) w7 49 0 24 Tryz.underlying49 infoId rfl (by decide) (some ⟨b, off, none⟩) L cs (refs st0) (rowS_base hstk7 (fun _ _ => Nat.zero_le _)) A6 m c6 (refs K) (by rw [refs_length, HK.out.2]) (SlAt.of_owns hown7) (refs_one K) (by unfold maxLen; omega) hbytes
      have hrun8 : ∀ ty, (Builtin.append_ #[49, 49] ty #[.slice (some ⟨b, off, none⟩) L cs, .slice A6 m c6]).run Tryz.prog w7 = .ok (.slice A8 (L + m) c8) w8 := fun _ => hrun8
      have ho8 : Only (fun k => (Value.slice (some ⟨b, off, none⟩) L cs).ownBlock = some k) w7 w8 := ⟨hgr8.os, hgr8.tape, hgr8.output, hgr8.size, fun k hk hn => hgr8.block k hk (fun e => hn e.symm)⟩
      have hlen2 : (st0 ++ K).length = L + m := by rw [List.length_append, HK.out.2, ← hL]
      have hEND : ElI w s obj F k1 O2 (st0 ++ K) A2 A8 c2 c8 w8 := by
        have hbl : w.heap.size + 1 ≤ b := (hstk7.lt b rfl).1
        have hown0 : ∀ i, (Value.slice (some ⟨b, off, none⟩) L cs).ownBlock = some i → i = b := fun i e => by
          have e : some b = some i := e
          injection e with e
          exact e.symm
        refine ⟨rowS_only hout7 ho8 (fun a ha e => ?_), ?_, fun a b2 ha hb2 => ?_, fun x hx => ?_, fun x hx => ?_, ?_, ?_, ?_, ?_, ?_⟩
        · exact HR.out.2.1.ne a _ ha HA.out (hown0 _ e)
        · rw [hlen2, refs_append]
          refine rowS_base hown8 (fun a ha => ?_)
          rcases hA8 with ⟨h, _⟩ | h
          · rw [h] at ha
            injection ha with ha
            subst ha
            exact hbl
          · rw [h] at ha
            injection ha with ha
            subst ha
            have h1 := hb7.size
            have h2 := HR.out.2.1.bel.size
            have h3 := HR.out.2.1.box.lt
            show w.heap.size + 1 ≤ w7.heap.size
            omega
        · rcases hA8 with ⟨h, _⟩ | h
          · exact HR.out.2.1.ne a b2 ha (HA.out.trans (h.symm.trans hb2))
          · rw [h] at hb2
            injection hb2 with hb2
            subst hb2
            have h1 := (hout7.lt a.block (by rw [ha]; rfl)).2
            show a.block ≠ w7.heap.size
            omega
        · rcases List.mem_append.1 hx with hx | hx
          · exact HI.out.1.i2 x (List.mem_append.2 (.inl hx))
          · exact kids_i2 HH.out.1 HH.out.2.1 HR.out.2.2.2.2.2.2.2.2 x (HK.out.1 ▸ hx)
        · rw [HR.out.1] at hx
          rcases List.mem_append.1 hx with hx | hx
          · exact HI.out.1.i2o x hx
          · split at hx
            · cases hx
            · rw [List.mem_singleton] at hx; subst hx; exact HR.out.2.2.2.2.2.2.2.2
        · rw [List.reverse_append, HK.out.1]; exact HR.out.2.2.2.1
        · have := HI.out.2.2.1
          rw [List.reverse_append, HK.out.1, HR.out.1, List.append_assoc]
          exact this
        · have h1 := HI.out.1.len
          have h2 : O2.length ≤ O.length + 1 := by rw [HR.out.1, List.length_append]; split <;> simp
          omega
        · exact (HR.out.2.1.bel.trans (hb7.mono HR.out.2.1.bel.size)).trans (ho8.below (by have := hb7.size; have := HR.out.2.1.bel.size; omega) (fun k hk e => by have := hown0 k e; omega))
        · exact (HR.out.2.1.box.below hb7 HR.out.2.1.box.lt).only ho8 (fun e => by have := hown0 _ e; omega)
      have HEND := Lib.hid (And.intro hEND hlen2)
      have HRN8 := Lib.hid hrun8
      clear hEND hlen2 hrun8 ho8 hown8 hgr8 hA8 hstk7 hout7 hb7 hf7 hfar hown7 hL
      go_wp2_with (at_builtin; refine Lib.wpList_append_run _ rfl _ _ _ _ rfl _ _ rfl rfl _ _ (HRN8.out _) ?_)
      go_roundg k1
      case rel => exact ⟨O2, st0 ++ K, A2, A8, c2, c8, rfl, by rw [HEND.out.2], HEND.out.1⟩
      all_goals omega
end Go.Proofs.YteknflimfdkhoaaGreat
namespace Go.Proofs.YteknflimfdkhoaaGreat
open Go.RowKit
set_option linter.unusedVariables false
set_option linter.unusedSimpArgs false

set_option maxRecDepth 100000 in
set_option maxHeartbeats 2000000 in
theorem idx_seen (cap1 cap2 : Value) (p : Int × Int → Bool) (l : List (Int × Int)) (A : Option Addr) (c : Nat) (w : World) (hl : l.length ≤ maxLen) (hA : SlAt w A (refs l))
    (hcall : ∀ r ∈ l, ∀ W, Below w.heap.size w W → Calls Tryz.prog 55 #[.agg #[.int .i64 r.1, .int .i64 r.2], cap1, cap2] W fun e w' => e = .returned (.bool (p r)) ∧ Below W.heap.size W w') :
    Calls Tryz.prog 79 #[.slice A l.length c, (.func (.func 55) #[] #[cap1, cap2])] w fun e w' => e = .returned (.int .i64 (idxOf p l)) ∧ Below w.heap.size w w' := by
  have hml : l.length ≤ 9223372036854775807 := Nat.le_trans hl (by decide)
  have HH := Lib.hid (And.intro hA hcall)
  clear hA hcall hl
  go_enter Tryz.func79, Tryz.ntmps79
  go_wp2_with fail
  go_loopw [8, 5] (fun iv _ wr => ∃ k : Nat, iv = .int .i64 k ∧ k ≤ l.length ∧ (∀ x ∈ l.take k, p x = false) ∧ Below w.heap.size w wr) (fun iv _ _ => l.length - (intOf iv).toNat)
  case atStart => exact ⟨0, rfl, by omega, by simp, Below.refl _ _⟩
  case round =>
    obtain ⟨k, rfl, hk, ht, hb⟩ := hrel
    by_cases hlt : k < l.length
    · have d0 : decide ((k : Int) < (l.length : Int)) = true := decide_eq_true (by omega)
      obtain ⟨b, off, r, rfl, hr, hx, hy⟩ := (HH.out.1.below hb).ref hlt
      have HC := Lib.hid (HH.out.2 r (List.mem_of_getElem? hr) wr hb)
      have HT := Lib.hid (And.intro ht (And.intro hr hb))
      clear ht hr hb
      cases hp : p r with
      | true =>
        rw [hp] at HC
        have HN := Lib.hid (idx_hit HT.out.1 HT.out.2.1 hp).1
        clear hp
        go_wp2_with fail
        refine HC.out.mono ?_
        rintro e w1 ⟨rfl, hb1⟩
        go_wp2_with fail
        go_ret
        exact ⟨by rw [HN.out]; rfl, HT.out.2.2.trans (hb1.mono HT.out.2.2.size)⟩
      | false =>
        rw [hp] at HC
        have HN := Lib.hid (take_false HT.out.1 HT.out.2.1 hp)
        clear hp
        go_wp2_with fail
        refine HC.out.mono ?_
        rintro e w1 ⟨rfl, hb1⟩
        go_wp2_with fail
        go_roundw
        case rel => exact ⟨k + 1, by go_num, by omega, HN.out, HT.out.2.2.trans (hb1.mono HT.out.2.2.size)⟩
        case measure => simp [intOf] <;> omega
    · obtain rfl : k = l.length := by omega
      have HN := Lib.hid (idx_none (p := p) (l := l) (by rw [List.take_length] at ht; exact ht)).1
      clear ht
      go_wp2_with fail
      go_ret
      exact ⟨by rw [HN.out]; rfl, hb⟩

def DelIQ (w : World) (A : Option Addr) (p : Int × Int → Bool) (l : List (Int × Int)) (e : Ending) (w' : World) : Prop := ∃ c', e = .returned (.slice A (keptN p l) c') ∧ Only (· ∈ blkOf A) w w' ∧ SlAt w' A (refs (l.filter fun r => !p r))
/-- What holds at each round. -/
structure DelJ (g c : Nat) (p : Int × Int → Bool) (l : List (Int × Int)) (w : World) (i j : Nat) (W : World) : Prop where
  lt : i < j
  le : j ≤ l.length
  cnt : i = keptN p (l.take j)
  only : Only (· = g) w W
  row : ∃ cur, Blk W g 24 cur ∧ cur.size = c * 2 ∧ ∀ k r, j ≤ k → l[k]? = some r → cur[k * 2]? = some (.int .i64 r.1) ∧ cur[k * 2 + 1]? = some (.int .i64 r.2)
  kept : ∀ cur, Blk W g 24 cur → ∀ q r, ((l.take j).filter fun r => !p r)[q]? = some r → cur[q * 2]? = some (.int .i64 r.1) ∧ cur[q * 2 + 1]? = some (.int .i64 r.2)
set_option maxRecDepth 100000 in
set_option maxHeartbeats 2000000 in
theorem delI_any (cap1 cap2 : Value) (p : Int × Int → Bool) (l : List (Int × Int)) (A : Option Addr) (c : Nat) (w : World) (hown : w.ownsRow 0 24 2 (.slice A l.length c) l.length (refs l)) (hl : l.length ≤ 1000)
    (hcall : ∀ r ∈ l, ∀ W, Only (· ∈ blkOf A) w W → Calls Tryz.prog 55 #[.agg #[.int .i64 r.1, .int .i64 r.2], cap1, cap2] W fun e w' => e = .returned (.bool (p r)) ∧ Below W.heap.size W w') :
    Calls Tryz.prog 53 #[.slice A l.length c, (.func (.func 55) #[] #[cap1, cap2])] w (DelIQ w A p l) := by
  have HC := Lib.hid (idx_seen cap1 cap2 p l A c w (by unfold maxLen; omega) (SlAt.of_owns hown) (fun r hr W hW => hcall r hr W (Only.of_below hW)))
  rcases idx_facts (p := p) (l := l) with ⟨hi, hk, hke⟩ | ⟨k, hi, hkl, hk, hke⟩
  · rw [hi] at HC
    have HK := Lib.hid (And.intro hk (And.intro hke (SlAt.of_owns hown)))
    clear hi hk hke hcall hown
    go_enter Tryz.func53, Tryz.ntmps53
    go_wp2_with (go_at_call 79; (with_reducible refine HC.out.mono ?_); rintro e w1 ⟨rfl, hb1⟩)
    go_ret
    exact ⟨c, by rw [HK.out.1]; rfl, Only.of_below hb1, by rw [HK.out.2.1]; exact HK.out.2.2.below hb1⟩
  · rw [hi] at HC
    rcases hown.2 with ⟨hv, h0⟩ | ⟨g, cap, cur, hv, hb0, hg, hnc, hcm, hcs, htk⟩
    · omega
    injection hv with hA _ hc
    subst hA hc
    have hg' : Blk w g 24 cur := hg
    have h0 : ∀ W, Below w.heap.size w W → DelJ g c p l w k (k + 1) W := fun W hW => ⟨by omega, hkl, hk.symm, Only.of_below hW, ⟨cur, hg'.below hW hg'.lt, hcs, fun q r hq hr => by
      have h1 := refs_two l q r hr
      have hql := (List.getElem?_eq_some_iff.1 hr).1
      rw [← htk, List.getElem?_take, List.getElem?_take, if_pos (by omega), if_pos (by omega)] at h1
      simpa using h1⟩, fun cur2 hcur2 q r hr => by
      have := blk_one hcur2 (hg'.below hW hg'.lt)
      subst this
      rw [hke] at hr
      have hql := (List.getElem?_eq_some_iff.1 hr).1
      rw [List.length_take] at hql
      rw [List.getElem?_take, if_pos (by omega)] at hr
      have h1 := refs_two l q r hr
      rw [← htk, List.getElem?_take, List.getElem?_take, if_pos (by omega), if_pos (by omega)] at h1
      simpa using h1⟩
    have H0 := Lib.hid (And.intro h0 hcall)
    have hkc : (k : Int) ≤ 1000 := by omega
    have hcn : (c : Int) ≤ 9223372036854775807 := by unfold maxLen at hcm; omega
    have hne1 : ((k : Int) == -1) = false := by simp
    have hcp : 2 * l.length ≤ 2 * c := by omega
    clear h0 hcall hown hg hg' htk hcs hi hk hke hb0 hcm
    go_enter Tryz.func53, Tryz.ntmps53
    go_wp2_with (go_at_call 79; (with_reducible refine HC.out.mono ?_); rintro e w1 ⟨rfl, hb1⟩)
    have HB1 := Lib.hid hb1
    clear hb1
    go_loopw [5, 6, 7] (fun iv jv _ wr => ∃ i j : Nat, iv = .int .i64 i ∧ jv = .int .i64 j ∧ DelJ g c p l w i j wr) (fun _ jv _ _ => l.length - (intOf jv).toNat)
    case atStart => exact ⟨k, k + 1, rfl, by push_cast; rfl, H0.out.1 _ HB1.out⟩
    case round =>
      obtain ⟨i, j, rfl, rfl, hI⟩ := hrel
      have HI := Lib.hid hI
      have hij := hI.lt
      have hjl := hI.le
      clear hI
      by_cases hlt : j < l.length
      · have hr := List.getElem?_eq_getElem hlt
        generalize l[j] = r at hr
        obtain ⟨cur2, hB, hsz, hcl⟩ := HI.out.row
        obtain ⟨e1, e2⟩ := hcl j r (Nat.le_refl _) hr
        have q1 : wr.cell? ⟨g, j * 2, none⟩ = some (.int .i64 r.1) := (hB.cell _).trans e1
        have q2 : wr.cell? ⟨g, j * 2 + 1, none⟩ = some (.int .i64 r.2) := (hB.cell _).trans e2
        obtain ⟨b, hpb⟩ : ∃ b, p r = b := ⟨_, rfl⟩
        have hal : Below wr.heap.size wr (wr.alloc (.cells #[.int .i64 r.1, .int .i64 r.2] 24)) := (Below.refl _ _).alloc (Nat.le_refl _) _
        have HCC := Lib.hid (H0.out.2 r (List.mem_of_getElem? hr) (wr.alloc (.cells #[.int .i64 r.1, .int .i64 r.2] 24)) ((HI.out.only.trans (Only.of_below hal)).mono (fun k _ e => by subst e; simp [blkOf])))
        rw [hpb] at HCC
        have hBx : Blk (wr.alloc (.cells #[.int .i64 r.1, .int .i64 r.2] 24)) wr.heap.size 24 #[.int .i64 r.1, .int .i64 r.2] := Blk.new _ _ _
        have hgl := hB.lt
        have HX := Lib.hid (And.intro hr (And.intro hpb (And.intro hal (And.intro hBx (And.intro hB (And.intro hsz hcl))))))
        clear hr hpb hal hBx e1 e2 hB hsz hcl
        have hj1 : (j : Int) ≤ 1000 := by omega
        have hi1 : (i : Int) ≤ 1000 := by omega
        obtain ⟨u1, hu1⟩ : ∃ u, cur2[i * 2]? = some u := ⟨_, Array.getElem?_eq_getElem (by have := HX.out.2.2.2.2.2.1; omega)⟩
        obtain ⟨u2, hu2⟩ : ∃ u, cur2[i * 2 + 1]? = some u := ⟨_, Array.getElem?_eq_getElem (by have := HX.out.2.2.2.2.2.1; omega)⟩
        have HU := Lib.hid (fun (w3 : World) (hb3 : Below (wr.alloc (.cells #[.int .i64 r.1, .int .i64 r.2] 24)).heap.size (wr.alloc (.cells #[.int .i64 r.1, .int .i64 r.2] 24)) w3) =>
          have hB3 : Blk w3 g 24 cur2 := (HX.out.2.2.2.2.1.alloc _).below hb3 (HX.out.2.2.2.2.1.alloc _).lt
          (show w3.cell? ⟨g, i * 2, none⟩ = some u1 ∧ w3.cell? ⟨g, i * 2 + 1, none⟩ = some u2 ∧ w3.frozen? ⟨g, i * 2, none⟩ = false ∧ w3.frozen? ⟨g, i * 2 + 1, none⟩ = false ∧ Blk w3 g 24 cur2 from ⟨(hB3.cell _).trans hu1, (hB3.cell _).trans hu2, hB3.frozen _, hB3.frozen _, hB3⟩))
        clear hu1 hu2
        cases b with
        | true =>
          go_wp2_with (go_at_call 55; (with_reducible refine HCC.out.mono ?_); rintro e w3 ⟨rfl, hb3⟩)
          have HEND : DelJ g c p l w i (j + 1) w3 := by
            obtain ⟨hr, hpb, hal, hBx, hB, hsz, hcl⟩ := HX.out
            have hB3 := (HU.out w3 hb3).2.2.2.2
            refine ⟨by omega, by omega, ?_, (HI.out.only.trans (Only.of_below hal)).trans (Only.of_below hb3), ⟨_, hB3, hsz, fun q s hq hs => hcl q s (by omega) hs⟩, fun cur3 h3 q s hs => ?_⟩
            rotate_left
            · have := blk_one h3 hB3
              subst this
              refine HI.out.kept _ hB q s ?_
              rw [List.take_add_one, hr, Option.toList_some, List.filter_append] at hs
              simpa [hpb] using hs
            rw [List.take_add_one, hr, Option.toList_some, keptN_snoc, hpb, if_pos rfl, ← HI.out.cnt]
            rfl
          exact ⟨⟨i, j + 1, rfl, by push_cast; rfl, HEND⟩, by simp [intOf]; omega⟩
        | false =>
          go_wp2_with (go_at_call 55; (with_reducible refine HCC.out.mono ?_); rintro e w3 ⟨rfl, hb3⟩; have y1 := ((HX.out.2.2.2.1.below hb3 HX.out.2.2.2.1.lt).cell 0); have y2 := ((HX.out.2.2.2.1.below hb3 HX.out.2.2.2.1.lt).cell 1); simp at y1 y2; obtain ⟨z1, z2, f1, f2, _⟩ := HU.out w3 hb3)
          have HEND : DelJ g c p l w (i + 1) (j + 1) ((w3.setCell ⟨g, i * 2, none⟩ (.int .i64 r.1)).setCell ⟨g, i * 2 + 1, none⟩ (.int .i64 r.2)) := by
            obtain ⟨hr, hpb, hal, hBx, hB, hsz, hcl⟩ := HX.out
            have hB3 := (HU.out w3 hb3).2.2.2.2
            have ho : Only (· = g) w ((w3.setCell ⟨g, i * 2, none⟩ (.int .i64 r.1)).setCell ⟨g, i * 2 + 1, none⟩ (.int .i64 r.2)) := (((HI.out.only.trans (Only.of_below hal)).trans (Only.of_below hb3)).setCell (p := ⟨g, i * 2, none⟩) rfl _).setCell (p := ⟨g, i * 2 + 1, none⟩) rfl _
            have hq2 : i * 2 + 1 < cur2.size := by omega
            refine ⟨by omega, by omega, ?_, ho, ⟨_, (hB3.set_ _ _).set_ _ _, by simp [hsz], fun q s hq hs => ?_⟩, fun cur3 h3 q s hs => ?_⟩
            · rw [List.take_add_one, hr, Option.toList_some, keptN_snoc, hpb, if_neg (by decide), ← HI.out.cnt]
            rotate_left
            · have := blk_one h3 ((hB3.set_ _ _).set_ _ _)
              subst this
              have hcnt := HI.out.cnt
              unfold keptN at hcnt
              rw [List.take_add_one, hr, Option.toList_some, List.filter_append, List.filter_cons, List.filter_nil, hpb] at hs
              simp only [Bool.not_false, if_true] at hs
              by_cases hqi : q < i
              · rw [List.getElem?_append_left (by omega)] at hs
                have h1 := HI.out.kept _ hB q s hs
                rw [Array.getElem?_setIfInBounds_ne (by omega), Array.getElem?_setIfInBounds_ne (by omega), Array.getElem?_setIfInBounds_ne (by omega), Array.getElem?_setIfInBounds_ne (by omega)]
                exact h1
              · have hqi2 : q = i := by
                  have := (List.getElem?_eq_some_iff.1 hs).1
                  simp at this
                  omega
                subst hqi2
                rw [List.getElem?_append_right (by omega), show q - _ = 0 by omega] at hs
                have : r = s := by simpa using hs
                subst this
                refine ⟨?_, ?_⟩
                · rw [Array.getElem?_setIfInBounds_ne (by omega), Array.getElem?_setIfInBounds_self_of_lt (by omega)]
                · rw [Array.getElem?_setIfInBounds_self_of_lt (by simp; omega)]
            · have h1 := hcl q s (by omega) hs
              rw [Array.getElem?_setIfInBounds_ne (by omega), Array.getElem?_setIfInBounds_ne (by omega), Array.getElem?_setIfInBounds_ne (by omega), Array.getElem?_setIfInBounds_ne (by omega)]
              exact h1
          exact ⟨⟨i + 1, j + 1, by push_cast; rfl, by push_cast; rfl, HEND⟩, by simp [intOf]; omega⟩
      · obtain rfl : j = l.length := by omega
        obtain ⟨m, hm⟩ : ∃ m, l.length - i = m + 1 := ⟨l.length - i - 1, by omega⟩
        obtain ⟨cur2, hB, hsz, hcl⟩ := HI.out.row
        have hs : ∀ w, (Go.sizeOf 24).run Tryz.prog w = .ok 2 w := by intro w; kernel_rfl
        have he : Tryz.prog.elem 49 = 24 := by simp [Program.elem, Tryz.underlying49]
        have hsl1 : ∀ W, (Instr.slice 49 (.slice (some ⟨g, 0, none⟩) l.length c) (some (.int .i64 (i : Int))) none none).run Tryz.prog W = .ok (.slice (some ⟨g, i * 2, none⟩) (m + 1) (c - i)) W := fun W => by
          rw [run_slice_l W 49 _ l.length c (by rw [he]; exact Tryz.underlying49) .i64 (i : Int) (by omega) (by omega), he, hs]
          simp only [Result.andThen, sliced, Int.toNat_natCast]
          rw [if_neg (by omega), hm]
          simp [Addr.add_lit]
        have hsl2 : ∀ W, (Instr.slice 49 (.slice (some ⟨g, 0, none⟩) l.length c) none (some (.int .i64 (i : Int))) none).run Tryz.prog W = .ok (.slice (some ⟨g, 0, none⟩) i c) W := fun W => by
          rw [run_slice_h W 49 _ l.length c (by rw [he]; exact Tryz.underlying49) .i64 i (by omega) (by omega), he, hs]
          simp [Result.andThen, sliced, Addr.add]
        have hzs : (zTwo : Value).cells.size = 2 := by decide
        have hcl1 : ∀ ty, (Builtin.clear_ #[49] ty #[.slice (some ⟨g, i * 2, none⟩) (m + 1) (c - i)]).run Tryz.prog wr = .ok (.tuple #[]) (wr.setCells g (i * 2) (Builtin.zeroCells (zTwo : Value).cells (m + 1)).toList) := fun ty =>
          run_clear_many wr _ _ ty zTwo Tryz.underlying49 (by intro w; kernel_rfl) g (i * 2) _ m (by decide) (by decide) (fun q hq => by
            rw [hzs] at hq
            rw [hB.cell, Array.getElem?_eq_getElem (by omega)]
            rfl) (fun q _ => hB.frozen _)
        have HCL := Lib.hid hcl1
        have hzl : (Builtin.zeroCells (zTwo : Value).cells (m + 1)).toList.length = (m + 1) * 2 := by simp [Builtin.zeroCells, hzs]
        have hsl : SlAt (wr.setCells g (i * 2) (Builtin.zeroCells (zTwo : Value).cells (m + 1)).toList) (some ⟨g, 0, none⟩) (refs (l.filter fun r => !p r)) := by
          have hk := HI.out.kept _ hB
          rw [List.take_length] at hk
          have hcn2 := HI.out.cnt
          rw [List.take_length] at hcn2
          unfold keptN at hcn2
          have hB2 := (Blk.setCells_ (Builtin.zeroCells (zTwo : Value).cells (m + 1)).toList wr (i * 2) cur2 hB).1
          refine .inr ⟨g, 0, rfl, fun q u hu => ?_⟩
          have hql := (List.getElem?_eq_some_iff.1 hu).1
          rw [refs_length] at hql
          rw [Nat.zero_add, hB2.cell, setL_get _ _ _ _ (by rw [hzl]; omega), if_neg (by omega), ← hu]
          obtain ⟨s, hs⟩ : ∃ s, (l.filter fun r => !p r)[q / 2]? = some s := ⟨_, List.getElem?_eq_getElem (by omega)⟩
          have h1 := hk _ s hs
          have h2 := refs_two _ _ s hs
          rcases Nat.mod_two_eq_zero_or_one q with h | h
          · rw [show q = q / 2 * 2 by omega]
            exact h1.1.trans h2.1.symm
          · rw [show q = q / 2 * 2 + 1 by omega]
            exact h1.2.trans h2.2.symm
        have HEND := Lib.hid (And.intro (HI.out.only.trans (setCells_only (Builtin.zeroCells (zTwo : Value).cells (m + 1)).toList wr g (i * 2))) hsl)
        have hi1 : (i : Int) ≤ 1000 := by omega
        have HCNT := Lib.hid HI.out.cnt
        clear hs he hcl1 hm hB hsz hcl hzs hzl hsl
        obtain ⟨W9, hW9⟩ : ∃ W9, W9 = wr.setCells g (i * 2) (Builtin.zeroCells (zTwo : Value).cells (m + 1)).toList := ⟨_, rfl⟩
        rw [← hW9] at HCL HEND
        clear hW9
        go_wp2_with (first | ((with_reducible refine wpList_clear_run (o := ⟨none, _, _, _, _, _⟩) _ ?g1 (.tmp 38) 49 ?g2 (.slice (some ⟨g, i * 2, none⟩) (m + 1) (c - i)) ?g3 (HCL.out _) ?_); (case g1 => rfl); (case g2 => rfl); (case g3 => rfl)) | fail)
        go_ret
        refine ⟨c, ?_, HEND.out.1.mono (fun k _ e => by subst e; simp [blkOf]), HEND.out.2⟩
        have := HCNT.out
        rw [List.take_length] at this
        rw [← this]
        rfl
end Go.Proofs.YteknflimfdkhoaaGreat
