/- state.State.Seen, where all elements have a value: a contract. doc.indexed, where an index is good and all elements have a value: a contract. -/
import Derived.Test.YteknflimfdkhoaaGreatDg43
import Derived.Test.YteknflimfdkhoaaGreatDg24
import Derived.Test.YteknflimfdkhoaaGreatDg27
namespace Go.Proofs.YteknflimfdkhoaaGreat
open Go.RowKit Go.Maps Go.Sort
set_option linter.unusedVariables false
set_option linter.unusedSimpArgs false

/-- An element that has a value. -/
def HasV (s : Sta) (obj n : Int × Int) : Prop := ∃ f k v, s.vals (obj, ⟨#[]⟩, n) = some f ∧ I2 k ∧ f k = some v
theorem vm_some {w : World} {m N : Nat} {f : Vm} (h : VmAt w m f N) {k : Int × Int} {v : JV} (hk : I2 k) (hf : f k = some v) : ∃ Dm, w.ownsMap Tryz.prog 24 anyElem m (Maps.size Dm) Dm ∧ Maps.size Dm ≠ 0 := by
  obtain ⟨Dm, h1, h2, _⟩ := h
  refine ⟨Dm, h1, fun e => ?_⟩
  have h3 := h2 k hk
  rw [hf] at h3
  have hD := World.ownsMap.isMap h1
  obtain ⟨l, rfl⟩ : ∃ l, Dm = .map l := hD
  have : l = [] := List.eq_nil_of_length_eq_zero e
  subst this
  cases h3
set_option maxRecDepth 100000 in
set_option maxHeartbeats 4000000 in
theorem seen1_any (B sb kb vb ib lb N g1 g2 : Nat) (s : Sta) (obj r : Int × Int) (w : World) (H : StM w B sb kb vb ib lb N s) (hob : I2 obj) (hr : I2 r) (hv : HasV s obj r) (h1 : Blk w g1 69 #[.pointer (some ⟨sb, 0, none⟩)]) (h2 : Blk w g2 24 #[.int .i64 obj.1, .int .i64 obj.2]) (hN : N ≤ 100000) :
    Calls Tryz.prog 55 #[.agg #[.int .i64 r.1, .int .i64 r.2], .pointer (some ⟨g1, 0, none⟩), .pointer (some ⟨g2, 0, none⟩)] w fun e w' => e = .returned (.bool false) ∧ Below w.heap.size w w' := by
  obtain ⟨W0, hW0⟩ : ∃ W0, W0 = w.alloc (.cells #[.int .i64 r.1, .int .i64 r.2] 24) := ⟨_, rfl⟩
  have hb0 : Below w.heap.size w W0 := by rw [hW0]; exact (Below.refl _ _).alloc (Nat.le_refl _) _
  have hN0 : Blk W0 w.heap.size 24 #[.int .i64 r.1, .int .i64 r.2] := by rw [hW0]; exact Blk.new _ _ _
  obtain ⟨f, k, v, hf, hk, hfk⟩ := hv
  obtain ⟨m, m1, _, _, _, _, m6, _⟩ := (H.below hb0).val hf ⟨hob, Nat.zero_le _, hr⟩
  obtain ⟨Dm, d1, d2⟩ := vm_some m1 hk hfk
  obtain ⟨z, hz⟩ : ∃ z, Maps.size Dm = z := ⟨_, rfl⟩
  have hz0 : z ≠ 0 := hz ▸ d2
  have hzi : ((z : Int) == 0) = false := by simpa using hz0
  have hl : ∀ W, Below W0.heap.size W0 W → W.cell? ⟨g1, 0, none⟩ = some (.pointer (some ⟨sb, 0, none⟩)) ∧ W.cell? ⟨sb, 1, none⟩ = some (.map (some vb)) ∧ W.cell? ⟨g2, 0, none⟩ = some (.int .i64 obj.1) ∧ W.cell? ⟨g2, 1, none⟩ = some (.int .i64 obj.2) ∧ W.cell? ⟨w.heap.size, 0, none⟩ = some (.int .i64 r.1) ∧ W.cell? ⟨w.heap.size, 1, none⟩ = some (.int .i64 r.2) ∧ (Instr.lookup 72 (.map (some vb)) (.agg #[.int .i64 obj.1, .int .i64 obj.2, .string ⟨#[]⟩, .int .i64 r.1, .int .i64 r.2]) false).run Tryz.prog W = .ok (.map (some m)) W ∧ (∀ ty, (Builtin.len_ #[110] ty #[.map (some m)]).run Tryz.prog W = .ok (.int .i64 z) W) := fun W hW => by
    have hb := hb0.trans (hW.mono hb0.size)
    refine ⟨(h1.below hb h1.lt).cell 0, (H.blk.below hb H.blk.lt).cell 1, (h2.below hb h2.lt).cell 0, (h2.below hb h2.lt).cell 1, (hN0.below hW hN0.lt).cell 0, (hN0.below hW hN0.lt).cell 1, m6 W (Only.of_below hW), fun ty => ?_⟩
    have := World.ownsMap.len (w := W) (own_only d1 (Only.of_below (S := fun _ => False) hW) (fun h => h)) Tryz.underlying110 ty
    rw [hz] at this
    exact this
  have HL := Lib.hid hl
  have HB := Lib.hid (And.intro hb0 hW0)
  have HLN := Lib.hid (hl W0.drew (Below.refl _ W0).drew).2.2.2.2.2.2.2
  obtain ⟨a1, a2, a3, a4, a5, a6, a7, a8⟩ := hl W0 (Below.refl _ _)
  obtain ⟨_, _, _, _, _, _, b7, b8⟩ := hl W0.drew (Below.refl _ _).drew
  clear H hob hr h1 h2 hN hb0 hN0 hf hk hfk m1 m6 d1 d2 hz hl hW0
  go_enter Tryz.func55, Tryz.ntmps55
  go_upto_region 1 with (fail)
  rw [← HB.out.2]
  go_region_held3 (fun w' => w'.cell? ⟨g1, 0, none⟩ = some (.pointer (some ⟨sb, 0, none⟩)) ∧ w'.cell? ⟨sb, 1, none⟩ = some (.map (some vb)) ∧ w'.cell? ⟨g2, 0, none⟩ = some (.int .i64 obj.1) ∧ w'.cell? ⟨g2, 1, none⟩ = some (.int .i64 obj.2) ∧ w'.cell? ⟨w.heap.size, 0, none⟩ = some (.int .i64 r.1) ∧ w'.cell? ⟨w.heap.size, 1, none⟩ = some (.int .i64 r.2) ∧ (Instr.lookup 72 (.map (some vb)) (.agg #[.int .i64 obj.1, .int .i64 obj.2, .string ⟨#[]⟩, .int .i64 r.1, .int .i64 r.2]) false).run Tryz.prog w' = .ok (.map (some m)) w' ∧ (∀ ty, (Builtin.len_ #[110] ty #[.map (some m)]).run Tryz.prog w' = .ok (.int .i64 z) w')) (first | (with_reducible exact HL.out _ (Below.refl _ W0).drew) | go_keep) (first | fail)
  all_goals
    go_wp2_with fail
    go_ret
    exact ⟨rfl, HB.out.1.drew⟩
/-- What Seen answers. -/
def SeenQ (w : World) (l : List (Int × Int)) (e : Ending) (w' : World) : Prop := ∃ (A : Option Addr) (c : Nat), e = .returned (.slice A l.length c) ∧ SlAt w' A (refs l) ∧ Below w.heap.size w w' ∧ (∀ n ∈ l, I2 n) ∧ ∀ b ∈ blkOf A, w.heap.size ≤ b
set_option maxRecDepth 100000 in
set_option maxHeartbeats 4000000 in
theorem seen_any (B sb kb vb ib lb N F : Nat) (s : Sta) (obj : Int × Int) (w : World) (H : StM w B sb kb vb ib lb N s) (hob : I2 obj) (hd : doneE s obj F [(0, 0)]) (hF : F ≤ 1000) (hv : ∀ n ∈ elemsF s obj F [(0, 0)], HasV s obj n) (hN : N ≤ 100000) :
    Calls Tryz.prog 25 #[.pointer (some ⟨sb, 0, none⟩), .agg #[.int .i64 obj.1, .int .i64 obj.2]] w (SeenQ w (elemsF s obj F [(0, 0)])) := by
  obtain ⟨W0, hW0⟩ : ∃ W0, W0 = (w.alloc (.cells #[.pointer (some ⟨sb, 0, none⟩)] 69)).alloc (.cells #[.int .i64 obj.1, .int .i64 obj.2] 24) := ⟨_, rfl⟩
  have hb0 : Below w.heap.size w W0 := by rw [hW0]; exact ((Below.refl _ _).alloc (Nat.le_refl _) _).alloc (by simp) _
  have hP0 : Blk W0 w.heap.size 69 #[.pointer (some ⟨sb, 0, none⟩)] := by rw [hW0]; exact (Blk.new w _ _).alloc _
  have hI0 : Blk W0 (w.heap.size + 1) 24 #[.int .i64 obj.1, .int .i64 obj.2] := by rw [hW0]; exact Blk.newer _ _ _ (by simp)
  obtain ⟨l, hl⟩ : ∃ l, l = elemsF s obj F [(0, 0)] := ⟨_, rfl⟩
  rw [← hl] at hv ⊢
  have hll : l.length ≤ 1000 := by rw [hl]; exact Nat.le_trans (elemsF_len s obj F _) hF
  have HE := Lib.hid (show Calls Tryz.prog 54 #[.pointer (some ⟨sb, 0, none⟩), .agg #[.int .i64 obj.1, .int .i64 obj.2]] W0 (ElemsQ W0 l) from by rw [hl]; exact elements_any B sb kb vb ib lb N F s obj W0 (H.below hb0) hob hd hF)
  have HH := Lib.hid (And.intro H (And.intro hob (And.intro hv (And.intro hN (And.intro hb0 (And.intro hP0 (And.intro hI0 hll)))))))
  have HW := Lib.hid hW0
  have q0 : W0.cell? ⟨w.heap.size, 0, none⟩ = some (.pointer (some ⟨sb, 0, none⟩)) := hP0.cell 0
  have q1 : W0.cell? ⟨w.heap.size + 1, 0, none⟩ = some (.int .i64 obj.1) := hI0.cell 0
  have q2 : W0.cell? ⟨w.heap.size + 1, 1, none⟩ = some (.int .i64 obj.2) := hI0.cell 1
  clear H hob hd hv hN hb0 hP0 hI0 hW0 hl
  go_enter Tryz.func25, Tryz.ntmps25
  go_upto_region 1 with (fail)
  rw [← HW.out]
  clear HW
  go_wp2_with (first
    | (go_at_call 54; (with_reducible refine HE.out.mono ?_); (rintro e w1 ⟨A, c, rfl, hown, hb1, hi1⟩); (have H1 := Lib.hid (And.intro hown (And.intro hb1 hi1))); clear hown hb1 hi1)
    | (go_at_call 53; (with_reducible refine (delI_any (.pointer (some ⟨w.heap.size, 0, none⟩)) (.pointer (some ⟨w.heap.size + 1, 0, none⟩)) (fun _ => false) l A c w1 (rowS_base H1.out.1 (fun _ _ => Nat.zero_le _)) HH.out.2.2.2.2.2.2.2 ?hc).mono ?_); (case hc => exact (fun r hr W hW => by
        have hbW : Below W0.heap.size W0 W := H1.out.2.1.trans (hW.below H1.out.2.1.size (fun k hk e => by
          have e : k ∈ blkOf A := e
          cases A with
          | none => cases e
          | some a =>
            have h1 := (H1.out.1.lt a.block rfl).1
            simp [blkOf] at e
            omega))
        exact seen1_any B sb kb vb ib lb N w.heap.size (w.heap.size + 1) s obj r W (HH.out.1.below (HH.out.2.2.2.2.1.trans (hbW.mono HH.out.2.2.2.2.1.size))) HH.out.2.1 (H1.out.2.2 r hr) (HH.out.2.2.1 r hr) (HH.out.2.2.2.2.2.1.below hbW HH.out.2.2.2.2.2.1.lt) (HH.out.2.2.2.2.2.2.1.below hbW HH.out.2.2.2.2.2.2.1.lt) HH.out.2.2.2.1)); (rintro e w2 ⟨c', rfl, ho2, hs2⟩); (have H2 := Lib.hid (And.intro ho2 hs2)); clear ho2 hs2))
  go_ret
  have hk : keptN (fun _ => false) l = l.length := by unfold keptN; simp
  have hf : (l.filter fun r => !(fun _ : Int × Int => false) r) = l := by simp
  have hs2 := H2.out.2
  rw [hf] at hs2
  refine ⟨A, c', by rw [hk]; rfl, hs2, (HH.out.2.2.2.2.1.trans (H1.out.2.1.mono HH.out.2.2.2.2.1.size)).trans (H2.out.1.below (by have := H1.out.2.1.size; have := HH.out.2.2.2.2.1.size; omega) (fun k hk e => ?_)), H1.out.2.2, fun b hb => ?_⟩
  rotate_left
  · cases A with
    | none => cases hb
    | some a =>
      have h1 := (H1.out.1.lt a.block rfl).1
      have h2 := HH.out.2.2.2.2.1.size
      simp [blkOf] at hb
      omega
  have e : k ∈ blkOf A := e
  cases A with
  | none => cases e
  | some a =>
    have h1 := (H1.out.1.lt a.block rfl).1
    have h2 := HH.out.2.2.2.2.1.size
    simp [blkOf] at e
    omega
end Go.Proofs.YteknflimfdkhoaaGreat
namespace Go.Proofs.YteknflimfdkhoaaGreat
open Go.RowKit Go.Maps Go.Sort
set_option linter.unusedVariables false
set_option linter.unusedSimpArgs false

/-- What indexed answers. -/
def IndexQ (w : World) (l : List (Int × Int)) (e : Ending) (w' : World) : Prop := ∃ (A : Option Addr) (c : Nat), e = .returned (.tuple #[.slice A l.length c, .nilIface]) ∧ SlAt w' A (refs l) ∧ Below w.heap.size w w' ∧ (∀ n ∈ l, I2 n) ∧ ∀ b ∈ blkOf A, w.heap.size ≤ b
set_option maxRecDepth 100000 in
set_option maxHeartbeats 1000000 in
theorem indexed_ok (B sb kb vb ib lb N F : Nat) (s : Sta) (obj : Int × Int) (at_ more : Int) (l : List (Int × Int)) (w : World) (H : StM w B sb kb vb ib lb N s) (hob : I2 obj) (hd : doneE s obj F [(0, 0)]) (hF : F ≤ 1000) (hv : ∀ n ∈ elemsF s obj F [(0, 0)], HasV s obj n) (hN : N ≤ 100000)
    (hl : elemsF s obj F [(0, 0)] = l) (hk : s.kinds obj = some 6) (h0 : 0 ≤ at_) (h1 : at_ < (l.length : Int) + more) (hm : 0 ≤ more ∧ more ≤ 1) :
    Calls Tryz.prog 26 #[.pointer (some ⟨sb, 0, none⟩), .agg #[.int .i64 obj.1, .int .i64 obj.2], .int .i64 at_, .int .i64 more] w (IndexQ w l) := by
  obtain ⟨W0, hW0⟩ : ∃ W0, W0 = w.alloc (.cells #[.int .i64 obj.1, .int .i64 obj.2] 24) := ⟨_, rfl⟩
  have hb0 : Below w.heap.size w W0 := by rw [hW0]; exact (Below.refl _ _).alloc (Nat.le_refl _) _
  have hI0 : Blk W0 w.heap.size 24 #[.int .i64 obj.1, .int .i64 obj.2] := by rw [hW0]; exact Blk.new _ _ _
  have hll : l.length ≤ 1000 := by rw [← hl]; exact Nat.le_trans (elemsF_len s obj F _) hF
  have hS : ∀ W, Below W0.heap.size W0 W → W.cell? ⟨sb, 0, none⟩ = some (.map (some kb)) ∧ W.cell? ⟨w.heap.size, 0, none⟩ = some (.int .i64 obj.1) ∧ W.cell? ⟨w.heap.size, 1, none⟩ = some (.int .i64 obj.2) ∧
      (Instr.lookup 71 (.map (some kb)) (.agg #[.int .i64 obj.1, .int .i64 obj.2]) true).run Tryz.prog W = .ok (.tuple #[.int .i64 6, .bool true]) W := fun W hW => by
    have h2 := (H.below hb0).below hW
    have hN2 := hI0.below hW hI0.lt
    refine ⟨h2.blk.cell 0, hN2.cell 0, hN2.cell 1, ?_⟩
    have := h2.look_kind hob
    rw [hk] at this
    exact this
  have HSE := Lib.hid (show ∀ W, Below W0.heap.size W0 W → Calls Tryz.prog 25 #[.pointer (some ⟨sb, 0, none⟩), .agg #[.int .i64 obj.1, .int .i64 obj.2]] W (SeenQ W l) from fun W hW => by
    rw [← hl]
    exact seen_any B sb kb vb ib lb N F s obj W ((H.below hb0).below hW) hob hd hF hv hN)
  have HKS := Lib.hid hS
  have HB := Lib.hid (And.intro hb0 (And.intro hI0 hW0))
  obtain ⟨p1, p2, p3, p4⟩ := hS W0 (Below.refl _ _)
  have r2 : W0.drew.cell? ⟨w.heap.size, 0, none⟩ = some (.int .i64 obj.1) := p2
  have r3 : W0.drew.cell? ⟨w.heap.size, 1, none⟩ = some (.int .i64 obj.2) := p3
  have g1 : decide (at_ < 0) = false := decide_eq_false (by omega)
  have g2 : decide ((l.length : Int) + more ≤ at_) = false := decide_eq_false (by omega)
  have g3 : IntKind.i64.wrap ((l.length : Int) + more) = (l.length : Int) + more := by rw [IntKind.wrap_i64]; omega
  have g4 : wrap64 ((l.length : Int) + more) = (l.length : Int) + more := by unfold wrap64; omega
  clear H hob hd hv hb0 hI0 hS hk hl hW0
  go_enter Tryz.func26, Tryz.ntmps26
  go_upto_region 1 with (fail)
  rw [← HB.out.2.2]
  go_region_held3 (fun w' => w'.cell? ⟨sb, 0, none⟩ = some (.map (some kb)) ∧ w'.cell? ⟨w.heap.size, 0, none⟩ = some (.int .i64 obj.1) ∧ w'.cell? ⟨w.heap.size, 1, none⟩ = some (.int .i64 obj.2) ∧ (Instr.lookup 71 (.map (some kb)) (.agg #[.int .i64 obj.1, .int .i64 obj.2]) true).run Tryz.prog w' = .ok (.tuple #[.int .i64 6, .bool true]) w')
    (first | (with_reducible exact HKS.out _ (Below.refl _ W0).drew) | go_keep) (first | fail)
  all_goals
    go_wp2_with (go_at_call 25; (with_reducible refine (HSE.out _ (Below.refl _ W0).drew).mono ?_); (rintro e w1 ⟨A, c, rfl, hs1, hb1, hi1, hlo1⟩); (have H1 := Lib.hid (And.intro hs1 (And.intro hb1 (And.intro hi1 hlo1)))); clear hs1 hb1 hi1 hlo1)
    go_ret2
    exact ⟨A, c, rfl, H1.out.1, (HB.out.1.trans (((Below.refl W0.heap.size W0).drew.trans H1.out.2.1).mono HB.out.1.size)), H1.out.2.2.1, fun b hb => Nat.le_trans HB.out.1.size (H1.out.2.2.2 b hb)⟩
end Go.Proofs.YteknflimfdkhoaaGreat
