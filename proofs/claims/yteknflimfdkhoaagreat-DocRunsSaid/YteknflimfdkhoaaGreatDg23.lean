/- dag.Book.put: a contract, exact. A book, described exactly: what it has, what waits, what is behind what. -/
import Derived.Test.YteknflimfdkhoaaGreatDg16
import Derived.Test.YteknflimfdkhoaaGreatDg4
import Derived.Test.YteknflimfdkhoaaGreatDg21
namespace Go.Proofs.YteknflimfdkhoaaGreat
open Go.RowKit Go.Maps
set_option linter.unusedVariables false
set_option linter.unusedSimpArgs false

/-- The keys of a map. -/
def KeyPred (D : DataW Value) (S : Int × Int → Prop) : Prop := ∀ s, I2 s → ((mget D s).isSome = true ↔ S s)
/-- What stands behind each change, exactly. -/
def BehX (w : World) (h wt bh : Nat) (Dh Db : DataW Value) (beh : Int × Int → List (Int × Int)) : Prop :=
  ∀ r, I2 r → ∀ v, mget Db r = some v → ∃ m Dm, v = .map (some m) ∧ OM w m Dm ∧ m ≠ h ∧ m ≠ wt ∧ m ≠ bh ∧ (∀ s, I2 s → ∀ u, mget Dm s = some u → u = .bool true ∧ hasB Dh s = true) ∧ KeyPred Dm (fun s => s ∈ beh r)
theorem BehX.ok {w : World} {h wt bh : Nat} {Dh Db : DataW Value} {beh : Int × Int → List (Int × Int)} (H : BehX w h wt bh Dh Db beh) : BehOk w h wt bh Dh Db := fun r hr v hv => by
  obtain ⟨m, Dm, e1, e2, e3, e4, e5, e6, _⟩ := H r hr v hv
  exact ⟨m, Dm, e1, e2, e3, e4, e5, e6⟩
/-- What put does. -/
def PutQX (w : World) (bk h wt bh : Nat) (Dh Dw Db : DataW Value) (beh : Int × Int → List (Int × Int)) (c : PCh) (e : Ending) (w' : World) : Prop :=
  ∃ m Dm, e = .returned (.tuple #[]) ∧ BkM w' bk h wt bh (Dh.put (rlit c.ref) (.held c.value)) Dw (Db.put (rlit c.ref) (.held (.map (some m)))) ∧ OM w' m Dm ∧ w.heap.size ≤ m ∧ Cont Dh c.ref Dm ∧ KeyPred Dm (fun s => s = c.ref ∨ ∃ d ∈ c.deps, s ∈ beh d) ∧ Only (fun i => i = h ∨ i = bh) w w'
/-- .. and what is put into the new past. -/
def PutIX (W4 W : World) (Dh : DataW Value) (r : Int × Int) (m : Nat) (S : Int × Int → Prop) : Prop := ∃ Dm, OM W m Dm ∧ Cont Dh r Dm ∧ KeyPred Dm S ∧ Only (fun i => i = m) W4 W
theorem PutIX.new {W4 W W' : World} {Dh : DataW Value} {r : Int × Int} {m : Nat} {S : Int × Int → Prop} (h : PutIX W4 W Dh r m S) (hb : Below W.heap.size W W') : PutIX W4 W' Dh r m S := by
  obtain ⟨Dm, h1, h2, hk, h3⟩ := h
  exact ⟨Dm, h1.below hb, h2, hk, h3.trans (Only.of_below hb)⟩
theorem PutIX.loose {W4 W : World} {Dh : DataW Value} {r : Int × Int} {m : Nat} {S : Int × Int → Prop} (h : PutIX W4 W Dh r m S) : PutI W4 W Dh r m := by
  obtain ⟨Dm, h1, h2, hk, h3⟩ := h
  exact ⟨Dm, h1, h2, h3⟩
theorem PutIX.imp {W4 W : World} {Dh : DataW Value} {r : Int × Int} {m : Nat} {S T : Int × Int → Prop} (h : PutIX W4 W Dh r m S) (hi : ∀ s, I2 s → (S s ↔ T s)) : PutIX W4 W Dh r m T := by
  obtain ⟨Dm, h1, h2, hk, h3⟩ := h
  exact ⟨Dm, h1, h2, fun s hs => (hk s hs).trans (hi s hs), h3⟩
/-- What is in the past that grows, behind k of those it hangs on. -/
def SK (p : Int × Int → Prop) (deps : List (Int × Int)) (beh : Int × Int → List (Int × Int)) (k : Nat) (s : Int × Int) : Prop := p s ∨ ∃ d ∈ deps.take k, s ∈ beh d
theorem SK_next {p : Int × Int → Prop} {d : Int × Int} {deps : List (Int × Int)} {beh : Int × Int → List (Int × Int)} {k : Nat} (hd : deps[k]? = some d) (s : Int × Int) : SK p deps beh (k + 1) s ↔ SK p deps beh k s ∨ s ∈ beh d := by
  unfold SK
  rw [List.take_add_one, hd]
  simp only [Option.toList_some, List.mem_append, List.mem_singleton]
  constructor
  · rintro (h | ⟨x, h | rfl, h2⟩)
    · exact .inl (.inl h)
    · exact .inl (.inr ⟨x, h, h2⟩)
    · exact .inr h2
  · rintro ((h | ⟨x, h, h2⟩) | h)
    · exact .inl h
    · exact .inr ⟨x, .inl h, h2⟩
    · exact .inr ⟨d, .inr rfl, h⟩
theorem SK_all {p : Int × Int → Prop} {deps : List (Int × Int)} {beh : Int × Int → List (Int × Int)} (s : Int × Int) : SK p deps beh deps.length s ↔ (p s ∨ ∃ d ∈ deps, s ∈ beh d) := by
  unfold SK
  rw [List.take_length]
/-- .. and part of the past of the next one. -/
def SV (S : Int × Int → Prop) (b : List (Int × Int)) (left : Lit → Bool) (s : Int × Int) : Prop := S s ∨ (s ∈ b ∧ left (rlit s) = false)
theorem PutIX.start {W4 W : World} {Dh Dd : DataW Value} {r : Int × Int} {m md : Nat} {S : Int × Int → Prop} {b : List (Int × Int)} (h : PutIX W4 W Dh r m S) {w : World} (hd : OM w md Dd) (hk : KeyPred Dd (fun s => s ∈ b)) {left : Lit → Bool} (hl : ∀ s, I2 s → left (rlit s) = hasB Dd s) : PutIX W4 W Dh r m (SV S b left) :=
  h.imp fun s hs => ⟨.inl, fun e => e.elim id (fun e => by
    rw [hl s hs] at e
    have := (hk s hs).2 e.1
    unfold hasB at e
    rw [this] at e
    exact absurd e.2 (by decide))⟩
theorem PutIX.done {W4 W : World} {Dh : DataW Value} {p : Int × Int → Prop} {r d : Int × Int} {m : Nat} {deps : List (Int × Int)} {beh : Int × Int → List (Int × Int)} {k : Nat} {left : Lit → Bool} (h : PutIX W4 W Dh r m (SV (SK p deps beh k) (beh d) left)) (hd : deps[k]? = some d) (hl : ∀ kl, left kl = false) : PutIX W4 W Dh r m (SK p deps beh (k + 1)) :=
  h.imp fun s hs => by
    rw [SK_next hd]
    unfold SV
    rw [hl]
    simp
theorem KeyPred.step {w : World} {m : Nat} {Dm : DataW Value} {S : Int × Int → Prop} {b : List (Int × Int)} {left : Lit → Bool} {x : Int × Int} (h : KeyPred Dm (SV S b left)) (hm : OM w m Dm) (hx : I2 x) (hb : x ∈ b) (v : Value) : KeyPred (Dm.put (rlit x) (.held v)) (SV S b (fun z => left z && !z.sameKey (rlit x))) := by
  intro s hs
  rw [hm.get_put hx hs]
  unfold SV
  simp only []
  rw [left_struck pairRef hx hs]
  by_cases e : s = x
  · subst e
    simp [hb]
  · rw [if_neg e]
    have := h s hs
    unfold SV at this
    rw [this]
    simp [e]

set_option maxRecDepth 100000 in
set_option maxHeartbeats 4000000 in
theorem put_is (bk h wt bh : Nat) (Dh Dw Db : DataW Value) (beh : Int × Int → List (Int × Int)) (c : PCh) (w : World) (H : BkM w bk h wt bh Dh Dw Db) (hB : BehX w h wt bh Dh Db beh) (hc : InC w c) (hr : I2 c.ref) (hsz : Maps.size Dh ≤ 1000) (hsb : Maps.size Db ≤ 1000)
    (hall : ∀ d ∈ c.deps, (mget Db d).isSome = true) :
    Calls Tryz.prog 49 #[.pointer (some ⟨bk, 0, none⟩), .agg #[.int .i64 c.actor, .int .i64 c.seq, .int .i64 c.start, .slice c.dA c.deps.length c.dc, .slice c.oA c.ops.length c.oc]] w (PutQX w bk h wt bh Dh Dw Db beh c) := by
  have hmm := @run_makeMap Tryz.prog
  obtain ⟨W0, hW0⟩ : ∃ W0, W0 = w.alloc (.cells #[.int .i64 c.actor, .int .i64 c.seq, .int .i64 c.start, .slice c.dA c.deps.length c.dc, .slice c.oA c.ops.length c.oc] 65) := ⟨_, rfl⟩
  have hb0 : CB w c W0 := by rw [hW0]; exact ⟨(Below.refl _ _).alloc (Nat.le_refl _) _, Blk.new _ _ _⟩
  have H0 := Lib.hid (And.intro hb0 (And.intro H (And.intro hB (And.intro hc (And.intro hr (And.intro hsz (And.intro hsb hall)))))))
  have HW0 := Lib.hid hW0
  clear hb0 H hB hc hr hsz hsb hall hW0
  go_enter Tryz.func49, Tryz.ntmps49
  go_wp2_with (go_at_call 21; refine (changeRef_any c _).mono ?_; rintro e w1 ⟨rfl, hb1⟩)
  rw [← HW0.out] at hb1
  have HC1 := Lib.hid (H0.out.1.new hb1)
  clear hb1
  obtain ⟨W2, hW2⟩ : ∃ W2, W2 = w1.alloc (.cells #[.int .i64 c.actor, .int .i64 c.seq] 33) := ⟨_, rfl⟩
  rw [← hW2]
  have hC2 : CB w c W2 := HC1.out.new (by rw [hW2]; exact (Below.refl _ _).alloc (Nat.le_refl _) _)
  have hR2 : Blk W2 w1.heap.size 33 #[.int .i64 c.actor, .int .i64 c.seq] := by rw [hW2]; exact Blk.new _ _ _
  have hM2 := H0.out.2.1.below hC2.bel
  have HC2 := Lib.hid (And.intro hC2 (And.intro hR2 hM2))
  have p0 : W2.cell? ⟨bk, 0, none⟩ = some (.map (some h)) := hM2.blk.cell 0
  have p1 : W2.cell? ⟨w1.heap.size, 0, none⟩ = some (.int .i64 c.actor) := hR2.cell 0
  have p2 : W2.cell? ⟨w1.heap.size, 1, none⟩ = some (.int .i64 c.seq) := hR2.cell 1
  have p3 : W2.cell? ⟨w.heap.size, 0, none⟩ = some (.int .i64 c.actor) := hC2.blk.cell 0
  have p4 : W2.cell? ⟨w.heap.size, 1, none⟩ = some (.int .i64 c.seq) := hC2.blk.cell 1
  have p5 : W2.cell? ⟨w.heap.size, 2, none⟩ = some (.int .i64 c.start) := hC2.blk.cell 2
  have p6 : W2.cell? ⟨w.heap.size, 3, none⟩ = some (.slice c.dA c.deps.length c.dc) := hC2.blk.cell 3
  have p7 : W2.cell? ⟨w.heap.size, 4, none⟩ = some (.slice c.oA c.ops.length c.oc) := hC2.blk.cell 4
  clear hC2 hR2 hM2 hW2
  go_still_tail 6, (by kernel_rfl)
  change wpList _ _ _ _ _ W2.drew
  refine wpList_upd _ rfl _ _ _ 93 rfl 33 65 pairRef Tryz.underlying93 h _ Dh rfl (show W2.drew.ownsMap Tryz.prog 33 anyElem h (Maps.size Dh) Dh from HC2.out.2.2.has) (by have := H0.out.2.2.2.2.2.1; unfold maxLen; omega) c.ref rfl H0.out.2.2.2.2.1 c.value rfl ?_
  intro W3 hm3 ho3 hs3
  clear p0 p1 p2 p3 p4 p5 p6 p7
  have hnb := HC2.out.2.2.nbk
  have hM3 : BkM W3 bk h wt bh (Dh.put (rlit c.ref) (.held c.value)) Dw Db := by
    obtain ⟨hC2, hR2, hM2⟩ := HC2.out
    refine ⟨(show Blk W2.drew bk _ _ from hM2.blk).only ho3 (by exact hnb.1), OM.of hm3, (show OM W2.drew wt Dw from hM2.wts).only ho3 (fun e => hM2.n1 e.symm), (show OM W2.drew bh Db from hM2.beh).only ho3 (fun e => hM2.n2 e.symm), hM2.n1, hM2.n2, hM2.n3⟩
  have hhl := H0.out.2.1.has.lt
  have hR3 : Blk W3 w1.heap.size 33 #[.int .i64 c.actor, .int .i64 c.seq] := (show Blk W2.drew _ _ _ from HC2.out.2.1).only ho3 (by have := HC1.out.bel.size; show w1.heap.size ≠ h; omega)
  have hC3 : Blk W3 w.heap.size 65 #[.int .i64 c.actor, .int .i64 c.seq, .int .i64 c.start, .slice c.dA c.deps.length c.dc, .slice c.oA c.ops.length c.oc] := (show Blk W2.drew _ _ _ from HC2.out.1.blk).only ho3 (by show w.heap.size ≠ h; omega)
  have hO3 : Only (fun i => i = h) w W3 := by
    have h1 : Only (fun i => i = h) w W2.drew := (Only.of_below HC2.out.1.bel).drew
    exact h1.trans ho3
  have H3 := Lib.hid (And.intro hM3 (And.intro hR3 (And.intro hC3 hO3)))
  have a1 : (W3.alloc (.map #[] 0)).cell? ⟨w1.heap.size, 0, none⟩ = some (.int .i64 c.actor) := (hR3.alloc _).cell 0
  have a2 : (W3.alloc (.map #[] 0)).cell? ⟨w1.heap.size, 1, none⟩ = some (.int .i64 c.seq) := (hR3.alloc _).cell 1
  clear hM3 hR3 hC3 hO3 hm3 ho3 hs3 hnb
  go_wp2_with (first
    | (with_reducible refine wpList_ins _ rfl _ _ _ 92 rfl 33 4 pairRef Tryz.underlying92 W3.heap.size 0 (.map []) rfl (World.ownsMap_made W3 _ _ _) (by unfold maxLen; omega) c.ref rfl H0.out.2.2.2.2.1 (.bool true) rfl ?_)
    | fail)
  intro W4 hm4 ho4 hs4
  obtain ⟨m, hme⟩ : ∃ m, m = W3.heap.size := ⟨_, rfl⟩
  rw [← hme] at hm4 ho4 ⊢
  have hP4 : PutB w W4 bk h wt bh Dh Dw Db c w1.heap.size m := by
    obtain ⟨hM3, hR3, hC3, hO3⟩ := H3.out
    have hal : Below W3.heap.size W3 (W3.alloc (.map #[] 0)) := (Below.refl _ _).alloc (Nat.le_refl _) _
    have g1 := hM3.below hal
    have l1 := hM3.has.lt
    have l2 := hM3.wts.lt
    have l3 := hM3.beh.lt
    have l4 := hM3.blk.lt
    have l5 := hR3.lt
    have l6 := H0.out.1.bel.size
    have l7 := hO3.size
    refine ⟨⟨g1.blk.only ho4 (by show bk ≠ m; omega), g1.has.only ho4 (by show h ≠ m; omega), g1.wts.only ho4 (by show wt ≠ m; omega), g1.beh.only ho4 (by show bh ≠ m; omega), g1.n1, g1.n2, g1.n3⟩, (hR3.alloc _).only ho4 (by show w1.heap.size ≠ m; omega), only_step (hO3.alloc _) ho4 (fun i hi e => by omega), by omega, by omega, by omega, by omega⟩
  have hI4 : PutIX W4 W4 Dh c.ref m (SK (fun s => s = c.ref) c.deps beh 0) := by
    refine ⟨_, OM.of hm4, ?_, fun s hs => ?_, Only.refl _ _⟩
    rotate_left
    · rw [mget_put pairRef isMap_empty H0.out.2.2.2.2.1 hs]
      unfold SK
      by_cases e : s = c.ref
      · rw [if_pos e]; simp [e]
      · rw [if_neg e, mget_empty]; simp [e]
    have h0 : OM W3 m (.map []) ∨ True := .inr trivial
    intro s hs u hu
    rw [mget_put pairRef isMap_empty H0.out.2.2.2.2.1 hs] at hu
    split at hu
    · rename_i e; exact ⟨(Option.some.inj hu).symm, .inl e⟩
    · rw [mget_empty] at hu; cases hu
  have HP := Lib.hid (And.intro hP4 hI4)
  have hdl : c.deps.length ≤ 9223372036854775807 := by have := H0.out.2.2.2.1.dlen; unfold maxLen at this; omega
  have b3 : W4.cell? ⟨w.heap.size, 3, none⟩ = some (.slice c.dA c.deps.length c.dc) := by
    have hC4 : Blk W4 w.heap.size _ _ := (H3.out.2.2.1.alloc (.map #[] 0)).only ho4 (by have := H3.out.2.2.1.lt; show w.heap.size ≠ m; omega)
    exact hC4.cell 3
  clear hP4 hI4 hm4 ho4 hs4 a1 a2 hme hhl
  go_wp2_with fail
  clear b3
  go_loopw [23, 7, 8] (fun iv _ _ wr => ∃ k : Nat, iv = .int .i64 k ∧ k ≤ c.deps.length ∧ PutIX W4 wr Dh c.ref m (SK (fun s => s = c.ref) c.deps beh k)) (fun iv _ _ _ => c.deps.length - (intOf iv).toNat)
  case atStart => exact ⟨0, rfl, Nat.zero_le _, HP.out.2⟩
  case round =>
    obtain ⟨k, rfl, hk, hI⟩ := hrel
    by_cases hlt : k < c.deps.length
    · have hPr := HP.out.1.turn hI.loose
      obtain ⟨b, off, d, ha, hd, hx, hy⟩ := (H0.out.2.2.2.1.deps.maps hPr.only (fun i e => by have : i = h := e; rw [this]; exact H0.out.2.1.has.isMapB)).ref hlt
      rw [ha]
      have hdm : d ∈ c.deps := List.mem_of_getElem? hd
      have hdi := H0.out.2.2.2.1.dep d hdm
      obtain ⟨v, hv⟩ := Option.isSome_iff_exists.1 (H0.out.2.2.2.2.2.2.2 d hdm)
      obtain ⟨md, Dd, rfl, hmd, hn1, hn2, hn3, hdd, hdk⟩ := H0.out.2.2.1 d hdi v hv
      have hmdl := hmd.lt
      have hmdr : OM wr md Dd := hmd.only hPr.only (fun e => hn1 e)
      obtain ⟨W5, hW5⟩ : ∃ W5, W5 = wr.alloc (.cells #[.int .i64 d.1, .int .i64 d.2] 33) := ⟨_, rfl⟩
      have hb5 : Below wr.heap.size wr W5 := by rw [hW5]; exact (Below.refl _ _).alloc (Nat.le_refl _) _
      have hI5 := hI.new hb5
      have hP5 := HP.out.1.turn hI5.loose
      have hmd5 := hmdr.below hb5
      have hd5 : Blk W5 wr.heap.size 33 #[.int .i64 d.1, .int .i64 d.2] := by rw [hW5]; exact Blk.new _ _ _
      have HK := Lib.hid (And.intro hI5 (And.intro hP5 (And.intro hmd5 (And.intro hdd hd5))))
      have HDK := Lib.hid (And.intro hdk hd)
      clear hdk
      have p0 : W5.cell? ⟨bk, 2, none⟩ = some (.map (some bh)) := hP5.bkm.blk.cell 2
      have p1 : W5.cell? ⟨wr.heap.size, 0, none⟩ = some (.int .i64 d.1) := hd5.cell 0
      have p2 : W5.cell? ⟨wr.heap.size, 1, none⟩ = some (.int .i64 d.2) := hd5.cell 1
      have hq : (Instr.lookup 94 (.map (some bh)) (.agg #[.int .i64 d.1, .int .i64 d.2]) false).run Tryz.prog W5.drew = .ok (.map (some md)) W5.drew := by
        have := run_look pairRef (w := W5.drew) (show W5.drew.ownsMap Tryz.prog 33 anyElem bh (Maps.size Db) Db from hP5.bkm.beh) Tryz.underlying94 (zeroMapB _) hdi
        rw [hv] at this
        exact this
      clear hI hPr hd hdm hdi hv hmd hn1 hn2 hn3 hdd hmdr hI5 hP5 hmd5 hd5 hb5
      go_wp2_with fail
      rw [← hW5]
      clear hW5 ha
      go_still_tail 6, (by kernel_rfl)
      change wpList _ _ _ _ _ W5.drew
      refine wpList_range_own _ rfl _ 92 rfl 33 4 keyedRef Tryz.underlying92 _ md _ _ rfl (show W5.drew.ownsMap Tryz.prog 33 anyElem md (Maps.size Dd) Dd from HK.out.2.2.1) ?_
      intro W6 hrg6 hg6 hs6
      obtain ⟨it, hit⟩ : ∃ it, it = W5.drew.heap.size := ⟨_, rfl⟩
      rw [← hit] at hrg6 ⊢
      have hI6 : PutIX W4 W6 Dh c.ref m (SK (fun s => s = c.ref) c.deps beh k) := by
        obtain ⟨Dm, h1, h2, h2k, h3⟩ := HK.out.1
        exact ⟨Dm, (show OM W5.drew m Dm from h1).only (only_grown0 (S := fun _ => False) hg6) (fun h => h), h2, h2k, (show Only _ W4 W5.drew from h3.drew).trans (only_grown0 hg6)⟩
      have hml : m < it := by have := HK.out.2.1.mlt; rw [hit]; exact this
      have h4it : W4.heap.size ≤ it := by
        obtain ⟨Dm, h1, h2, _, h3⟩ := HK.out.1
        have := h3.size
        rw [hit]; exact this
      have hmd : md ≠ m := by have := HP.out.1.wm; omega
      have HI := Lib.hid (And.intro hI6 hrg6)
      clear hrg6 hg6 hs6 hI6 p0 p1 p2 hq hit hx hy
      go_wp2_with fail
      go_frame
      go_loopw [8] (fun _ wj => ∃ (left : Lit → Bool) (cnt : Nat), wj.ranges Tryz.prog 33 anyElem md it (Maps.size Dd) Dd left cnt ∧ PutIX W4 wj Dh c.ref m (SV (SK (fun s => s = c.ref) c.deps beh k) (beh d) left)) (fun _ wj => wj.rangeLeft md it)
      case atStart => exact ⟨_, _, HI.out.2, HI.out.1.start HK.out.2.2.1 HDK.out.1 (fun s hs => hasD_ref HK.out.2.2.1 hs)⟩
      case round =>
        obtain ⟨left, cnt, hrg, hI⟩ := hrel
        have HR := Lib.hid hI
        clear hI
        go_wp2_with (first | (at_next; refine wpList_next_pair _ rfl _ rfl 33 pairRef md it _ Dd _ _ rfl hrg ?_ ?_) | fail)
        · intro hc0 hl0
          have HL0 := Lib.hid hl0
          clear hl0
          go_wp2_with fail
          exact ⟨⟨k + 1, by push_cast; rfl, by omega, HR.out.done HDK.out.2 HL0.out⟩, by simp [intOf]; omega⟩
        · intro x1 x2 v w2 cnt2 hx hl2 hat hrg2 hlt2 ho2 hs2 hen2
          obtain ⟨hv, hxk⟩ := HK.out.2.2.2.1 (x1, x2) hx v hat
          have hxb : (x1, x2) ∈ beh d := (HDK.out.1 _ hx).1 (by rw [hat]; rfl)
          have hI2 : ∃ Dm, OM w2 m Dm ∧ Cont Dh c.ref Dm ∧ KeyPred Dm (SV (SK (fun s => s = c.ref) c.deps beh k) (beh d) left) ∧ Only (fun i => i = m) W4 w2 := by
            obtain ⟨Dm, h1, h2, h2k, h3⟩ := HR.out
            exact ⟨Dm, h1.only ho2 (by show m ≠ it; omega), h2, h2k, only_step h3 ho2 (fun i hi e => by have : i = it := e; omega)⟩
          obtain ⟨Dm, hm2, hc2, hk2, hon2⟩ := hI2
          have HK2 := Lib.hid (And.intro hk2 hxb)
          clear hk2 hxb
          have hsm : Maps.size Dm < maxLen := by
            have := hc2.size hm2 H0.out.2.1.has
            have := H0.out.2.2.2.2.2.1
            unfold maxLen
            omega
          have hm3 : OM (w2.alloc (.cells #[.int .i64 x1, .int .i64 x2] 33)) m Dm := hm2.below ((Below.refl _ _).alloc (Nat.le_refl _) _)
          have hlt := hrg.left_eq
          have HX := Lib.hid (And.intro hrg2 (And.intro hc2 (And.intro hon2 (And.intro hxk (And.intro hlt2 (And.intro hlt hm3))))))
          clear hrg hrg2 hc2 hon2 hxk hlt2 hat hl2 ho2 hs2 hlt hm2
          subst hv
          go_wp2_with (first
            | (at_mapUpdate; refine wpList_upd _ rfl _ _ _ 92 rfl 33 4 pairRef Tryz.underlying92 m _ Dm rfl hm3 hsm (x1, x2) rfl hx (.bool true) rfl ?_; intro w4 hm4 ho4 hs4; go_frame)
            | fail)
          obtain ⟨hrg2, hc2, hon2, hxk, hlt2, hlt, hm3'⟩ := HX.out
          have hrg4 := ranges_only (hrg2.alloc (.cells #[.int .i64 x1, .int .i64 x2] 33)) ho4 (by show ¬ (md = m); exact hmd) (by show ¬ (it = m); omega)
          refine ⟨⟨_, cnt2, hrg4, _, OM.of hm4, hc2.put hm3' hx (.inr hxk), HK2.out.1.step hm3' hx HK2.out.2 _, (hon2.alloc _).trans ho4⟩, ?_⟩
          rw [hlt, hrg4.left_eq]
          exact hlt2
    · obtain rfl : k = c.deps.length := by omega
      have hPr := HP.out.1.turn hI.loose
      have p0 : wr.cell? ⟨bk, 2, none⟩ = some (.map (some bh)) := hPr.bkm.blk.cell 2
      have p1 : wr.cell? ⟨w1.heap.size, 0, none⟩ = some (.int .i64 c.actor) := hPr.rbox.cell 0
      have p2 : wr.cell? ⟨w1.heap.size, 1, none⟩ = some (.int .i64 c.seq) := hPr.rbox.cell 1
      have HK := Lib.hid (And.intro hPr hI)
      clear hPr hI
      go_wp2_with fail
      go_still_tail 6, (by kernel_rfl)
      change wpList _ _ _ _ _ wr.drew
      refine wpList_upd _ rfl _ _ _ 94 rfl 33 92 pairRef Tryz.underlying94 bh _ Db rfl (show wr.drew.ownsMap Tryz.prog 33 anyElem bh (Maps.size Db) Db from HK.out.1.bkm.beh) (by have := H0.out.2.2.2.2.2.2.1; unfold maxLen; omega) c.ref rfl H0.out.2.2.2.2.1 (.map (some m)) rfl ?_
      intro W8 hm8 ho8 hs8
      obtain ⟨hPr, Dm, hm, hcm, hks, hon⟩ := HK.out
      have HKS := Lib.hid hks
      clear hks
      clear p0 p1 p2
      go_wp2_with fail
      go_end0
      have hnb := hPr.bkm.nbk
      have hbm : bh ≠ m := hPr.nm.2.2.2
      refine ⟨m, Dm, rfl, ⟨(show Blk wr.drew _ _ _ from hPr.bkm.blk).only ho8 (fun e => hnb.2.2 e), (show OM wr.drew h _ from hPr.bkm.has).only ho8 (fun e => hPr.bkm.n2 e), (show OM wr.drew wt _ from hPr.bkm.wts).only ho8 (fun e => hPr.bkm.n3 e), OM.of hm8, hPr.bkm.n1, hPr.bkm.n2, hPr.bkm.n3⟩, (show OM wr.drew m _ from hm).only ho8 (fun e => hbm e.symm), HP.out.1.wm, hcm, fun s hs => (HKS.out s hs).trans (SK_all s), ?_⟩
      have h1 : Only (fun i => i = h ∨ i = bh) w wr.drew := (hPr.only.mono (fun i _ hi => .inl hi)).drew
      exact only_step h1 ho8 (fun i _ e => .inr e)
end Go.Proofs.YteknflimfdkhoaaGreat
namespace Go.Proofs.YteknflimfdkhoaaGreat
open Go.RowKit Go.Maps
set_option linter.unusedVariables false
set_option linter.unusedSimpArgs false

/-- Of two worlds the blocks of a set are the same. -/
def Agree (F : Nat → Prop) (w W : World) : Prop := ∀ b, F b → b < w.heap.size → W.heap[b]? = w.heap[b]?
/-- A change that stands wherever the blocks of a set do. -/
def Stays (F : Nat → Prop) (w : World) (c : PCh) : Prop := ∀ W, Agree F w W → InC W c
theorem Stays.inC {F : Nat → Prop} {w : World} {c : PCh} (h : Stays F w c) : InC w c := h w (fun _ _ _ => rfl)
theorem Stays.only {F S : Nat → Prop} {w w' : World} {c : PCh} (h : Stays F w c) (ho : Only S w w') (hS : ∀ i, i < w.heap.size → S i → ¬ F i) : Stays F w' c :=
  fun W hW => h W (fun b hb hl => (hW b hb (Nat.lt_of_lt_of_le hl ho.size)).trans (ho.block b hl (fun e => hS b hl e hb)))
theorem Stays.below {F : Nat → Prop} {w w' : World} {c : PCh} (h : Stays F w c) (hb : Below w.heap.size w w') : Stays F w' c := h.only (S := fun _ => False) (Only.of_below hb) (fun _ _ e => e.elim)
structure DagX (w : World) (F : Nat → Prop) (bk h wt bh : Nat) (Dh Dw Db : DataW Value) (L Wl : List PCh) : Prop extends Dag w bk h wt bh Dh Dw Db L where
  behx : BehX w h wt bh Dh Db (behL (L.map PCh.ch))
  fine : Fine (L.map PCh.ch)
  wx : ∀ r, I2 r → mget Dw r = (findC Wl r).map PCh.value
  win : ∀ c ∈ Wl, InC w c ∧ chE c.ch = 0
  wnd : (Wl.map PCh.ref).Nodup
  szh : Maps.size Dh = L.length
  szw : Maps.size Dw = Wl.length
  fx : ∀ c, c ∈ L ∨ c ∈ Wl → Stays F w c
  fb : ∀ r, I2 r → ∀ m, mget Db r = some (.map (some m)) → F m
  fn : ¬ F bk ∧ ¬ F h ∧ ¬ F wt ∧ ¬ F bh
  fh : ∀ i, w.heap.size ≤ i → F i
theorem BehX.below {w w' : World} {h wt bh : Nat} {Dh Db : DataW Value} {beh : Int × Int → List (Int × Int)} (H : BehX w h wt bh Dh Db beh) (hb : Below w.heap.size w w') : BehX w' h wt bh Dh Db beh := fun r hr v hv => by
  obtain ⟨m, Dm, e1, e2, e3⟩ := H r hr v hv
  exact ⟨m, Dm, e1, e2.below hb, e3⟩
theorem DagX.below {w w' : World} {F : Nat → Prop} {bk h wt bh : Nat} {Dh Dw Db : DataW Value} {L Wl : List PCh} (H : DagX w F bk h wt bh Dh Dw Db L Wl) (hb : Below w.heap.size w w') : DagX w' F bk h wt bh Dh Dw Db L Wl :=
  ⟨H.toDag.below hb, H.behx.below hb, H.fine, H.wx, fun c hc => ⟨(H.win c hc).1.below hb, (H.win c hc).2⟩, H.wnd, H.szh, H.szw, fun c hc => (H.fx c hc).below hb, H.fb, H.fn, fun i hi => H.fh i (Nat.le_trans hb.size hi)⟩
theorem DagX.ready {w : World} {F : Nat → Prop} {bk h wt bh : Nat} {Dh Dw Db : DataW Value} {L Wl : List PCh} (H : DagX w F bk h wt bh Dh Dw Db L Wl) {c : PCh} (hi : ∀ d ∈ c.deps, I2 d) : readyB Dh c.deps = readyL (L.map PCh.ch) c.ch := by
  unfold readyB readyL
  rw [map_ch_ref, List.not_any_eq_all_not]
  show _ = c.deps.all _
  have key : ∀ l : List (Int × Int), (∀ d ∈ l, I2 d) → l.all (fun a => !!hasB Dh a) = l.all (fun d => decide (d ∈ L.map PCh.ref)) := by
    intro l hl
    rw [Bool.eq_iff_iff, List.all_eq_true, List.all_eq_true]
    refine forall_congr' fun d => imp_congr_right fun hd => ?_
    rw [Bool.not_not, H.hasB_mem (hl d hd), decide_eq_true_eq]
  exact key c.deps hi
theorem size_put_new {w : World} {b : Nat} {D : DataW Value} (h : OM w b D) {r : Int × Int} (hr : I2 r) (hn : hasB D r = false) (v : DataW Value) : Maps.size (D.put (rlit r) v) = Maps.size D + 1 := by
  rw [Maps.size_put h.tidy, hasD_ref h hr, hn]
  simp
/-- Behind put. -/
theorem DagX.put {w w' : World} {F : Nat → Prop} {bk h wt bh m : Nat} {Dh Dw Db Dm : DataW Value} {L Wl : List PCh} {c : PCh} (H : DagX w F bk h wt bh Dh Dw Db L Wl) (hst : Stays F w c) (hg : chE c.ch = 0) (hn : hasB Dh c.ref = false) (hnw : hasB Dw c.ref = false) (hd : ∀ d ∈ c.deps, d ∈ L.map PCh.ref)
    (hsz : Maps.size Dh + Maps.size Dw < 120) (hf : fitsB (L.map PCh.ch) c.ch = true)
    (hb : BkM w' bk h wt bh (Dh.put (rlit c.ref) (.held c.value)) Dw (Db.put (rlit c.ref) (.held (.map (some m))))) (hm : OM w' m Dm) (hwm : w.heap.size ≤ m) (hk : Cont Dh c.ref Dm) (hkx : KeyPred Dm (fun s => s = c.ref ∨ ∃ d ∈ c.deps, s ∈ behL (L.map PCh.ch) d)) (ho : Only (fun i => i = h ∨ i = bh) w w') :
    DagX w' F bk h wt bh (Dh.put (rlit c.ref) (.held c.value)) Dw (Db.put (rlit c.ref) (.held (.map (some m)))) (L ++ [c]) Wl := by
  have hc := hst.inC
  have hSF : ∀ i, i < w.heap.size → (i = h ∨ i = bh) → ¬ F i := fun i _ e => by
    rcases e with rfl | rfl
    · exact H.fn.2.1
    · exact H.fn.2.2.2
  have hD := H.toDag.put hc hg hn hnw hd hsz hb hm hwm hk ho
  have hr := (chE_good hg).i2
  have hnr : c.ref ∉ L.map PCh.ref := fun e => by rw [(H.hasB_mem hr).2 e] at hn; cases hn
  have hS : ∀ i, (i = h ∨ i = bh) → IsMapB w i := fun i e => by
    rcases e with rfl | rfl
    · exact H.bkm.has.isMapB
    · exact H.bkm.beh.isMapB
  have hmap : (L ++ [c]).map PCh.ch = L.map PCh.ch ++ [c.ch] := by rw [List.map_append]; rfl
  have gh : ∀ s, I2 s → mget (Dh.put (rlit c.ref) (.held c.value)) s = if s = c.ref then some c.value else mget Dh s := fun s hs => H.bkm.has.get_put hr hs _
  have hh : ∀ s, I2 s → hasB Dh s = true → hasB (Dh.put (rlit c.ref) (.held c.value)) s = true := fun s hs e => by
    unfold hasB at *
    rw [gh s hs]
    split
    · rfl
    · exact e
  refine ⟨hD, ?_, ?_, H.wx, fun x hx => ⟨(H.win x hx).1.maps ho hS, (H.win x hx).2⟩, H.wnd, ?_, H.szw, fun x hx => ?_, fun r hr' m' hm' => ?_, H.fn, fun i hi => H.fh i (Nat.le_trans ho.size hi)⟩
  · intro r hr' v hv
    rw [H.bkm.beh.get_put hr hr'] at hv
    rw [hmap]
    split at hv
    · rename_i e
      have e7 := Option.some.inj hv
      have l1 := H.bkm.has.lt
      have l2 := H.bkm.wts.lt
      have l3 := H.bkm.beh.lt
      refine ⟨m, Dm, e7.symm, hm, by omega, by omega, by omega, fun s hs u hu => ?_, fun s hs => ?_⟩
      · obtain ⟨k1, k2⟩ := hk s hs u hu
        refine ⟨k1, ?_⟩
        rcases k2 with rfl | k2
        · unfold hasB
          rw [gh _ hs, if_pos rfl]; rfl
        · exact hh s hs k2
      · show _ ↔ s ∈ behL (L.map PCh.ch ++ [c.ch]) r
        rw [hkx s hs, behL_snoc, if_pos (e.trans c.ch_ref.symm), List.mem_cons, List.mem_flatMap]
        exact Iff.rfl
    · rename_i e
      obtain ⟨m2, Dm2, f1, f2, f3, f4, f5, f6, f7⟩ := H.behx r hr' v hv
      refine ⟨m2, Dm2, f1, f2.only ho (fun e => by rcases e with e | e; exact f3 e; exact f5 e), f3, f4, f5, fun s hs u hu => ⟨(f6 s hs u hu).1, hh s hs (f6 s hs u hu).2⟩, fun s hs => ?_⟩
      show _ ↔ s ∈ behL (L.map PCh.ch ++ [c.ch]) r
      rw [behL_snoc, if_neg (fun h => e (h.trans c.ch_ref))]
      exact f7 s hs
  · rw [hmap]
    refine H.fine.snoc (by rw [map_ch_ref]; exact hnr) (by rw [map_ch_ref]; exact hd) hf (chE_good hg).seq
  · rw [size_put_new H.bkm.has hr hn, H.szh, List.length_append]
    rfl
  · rcases hx with hx | hx
    · rcases List.mem_append.1 hx with hx | hx
      · exact (H.fx x (.inl hx)).only ho hSF
      · rw [List.mem_singleton] at hx
        subst hx
        exact hst.only ho hSF
    · exact (H.fx x (.inr hx)).only ho hSF
  · rw [H.bkm.beh.get_put hr hr'] at hm'
    split at hm'
    · injection hm' with e
      injection e with e
      injection e with e
      subst e
      exact H.fh _ hwm
    · exact H.fb r hr' m' hm'
/-- A change that waits. -/
theorem DagX.wait {w w' : World} {F : Nat → Prop} {bk h wt bh : Nat} {Dh Dw Db : DataW Value} {L Wl : List PCh} {c : PCh} (H : DagX w F bk h wt bh Dh Dw Db L Wl) (hst : Stays F w c) (hg : chE c.ch = 0) (hn : hasB Dh c.ref = false) (hnw : hasB Dw c.ref = false) (hsz : Maps.size Dh + Maps.size Dw < 120)
    (hm : OM w' wt (Dw.put (rlit c.ref) (.held c.value))) (ho : Only (fun i => i = wt) w w') : DagX w' F bk h wt bh Dh (Dw.put (rlit c.ref) (.held c.value)) Db L (Wl ++ [c]) := by
  have hc := hst.inC
  have hSF : ∀ i, i < w.heap.size → i = wt → ¬ F i := fun i _ e => by subst e; exact H.fn.2.2.1
  have hr := (chE_good hg).i2
  have hS : ∀ i, i = wt → IsMapB w i := fun i e => by subst e; exact H.bkm.wts.isMapB
  have hnr : c.ref ∉ Wl.map PCh.ref := fun e => by
    have h1 := H.wx c.ref hr
    have h2 := findC_mem.2 e
    unfold hasB at hnw
    rw [h1, Option.isSome_map, h2] at hnw
    cases hnw
  refine ⟨H.toDag.wait hc hg hn hsz hm ho, ?_, H.fine, ?_, ?_, ?_, H.szh, ?_, fun x hx => ?_, H.fb, H.fn, fun i hi => H.fh i (Nat.le_trans ho.size hi)⟩
  · intro r hr' v hv
    obtain ⟨m', Dm', e1, e2, e3, e4, e5, e6⟩ := H.behx r hr' v hv
    exact ⟨m', Dm', e1, e2.only ho e4, e3, e4, e5, e6⟩
  · intro r hr'
    rw [H.bkm.wts.get_put hr hr', findC_append hnr]
    split
    · rfl
    · exact H.wx r hr'
  · intro x hx
    rcases List.mem_append.1 hx with hx | hx
    · exact ⟨(H.win x hx).1.maps ho hS, (H.win x hx).2⟩
    · rw [List.mem_singleton] at hx
      subst hx
      exact ⟨hc.maps ho hS, hg⟩
  · rw [List.map_append, List.nodup_append]
    refine ⟨H.wnd, by simp, fun a ha b hb' e => ?_⟩
    simp at hb'
    subst hb'
    exact hnr (e ▸ ha)
  · rw [size_put_new H.bkm.wts hr hnw, H.szw, List.length_append]
    rfl
  · rcases hx with hx | hx
    · exact (H.fx x (.inl hx)).only ho hSF
    · rcases List.mem_append.1 hx with hx | hx
      · exact (H.fx x (.inr hx)).only ho hSF
      · rw [List.mem_singleton] at hx
        subst hx
        exact hst.only ho hSF
def outC (W : List PCh) (r : Int × Int) : List PCh := W.filter (fun x => decide (x.ref ≠ r))
theorem outC_map (W : List PCh) (r : Int × Int) : (outC W r).map PCh.ch = outR (W.map PCh.ch) r := by
  unfold outC outR
  rw [List.filter_map]
  rfl
theorem findC_out {W : List PCh} {r s : Int × Int} : findC (outC W r) s = if s = r then none else findC W s := by
  unfold findC outC
  rw [List.find?_filter]
  split
  · rename_i e
    subst e
    rw [List.find?_eq_none]
    intro x _
    simp
  · rename_i e
    congr 1
    funext x
    by_cases h : x.ref = s
    · simp [h, e]
    · simp [h]
theorem outC_len {W : List PCh} {c : PCh} (hn : (W.map PCh.ref).Nodup) (hc : c ∈ W) : (outC W c.ref).length + 1 = W.length := by
  induction W with
  | nil => cases hc
  | cons x W ih =>
    rw [List.map_cons, List.nodup_cons] at hn
    unfold outC
    rw [List.filter_cons]
    rcases List.mem_cons.1 hc with rfl | hc
    · have : W.filter (fun x => decide (x.ref ≠ c.ref)) = W := List.filter_eq_self.2 (fun x hx => by
        have : x.ref ≠ c.ref := fun e => hn.1 (e ▸ List.mem_map_of_mem hx)
        simpa using this)
      rw [if_neg (by simp), this]
      rfl
    · have hne : x.ref ≠ c.ref := fun e => hn.1 (e ▸ List.mem_map_of_mem hc)
      rw [if_pos (by simpa using hne), List.length_cons, List.length_cons]
      have := ih hn.2 hc
      unfold outC at this
      omega
/-- One that waits no more. -/
theorem DagX.free {w w' : World} {F : Nat → Prop} {bk h wt bh : Nat} {Dh Dw Db : DataW Value} {L Wl : List PCh} {c : PCh} (H : DagX w F bk h wt bh Dh Dw Db L Wl) (hr : I2 c.ref)
    (hm : OM w' wt (Dw.del (rlit c.ref))) (ho : Only (fun i => i = wt) w w') (hc : c ∈ Wl) : DagX w' F bk h wt bh Dh (Dw.del (rlit c.ref)) Db L (outC Wl c.ref) ∧ Maps.size Dh + Maps.size (Dw.del (rlit c.ref)) < 120 ∧ Maps.size (Dw.del (rlit c.ref)) < Maps.size Dw := by
  have hh : hasB Dw c.ref = true := by
    unfold hasB
    rw [H.wx _ hr, Option.isSome_map]
    exact findC_mem.2 (List.mem_map_of_mem hc)
  obtain ⟨h1, h2, h3⟩ := H.toDag.free hr hm ho hh
  have hS : ∀ i, i = wt → IsMapB w i := fun i e => by subst e; exact H.bkm.wts.isMapB
  have hSF : ∀ i, i < w.heap.size → i = wt → ¬ F i := fun i _ e => by subst e; exact H.fn.2.2.1
  refine ⟨⟨h1, ?_, H.fine, ?_, fun x hx => ?_, ?_, H.szh, ?_, fun x hx => (H.fx x (hx.imp id (fun k => (List.mem_filter.1 k).1))).only ho hSF, H.fb, H.fn, fun i hi => H.fh i (Nat.le_trans ho.size hi)⟩, h2, h3⟩
  · intro r hr' v hv
    obtain ⟨m', Dm', e1, e2, e3, e4, e5, e6⟩ := H.behx r hr' v hv
    exact ⟨m', Dm', e1, e2.only ho e4, e3, e4, e5, e6⟩
  · intro r hr'
    rw [mget_del pairRef hr hr', findC_out]
    split
    · rfl
    · exact H.wx r hr'
  · have hx := (List.mem_filter.1 hx).1
    exact ⟨(H.win x hx).1.maps ho hS, (H.win x hx).2⟩
  · exact ((List.filter_sublist (p := fun x => decide (x.ref ≠ c.ref))).map PCh.ref).nodup H.wnd
  · have := H.bkm.wts.size_del hr hh
    have := outC_len H.wnd hc
    have := H.szw
    omega
/-- What others do to blocks of their own leaves a book as it was. -/
theorem DagX.other {w w' : World} {F S : Nat → Prop} {bk h wt bh : Nat} {Dh Dw Db : DataW Value} {L Wl : List PCh} (H : DagX w F bk h wt bh Dh Dw Db L Wl) (ho : Only S w w')
    (hS : ∀ i, i < w.heap.size → S i → ¬ F i ∧ i ≠ bk ∧ i ≠ h ∧ i ≠ wt ∧ i ≠ bh) : DagX w' (fun i => (F i ∧ i < w.heap.size) ∨ w'.heap.size ≤ i) bk h wt bh Dh Dw Db L Wl := by
  have hlk := H.bkm.blk.lt
  have hlh := H.bkm.has.lt
  have hlw := H.bkm.wts.lt
  have hlb := H.bkm.beh.lt
  have hSF : ∀ i, i < w.heap.size → S i → ¬ F i := fun i hi e => (hS i hi e).1
  have hc : ∀ c, c ∈ L ∨ c ∈ Wl → InC w' c := fun c hc => ((H.fx c hc).only ho hSF).inC
  have hb' : ∀ r, I2 r → ∀ m, mget Db r = some (.map (some m)) → m < w.heap.size → ¬ S m := fun r hr m hm hl e => (hS m hl e).1 (H.fb r hr m hm)
  refine ⟨⟨⟨H.bkm.blk.only ho (fun e => (hS _ hlk e).2.1 rfl), H.bkm.has.only ho (fun e => (hS _ hlh e).2.2.1 rfl), H.bkm.wts.only ho (fun e => (hS _ hlw e).2.2.2.1 rfl), H.bkm.beh.only ho (fun e => (hS _ hlb e).2.2.2.2 rfl), H.bkm.n1, H.bkm.n2, H.bkm.n3⟩, ?_, H.keys, H.has, fun c k => ⟨hc c (.inl k), (H.good c k).2⟩, H.ndp, H.shut, ?_, H.sz, H.apart⟩, ?_, H.fine, H.wx, fun c k => ⟨hc c (.inr k), (H.win c k).2⟩, H.wnd, H.szh, H.szw, fun c k => ?_, fun r hr m hm => ?_, ?_, fun i hi => .inr hi⟩
  · intro r hr v hv
    obtain ⟨m, Dm, e1, e2, e3⟩ := H.beh r hr v hv
    exact ⟨m, Dm, e1, e2.only ho (hb' r hr m (by rw [hv, e1]) e2.lt), e3⟩
  · intro r hr v hv
    rw [H.wx r hr] at hv
    obtain ⟨x, hx, rfl⟩ := Option.map_eq_some_iff.1 hv
    exact ⟨x, rfl, hc x (.inr (findC_some hx).1), (H.win x (findC_some hx).1).2, (findC_some hx).2⟩
  · intro r hr v hv
    obtain ⟨m, Dm, e1, e2, e3⟩ := H.behx r hr v hv
    exact ⟨m, Dm, e1, e2.only ho (hb' r hr m (by rw [hv, e1]) e2.lt), e3⟩
  · intro W hW
    exact H.fx c k W (fun b hb hl => (hW b (.inl ⟨hb, hl⟩) (Nat.lt_of_lt_of_le hl ho.size)).trans (ho.block b hl (fun e => hSF b hl e hb)))
  · obtain ⟨m2, Dm, e1, e2, e3⟩ := H.behx r hr _ hm
    injection e1 with e1
    injection e1 with e1
    subst e1
    exact .inl ⟨H.fb r hr m hm, e2.lt⟩
  · have hsz := ho.size
    obtain ⟨f1, f2, f3, f4⟩ := H.fn
    exact ⟨fun e => by rcases e with e | e; exact f1 e.1; omega, fun e => by rcases e with e | e; exact f2 e.1; omega, fun e => by rcases e with e | e; exact f3 e.1; omega, fun e => by rcases e with e | e; exact f4 e.1; omega⟩
end Go.Proofs.YteknflimfdkhoaaGreat
