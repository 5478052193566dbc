/- dag.Book.fits: a contract, exact. -/
import Derived.Test.YteknflimfdkhoaaGreatDg18
import Derived.Test.YteknflimfdkhoaaGreatDg33
import Derived.Test.YteknflimfdkhoaaGreatDg23
namespace Go.Proofs.YteknflimfdkhoaaGreat
open Go.RowKit Go.Maps Go.WideShapes
set_option linter.unusedVariables false
set_option linter.unusedSimpArgs false

theorem DX.cong {D : DataW Value} {f g : Int × Int → Option OpV} (h : DX D f) (he : ∀ n, I2 n → f n = g n) : DX D g := fun r hr => by
  have := h r hr
  rw [he r hr] at this
  exact this
theorem DX.put2 {w : World} {m : Nat} {D : DataW Value} {f : Int × Int → Option OpV} (h : DX D f) (hm : OpsM w m D) {r : Int × Int} (hr : I2 r) (o : OpV) (pA : Option Addr) (pc : Nat) : DX (D.put (rlit r) (.held (OpX o pA pc r))) (updF f r o) := h.put (w' := w) (k := 0) hm hr o pA pc
theorem DX.empty : DX (.map []) (fun _ => none) := fun r hr => mget_empty r
/-- Which of some refs were seen. -/
def KV (B : List (Int × Int)) (left : Lit → Bool) : List (Int × Int) := B.filter (fun s => !left (rlit s))
theorem KV_mem {B : List (Int × Int)} {left : Lit → Bool} {s : Int × Int} : s ∈ KV B left ↔ s ∈ B ∧ left (rlit s) = false := by
  unfold KV
  rw [List.mem_filter]
  simp
theorem KV_step {B : List (Int × Int)} {left : Lit → Bool} {s x : Int × Int} (hB : ∀ s ∈ B, I2 s) (hx : x ∈ B) : s ∈ KV B (fun z => left z && !z.sameKey (rlit x)) ↔ s = x ∨ s ∈ KV B left := by
  rw [KV_mem, KV_mem]
  by_cases hs : s ∈ B
  · rw [left_struck pairRef (hB x hx) (hB s hs)]
    by_cases e : s = x
    · subst e; simp [hs]
    · simp [hs, e]
  · simp only [hs, false_and, or_false, false_iff]
    intro e
    exact hs (e ▸ hx)
/-- What some refs that were seen have passed. -/
def Seen (L : List Ch) (c : Ch) (V : List (Int × Int)) : Prop :=
  (∀ s ∈ V, s.1 = c.actor → s.2 < c.seq) ∧ (∀ x ∈ L, x.ref ∈ V → ∀ (i : Nat) o, x.ops[i]? = some o → x.start + i < c.start)
theorem Seen.step {L : List Ch} {c : Ch} {V V2 : List (Int × Int)} {x : Ch} (h : Seen L c V) (hn : (L.map Ch.ref).Nodup) (hx : x ∈ L) (hV : ∀ s, s ∈ V2 ↔ s = x.ref ∨ s ∈ V) (h1 : x.ref.1 = c.actor → x.ref.2 < c.seq) (h2 : ∀ (i : Nat) o, x.ops[i]? = some o → x.start + i < c.start) : Seen L c V2 := by
  refine ⟨fun s hs => ?_, fun y hy hyr => ?_⟩
  · rcases (hV s).1 hs with rfl | hs
    · exact h1
    · exact h.1 s hs
  · rcases (hV y.ref).1 hyr with e | hs
    · have : y = x := by
        exact nodup_inj hn hy hx e
      subst this
      exact h2
    · exact h.2 y hy hs
def cutOps (x : Ch) (j : Nat) : Ch := { x with ops := x.ops.take j }
/-- The ops that are known, and some of one change more. -/
def plusF (f : Int × Int → Option OpV) (x : Ch) (j : Nat) (n : Int × Int) : Option OpV := match opAt (cutOps x j) n with
  | some o => some o
  | none => f n
theorem plusF_zero (f : Int × Int → Option OpV) (x : Ch) (n : Int × Int) : plusF f x 0 n = f n := by
  have : opAt (cutOps x 0) n = none := by unfold opAt cutOps; simp
  unfold plusF
  rw [this]
theorem opAt_cut {x : Ch} {j : Nat} {n : Int × Int} {o : OpV} : opAt (cutOps x j) n = some o ↔ opAt x n = some o ∧ n.1 < x.start + j := by
  unfold opAt cutOps
  simp only
  by_cases h : n.2 = x.actor ∧ x.start ≤ n.1
  · rw [if_pos h, if_pos h, List.getElem?_take]
    by_cases hj : (n.1 - x.start).toNat < j
    · rw [if_pos hj]
      exact ⟨fun e => ⟨e, (by omega)⟩, fun e => e.1⟩
    · rw [if_neg hj]
      exact ⟨fun e => (by cases e), fun e => (by omega)⟩
  · rw [if_neg h, if_neg h]
    simp
theorem plusF_step (f : Int × Int → Option OpV) (x : Ch) (j : Nat) (o : OpV) (ho : x.ops[j]? = some o) (n : Int × Int) : updF (plusF f x j) (x.start + j, x.actor) o n = plusF f x (j + 1) n := by
  unfold updF
  have hat := opAt_at ho
  split
  · rename_i e
    unfold plusF
    rw [e, opAt_cut.2 ⟨hat, by show x.start + (j : Int) < x.start + ((j + 1 : Nat) : Int); omega⟩]
  · rename_i e
    unfold plusF
    have : opAt (cutOps x j) n = opAt (cutOps x (j + 1)) n := by
      refine Option.ext fun p => ?_
      rw [opAt_cut, opAt_cut]
      refine and_congr_right fun hp => ?_
      obtain ⟨a1, a2, a3, a4⟩ := opAt_some hp
      have : n.1 ≠ x.start + j := fun h => e (Prod.ext h a1)
      omega
    rw [this]
theorem plusF_all {L : List Ch} (hF : Fine L) {x : Ch} (hx : x ∈ L) {V V2 : List (Int × Int)} (hV : ∀ s, s ∈ V2 ↔ s = x.ref ∨ s ∈ V) (n : Int × Int) : plusF (knownF L V) x x.ops.length n = knownF L V2 n := by
  unfold plusF
  have hc : cutOps x x.ops.length = x := by unfold cutOps; rw [List.take_length]
  rw [hc]
  cases e : opAt x n with
  | some o => exact (knownF_of hF hx ((hV _).2 (.inl rfl)) e).symm
  | none =>
    simp only
    cases k : knownF L V n with
    | some o =>
      obtain ⟨y, hy, hyV, hyo⟩ := knownF_some k
      exact (knownF_of hF hy ((hV _).2 (.inr hyV)) hyo).symm
    | none =>
      refine (knownF_none fun y hy hyV => ?_).symm
      cases hyo : opAt y n with
      | none => rfl
      | some o =>
        exfalso
        rcases (hV _).1 hyV with e2 | hyV
        · have : y = x := by
            exact nodup_inj hF.nd hy hx e2
          subst this
          rw [e] at hyo
          cases hyo
        · rw [knownF_of hF hy hyV hyo] at k
          cases k
/-- What the ops of the change make of what is known. -/
def opsF (f : Int × Int → Option OpV) (actor start : Int) : List OpV → Int × Int → Option OpV
  | [] => f
  | o :: l => opsF (updF f (start, actor) o) actor (start + 1) l
theorem mayAll_at (actor : Int) : ∀ (l : List OpV) (f : Int × Int → Option OpV) (start : Int) (j : Nat) (o : OpV), l[j]? = some o → mayAll (opsF f actor start (l.take j)) actor (start + j) (l.drop j) = (mayF (opsF f actor start (l.take j)) o (start + j, actor) && mayAll (opsF f actor start (l.take (j + 1))) actor (start + (j + 1 : Nat)) (l.drop (j + 1)))
  | [], f, start, j, o, h => by simp at h
  | x :: l, f, start, 0, o, h => by
    simp at h
    subst h
    simp [mayAll, opsF]
  | x :: l, f, start, j + 1, o, h => by
    have := mayAll_at actor l (updF f (start, actor) x) (start + 1) j o (by simpa using h)
    simp only [List.take_succ_cons, List.drop_succ_cons, opsF]
    rw [show start + ((j + 1 : Nat) : Int) = start + 1 + (j : Int) by omega, this, show start + ((j + 1 + 1 : Nat) : Int) = start + 1 + ((j + 1 : Nat) : Int) by omega]
theorem opsF_step (actor : Int) : ∀ (l : List OpV) (f : Int × Int → Option OpV) (start : Int) (j : Nat) (o : OpV), l[j]? = some o → opsF f actor start (l.take (j + 1)) = updF (opsF f actor start (l.take j)) (start + j, actor) o
  | [], f, start, j, o, h => by simp at h
  | x :: l, f, start, 0, o, h => by
    simp at h
    subst h
    simp [opsF]
  | x :: l, f, start, j + 1, o, h => by
    have := opsF_step actor l (updF f (start, actor) x) (start + 1) j o (by simpa using h)
    simp only [List.take_succ_cons, opsF]
    rw [this, show start + ((j + 1 : Nat) : Int) = start + 1 + (j : Int) by omega]
theorem fitsB_seen {L : List Ch} {c : Ch} (h : ¬ Seen L c (behAll L c.deps)) : fitsB L c = false := by
  cases e : fitsB L c with
  | false => rfl
  | true => exact absurd ⟨(fitsB_iff.1 e).1, (fitsB_iff.1 e).2.1⟩ h
theorem fitsB_seq {L : List Ch} {c : Ch} (h : (decide (1 < c.seq) && !decide ((c.actor, c.seq - 1) ∈ behAll L c.deps)) = true) : fitsB L c = false := by
  cases e : fitsB L c with
  | false => rfl
  | true =>
    simp at h
    exact absurd ((fitsB_iff.1 e).2.2.1 h.1) h.2
theorem fitsB_may {L : List Ch} {c : Ch} (h : mayAll (knownF L (behAll L c.deps)) c.actor c.start c.ops = false) : fitsB L c = false := by
  cases e : fitsB L c with
  | false => rfl
  | true => rw [(fitsB_iff.1 e).2.2.2] at h; cases h
theorem fitsB_yes {L : List Ch} {c : Ch} (h1 : Seen L c (behAll L c.deps)) (h2 : (decide (1 < c.seq) && !decide ((c.actor, c.seq - 1) ∈ behAll L c.deps)) = false) (h3 : mayAll (knownF L (behAll L c.deps)) c.actor c.start c.ops = true) : fitsB L c = true := by
  refine fitsB_iff.2 ⟨h1.1, h1.2, fun h => ?_, h3⟩
  simp at h2
  exact h2 h

set_option maxRecDepth 100000 in
set_option maxHeartbeats 4000000 in
theorem bookFits_is (bk h wt bh : Nat) (Dh Dw Db : DataW Value) (L : List PCh) (c : PCh) (w : World) (H : BkM w bk h wt bh Dh Dw Db) (hB : BehX w h wt bh Dh Db (behL (L.map PCh.ch))) (hI : InHas w Dh) (hhas : ∀ r, I2 r → mget Dh r = (findC L r).map PCh.value) (hgood : ∀ x ∈ L, InC w x ∧ chE x.ch = 0) (hfine : Fine (L.map PCh.ch)) (hc : InC w c) (hr : I2 c.ref) (hsz : Maps.size Dh ≤ 1000)
    (hst : (0 ≤ c.start ∧ c.start ≤ 1000000) ∧ c.ops.length ≤ 40) (hsq : 1 ≤ c.seq) (hall : ∀ d ∈ c.deps, (mget Db d).isSome = true) :
    Calls Tryz.prog 48 #[.pointer (some ⟨bk, 0, none⟩), .agg #[.int .i64 c.actor, .int .i64 c.seq, .int .i64 c.start, .slice c.dA c.deps.length c.dc, .slice c.oA c.ops.length c.oc]] w (BoolW w (fitsB (L.map PCh.ch) c.ch)) := by
  obtain ⟨B, hBe⟩ : ∃ B, B = behAll (L.map PCh.ch) c.ch.deps := ⟨_, rfl⟩
  have hB2 : ∀ s ∈ B, I2 s ∧ ∃ x ∈ L, x.ref = s := by
    intro s hs
    rw [hBe] at hs
    obtain ⟨d, _, hs⟩ := List.mem_flatMap.1 hs
    have := behL_mem _ _ _ hs
    rw [map_ch_ref] at this
    obtain ⟨x, hx, rfl⟩ := List.mem_map.1 this
    exact ⟨(chE_good (hgood x hx).2).i2, x, hx, rfl⟩
  have HN := Lib.hid (And.intro hhas (And.intro hgood (And.intro hfine (And.intro hBe hB2))))
  clear hhas hgood hfine hBe hB2
  have hmm := @run_makeMap Tryz.prog
  obtain ⟨W0, hW0⟩ : ∃ W0, W0 = w.alloc (.cells #[.int .i64 c.actor, .int .i64 c.seq, .int .i64 c.start, .slice c.dA c.deps.length c.dc, .slice c.oA c.ops.length c.oc] 65) := ⟨_, rfl⟩
  have hC0 : CB w c W0 := by rw [hW0]; exact ⟨(Below.refl _ _).alloc (Nat.le_refl _) _, Blk.new _ _ _⟩
  have hs0 : W0.heap.size = w.heap.size + 1 := by rw [hW0]; simp
  obtain ⟨W4, hW4⟩ : ∃ W4, W4 = W0.alloc (.map #[] 0) := ⟨_, rfl⟩
  have hb4 : Below W0.heap.size W0 W4 := by rw [hW4]; exact (Below.refl _ _).alloc (Nat.le_refl _) _
  obtain ⟨m, hm⟩ : ∃ m, m = w.heap.size + 1 := ⟨_, rfl⟩
  have hI4 : PutIX W4 W4 Dh c.ref m (SK (fun _ => False) c.deps (behL (L.map PCh.ch)) 0) := by
    refine ⟨.map [], ?_, Cont.empty _ _, fun s hs => (by rw [mget_empty]; simp [SK]), Only.refl _ _⟩
    have := World.ownsMap_made W0 Tryz.prog 33 anyElem
    rw [hs0, ← hm, ← hW4] at this
    exact OM.of this
  have HP := Lib.hid (And.intro (hC0.new hb4) (And.intro hI4 hm))
  have H0 := Lib.hid (And.intro H (And.intro hB (And.intro hI (And.intro hc (And.intro hr (And.intro hsz (And.intro hst (And.intro hsq hall))))))))
  have HW := Lib.hid (And.intro hW0 (And.intro hW4 hs0))
  have hdl : c.deps.length ≤ 9223372036854775807 := by have := hc.dlen; unfold maxLen at this; omega
  have hol : c.ops.length ≤ 9223372036854775807 := by omega
  clear hC0 hs0 hb4 hI4 H hB hI hc hr hsz hst hsq hall hW0 hW4 hm
  go_enter Tryz.func48, Tryz.ntmps48
  go_upto_region 2 with (fail)
  rw [← HW.out.1, ← HW.out.2.1, ← HP.out.2.2]
  have b3 : W4.cell? ⟨w.heap.size, 3, none⟩ = some (.slice c.dA c.deps.length c.dc) := HP.out.1.blk.cell 3
  go_wp2_with fail
  clear b3
  go_loopw [22, 7, 8] (fun iv _ _ wr => ∃ k : Nat, iv = .int .i64 k ∧ k ≤ c.deps.length ∧ PutIX W4 wr Dh c.ref m (SK (fun _ => False) c.deps (behL (L.map PCh.ch)) k)) (fun iv _ _ _ => c.deps.length - (intOf iv).toNat)
  case atStart => exact ⟨0, rfl, Nat.zero_le _, HP.out.2.1⟩
  case round =>
    obtain ⟨k, rfl, hk, hI⟩ := hrel
    have hmw : w.heap.size < m := by have := HP.out.2.2; omega
    have hon : Only (fun i => i = m) W4 wr := by obtain ⟨Dm, _, _, _, h3⟩ := hI; exact h3
    have hCr : CB w c wr := HP.out.1.turn hon (fun i e => by have : i = m := e; omega)
    by_cases hlt : k < c.deps.length
    · obtain ⟨b, off, d, ha, hd, hx, hy⟩ := (H0.out.2.2.2.1.deps.below hCr.bel).ref hlt
      rw [ha]
      have hdm : d ∈ c.deps := List.mem_of_getElem? hd
      have hdi := H0.out.2.2.2.1.dep d hdm
      obtain ⟨v, hv⟩ := Option.isSome_iff_exists.1 (H0.out.2.2.2.2.2.2.2.2 d hdm)
      obtain ⟨md, Dd, rfl, hmd, hn1, hn2, hn3, hdd, hdk⟩ := H0.out.2.1 d hdi v hv
      have hmdl := hmd.lt
      obtain ⟨W5, hW5⟩ : ∃ W5, W5 = wr.alloc (.cells #[.int .i64 d.1, .int .i64 d.2] 33) := ⟨_, rfl⟩
      have hb5 : Below wr.heap.size wr W5 := by rw [hW5]; exact (Below.refl _ _).alloc (Nat.le_refl _) _
      have hI5 := hI.new hb5
      have hC5 := hCr.new hb5
      have hmd5 := hmd.below hC5.bel
      have hH5 := H0.out.1.below hC5.bel
      have hd5 : Blk W5 wr.heap.size 33 #[.int .i64 d.1, .int .i64 d.2] := by rw [hW5]; exact Blk.new _ _ _
      have HK := Lib.hid (And.intro hI5 (And.intro hC5 (And.intro hmd5 (And.intro hdd hd5))))
      have HDK := Lib.hid (And.intro hdk hd)
      clear hdk
      have p0 : W5.cell? ⟨bk, 2, none⟩ = some (.map (some bh)) := hH5.blk.cell 2
      have p1 : W5.cell? ⟨wr.heap.size, 0, none⟩ = some (.int .i64 d.1) := hd5.cell 0
      have p2 : W5.cell? ⟨wr.heap.size, 1, none⟩ = some (.int .i64 d.2) := hd5.cell 1
      have hq : (Instr.lookup 94 (.map (some bh)) (.agg #[.int .i64 d.1, .int .i64 d.2]) false).run Tryz.prog W5.drew = .ok (.map (some md)) W5.drew := by
        have := run_look pairRef (w := W5.drew) (show W5.drew.ownsMap Tryz.prog 33 anyElem bh (Maps.size Db) Db from hH5.beh) Tryz.underlying94 (zeroMapB _) hdi
        rw [hv] at this
        exact this
      clear hI hd hdm hdi hv hmd hn1 hn2 hn3 hdd hI5 hC5 hmd5 hd5 hb5 hon hCr hH5
      go_wp2_with fail
      rw [← hW5]
      clear hW5 ha
      go_still_tail 6, (by kernel_rfl)
      change wpList _ _ _ _ _ W5.drew
      refine wpList_range_own _ rfl _ 92 rfl 33 4 keyedRef Tryz.underlying92 _ md _ _ rfl (show W5.drew.ownsMap Tryz.prog 33 anyElem md (Maps.size Dd) Dd from HK.out.2.2.1) ?_
      intro W6 hrg6 hg6 hs6
      obtain ⟨it, hit⟩ : ∃ it, it = W5.drew.heap.size := ⟨_, rfl⟩
      rw [← hit] at hrg6 ⊢
      have hI6 : PutIX W4 W6 Dh c.ref m (SK (fun _ => False) c.deps (behL (L.map PCh.ch)) k) := by
        obtain ⟨Dm, h1, h2, h2k, h3⟩ := HK.out.1
        exact ⟨Dm, (show OM W5.drew m Dm from h1).only (only_grown0 (S := fun _ => False) hg6) (fun h => h), h2, h2k, (show Only _ W4 W5.drew from h3.drew).trans (only_grown0 hg6)⟩
      have h4it : W4.heap.size ≤ it := by
        obtain ⟨Dm, h1, h2, _, h3⟩ := HK.out.1
        have := h3.size
        rw [hit]; exact this
      have hml : m < it := by
        obtain ⟨Dm, h1, h2, _, h3⟩ := HK.out.1
        have := h1.lt
        rw [hit]; exact this
      have hmd : md ≠ m := by omega
      have HI := Lib.hid (And.intro hI6 hrg6)
      clear hrg6 hg6 hs6 hI6 p0 p1 p2 hq hit hx hy
      go_wp2_with fail
      go_frame
      go_loopw [8] (fun _ wj => ∃ (left : Lit → Bool) (cnt : Nat), wj.ranges Tryz.prog 33 anyElem md it (Maps.size Dd) Dd left cnt ∧ PutIX W4 wj Dh c.ref m (SV (SK (fun _ => False) c.deps (behL (L.map PCh.ch)) k) (behL (L.map PCh.ch) d) left)) (fun _ wj => wj.rangeLeft md it)
      case atStart => exact ⟨_, _, HI.out.2, HI.out.1.start HK.out.2.2.1 HDK.out.1 (fun s hs => hasD_ref HK.out.2.2.1 hs)⟩
      case round =>
        obtain ⟨left, cnt, hrg, hI⟩ := hrel
        have HR := Lib.hid hI
        clear hI
        go_wp2_with (first | (at_next; refine wpList_next_pair _ rfl _ rfl 33 pairRef md it _ Dd _ _ rfl hrg ?_ ?_) | fail)
        · intro hc0 hl0
          have HL0 := Lib.hid hl0
          clear hl0
          go_wp2_with fail
          exact ⟨⟨k + 1, by push_cast; rfl, by omega, HR.out.done HDK.out.2 HL0.out⟩, by simp [intOf]; omega⟩
        · intro x1 x2 v w2 cnt2 hx hl2 hat hrg2 hlt2 ho2 hs2 hen2
          obtain ⟨hv, hxk⟩ := HK.out.2.2.2.1 (x1, x2) hx v hat
          have hxb : (x1, x2) ∈ behL (L.map PCh.ch) d := (HDK.out.1 _ hx).1 (by rw [hat]; rfl)
          have hI2 : ∃ Dm, OM w2 m Dm ∧ Cont Dh c.ref Dm ∧ KeyPred Dm (SV (SK (fun _ => False) c.deps (behL (L.map PCh.ch)) k) (behL (L.map PCh.ch) d) left) ∧ Only (fun i => i = m) W4 w2 := by
            obtain ⟨Dm, h1, h2, h2k, h3⟩ := HR.out
            exact ⟨Dm, h1.only ho2 (by show m ≠ it; omega), h2, h2k, only_step h3 ho2 (fun i hi e => by have : i = it := e; omega)⟩
          obtain ⟨Dm, hm2, hc2, hk2, hon2⟩ := hI2
          have HK2 := Lib.hid (And.intro hk2 hxb)
          clear hk2 hxb
          have hsm : Maps.size Dm < maxLen := by
            have := hc2.size hm2 H0.out.1.has
            have := H0.out.2.2.2.2.2.1
            unfold maxLen
            omega
          have hm3 : OM (w2.alloc (.cells #[.int .i64 x1, .int .i64 x2] 33)) m Dm := hm2.below ((Below.refl _ _).alloc (Nat.le_refl _) _)
          have hlt := hrg.left_eq
          have HX := Lib.hid (And.intro hrg2 (And.intro hc2 (And.intro hon2 (And.intro hxk (And.intro hlt2 (And.intro hlt hm3))))))
          clear hrg hrg2 hc2 hon2 hxk hlt2 hat hl2 ho2 hs2 hlt hm2
          subst hv
          go_wp2_with (first
            | (at_mapUpdate; refine wpList_upd _ rfl _ _ _ 92 rfl 33 4 pairRef Tryz.underlying92 m _ Dm rfl hm3 hsm (x1, x2) rfl hx (.bool true) rfl ?_; intro w4 hm4 ho4 hs4; go_frame)
            | fail)
          obtain ⟨hrg2, hc2, hon2, hxk, hlt2, hlt, hm3'⟩ := HX.out
          have hrg4 := ranges_only (hrg2.alloc (.cells #[.int .i64 x1, .int .i64 x2] 33)) ho4 (by show ¬ (md = m); exact hmd) (by show ¬ (it = m); omega)
          refine ⟨⟨_, cnt2, hrg4, _, OM.of hm4, hc2.put hm3' hx (.inr hxk), HK2.out.1.step hm3' hx HK2.out.2 _, (hon2.alloc _).trans ho4⟩, ?_⟩
          rw [hlt, hrg4.left_eq]
          exact hlt2
    · obtain rfl : k = c.deps.length := by omega
      obtain ⟨Dm, hm1, hcm, hkm, hon'⟩ := hI
      have hkb : KeyPred Dm (fun s => s ∈ B) := fun s hs => by
        rw [hkm s hs, SK_all, HN.out.2.2.2.1]
        show _ ↔ s ∈ c.deps.flatMap (behL (L.map PCh.ch))
        rw [List.mem_flatMap]
        constructor
        · rintro (h | h)
          · exact h.elim
          · exact h
        · exact .inr
      have HKB := Lib.hid (And.intro hkb hm1)
      clear hkb hkm
      have hdms : Maps.size Dm ≤ 1001 := by
        have := hcm.size hm1 H0.out.1.has
        have := H0.out.2.2.2.2.2.1
        omega
      have hal : Below wr.heap.size wr (wr.alloc (.map #[] 0)) := (Below.refl _ _).alloc (Nat.le_refl _) _
      have hm2 := hm1.below hal
      have hml := hm1.lt
      have hmk : (wr.alloc (.map #[] 0)).ownsMap Tryz.prog 24 anyElem wr.heap.size 0 (.map []) := World.ownsMap_made wr _ _ _
      have HQ := Lib.hid (And.intro hCr (And.intro hcm (And.intro hdms (And.intro hml hmk))))
      clear hCr hcm hdms hml hmk hm1 hon hon' hmw
      go_wp2_with (first | (at_range; refine wpList_range_own _ rfl _ 92 rfl 33 4 keyedRef Tryz.underlying92 _ m _ _ rfl hm2 ?_; intro w1 hrg1 hg1 hs1) | fail)
      go_frame
      obtain ⟨it, hit⟩ : ∃ it, it = (wr.alloc (.map #[] 0)).heap.size := ⟨_, rfl⟩
      rw [← hit] at hrg1
      obtain ⟨mo, hmo⟩ : ∃ mo, mo = wr.heap.size := ⟨_, rfl⟩
      have hit2 : it = mo + 1 := by rw [hit, hmo]; simp
      have hwm : w.heap.size < mo := by have := HQ.out.1.blk.lt; omega
      have hmm2 : m < mo := by have := HQ.out.2.2.2.1; omega
      have hO1 : OpsM w1 mo (.map []) := by
        rw [hmo]
        exact ⟨own_tight (own_only HQ.out.2.2.2.2 (only_grown0 (S := fun _ => False) hg1) (fun h => h)), fun r hr v hv => by rw [mget_empty] at hv; cases hv⟩
      have hC1 : CB w c w1 := (HQ.out.1.new hal).turn (only_grown0 (S := fun _ => False) hg1) (fun i h => h.elim)
      have HS := Lib.hid (And.intro hrg1 (And.intro hO1 hC1))
      have hlf : ∀ s ∈ B, (Maps.has Dm (rlit s)) = true := fun s hs => by
        rw [hasD_ref HKB.out.2 (HN.out.2.2.2.2 s hs).1]
        exact (HKB.out.1 s (HN.out.2.2.2.2 s hs).1).2 hs
      have hkv : KV B (Maps.has Dm) = [] := List.eq_nil_iff_forall_not_mem.2 (fun s hs => by
        obtain ⟨h1, h2⟩ := KV_mem.1 hs
        rw [hlf s h1] at h2
        cases h2)
      have HKV := Lib.hid hkv
      clear hlf hkv
      clear hrg1 hO1 hC1 hg1 hs1 hal hm2
      rw [← hit, ← hmo]
      have HZ := Lib.hid hit2
      clear hit hmo hit2
      go_loopw [10, 11, 12, 13, 14] (fun _ _ _ _ _ wj => ∃ (left : Lit → Bool) (cnt : Nat) (Do : DataW Value), wj.ranges Tryz.prog 33 anyElem m it (Maps.size Dm) Dm left cnt ∧ OpsM wj mo Do ∧ CB w c wj ∧ Maps.size Do + 40 * cnt ≤ 40040 ∧ DX Do (knownF (L.map PCh.ch) (KV B left)) ∧ Seen (L.map PCh.ch) c.ch (KV B left)) (fun _ _ _ _ _ wj => wj.rangeLeft m it)
      case atStart => exact ⟨_, _, _, HS.out.1, HS.out.2.1, HS.out.2.2, by have := HQ.out.2.2.1; simp [Maps.size] at this ⊢; omega, by rw [HKV.out]; exact DX.empty.cong (fun n _ => (knownF_none (fun c _ h => (by cases h))).symm), by rw [HKV.out]; exact ⟨fun s h => (by cases h), fun x _ h => (by cases h)⟩⟩
      case round =>
        obtain ⟨left, cnt, Do, hrg, hO, hC, hsz, hdx, hseen⟩ := hrel
        have HDX := Lib.hid (And.intro hdx hseen)
        clear hdx hseen
        have HR := Lib.hid (And.intro hO (And.intro hC hsz))
        have hlo := hO.1.lt
        clear hO hC hsz
        go_wp2_with (first | (at_next; refine wpList_next_pair _ rfl _ rfl 33 pairRef m it _ Dm _ _ rfl hrg ?_ ?_) | fail)
        · intro hc0 hl0
          have HL := Lib.hid hrg.owns
          have hkv : ∀ s, s ∈ KV B left ↔ s ∈ B := fun s => by rw [KV_mem, hl0]; simp
          have HSE := Lib.hid (show Seen (L.map PCh.ch) c.ch (behAll (L.map PCh.ch) c.ch.deps) from by
            rw [← HN.out.2.2.2.1]
            exact ⟨fun s hs => HDX.out.2.1 s ((hkv s).2 hs), fun x hx hxr => HDX.out.2.2 x hx ((hkv _).2 hxr)⟩)
          have HDF := Lib.hid (show DX Do (knownF (L.map PCh.ch) (behAll (L.map PCh.ch) c.ch.deps)) from by
            rw [← HN.out.2.2.2.1]
            refine HDX.out.1.cong (fun n _ => ?_)
            unfold knownF
            congr 1
            refine List.filter_congr (fun x _ => ?_)
            rw [decide_eq_decide]
            exact hkv _)
          clear hkv
          clear hc0 hl0 hrg
          have p0 : wr.cell? ⟨w.heap.size, 0, none⟩ = some (.int .i64 c.actor) := HR.out.2.1.blk.cell 0
          have p1 : wr.cell? ⟨w.heap.size, 1, none⟩ = some (.int .i64 c.seq) := HR.out.2.1.blk.cell 1
          go_upto_region 25 with (fail)
          go_cut [104] from 91 to 104 (fun s104 wx => (∃ z : Bool, s104 = .bool z ∧ z = (decide (1 < c.seq) && !decide ((c.actor, c.seq - 1) ∈ B))) ∧ wx = wr)
          case first =>
            by_cases hq1 : 1 < c.seq
            · have d1 : decide (1 < c.seq) = true := decide_eq_true hq1
              have hi : I2 (c.actor, c.seq - 1) := by
                have h1 := H0.out.2.2.2.2.1
                have h2 := h1.2.2
                exact ⟨h1.1, ⟨by show (-9223372036854775808 : Int) ≤ c.seq - 1; omega, by show c.seq - 1 ≤ 9223372036854775807; have : c.seq ≤ 9223372036854775807 := h2; omega⟩⟩
              obtain ⟨z, hz, hzb⟩ : ∃ z, (mget Dm (c.actor, c.seq - 1)).getD (.bool false) = .bool z ∧ z = decide ((c.actor, c.seq - 1) ∈ B) := by
                have hkb := HKB.out.1 _ hi
                cases e : mget Dm (c.actor, c.seq - 1) with
                | none =>
                  rw [e] at hkb
                  exact ⟨false, rfl, (decide_eq_false (fun h => by have := hkb.2 h; cases this)).symm⟩
                | some v =>
                  rw [e] at hkb
                  exact ⟨true, (HQ.out.2.1 _ hi v e).1, (decide_eq_true (hkb.1 rfl)).symm⟩
              have HZB := Lib.hid (show (decide (1 < c.seq) && !decide ((c.actor, c.seq - 1) ∈ B)) = !z from by rw [← hzb, d1]; rfl)
              clear hzb
              have hq : (Instr.lookup 92 (.map (some m)) (.agg #[.int .i64 c.actor, .int .i64 (c.seq - 1)]) false).run Tryz.prog wr = .ok (.bool z) wr := by
                have := run_look pairRef (w := wr) HL.out Tryz.underlying92 (zeroBool _) hi
                rw [hz] at this
                exact this
              have hw1 : c.seq ≤ 9223372036854775807 := H0.out.2.2.2.2.1.2.2
              clear hz hi
              cases z
              all_goals
                go_wp2_with fail
                go_meet
                exact ⟨⟨_, rfl, HZB.out.symm⟩, rfl⟩
            · have d1 : decide (1 < c.seq) = false := decide_eq_false hq1
              have HZB := Lib.hid (show (decide (1 < c.seq) && !decide ((c.actor, c.seq - 1) ∈ B)) = false from by rw [d1]; rfl)
              go_wp2_with fail
              go_meet
              exact ⟨⟨_, rfl, HZB.out.symm⟩, rfl⟩
          case rest =>
            obtain ⟨⟨z, rfl, hzs⟩, rfl⟩ := hcut
            have HZS := Lib.hid (show z = (decide (1 < c.ch.seq) && !decide ((c.ch.actor, c.ch.seq - 1) ∈ behAll (L.map PCh.ch) c.ch.deps)) from by rw [hzs, HN.out.2.2.2.1]; rfl)
            clear hzs
            clear p0 p1
            cases z with
            | true =>
              go_wp2_with fail
              go_ret
              exact BoolW.no (fitsB_seq HZS.out.symm) HR.out.2.1.bel
            | false =>
              have q4 : wc.cell? ⟨w.heap.size, 4, none⟩ = some (.slice c.oA c.ops.length c.oc) := HR.out.2.1.blk.cell 4
              go_wp2_with fail
              clear q4
              go_loopw [108, 15, 16, 17] (fun iv _ _ _ wj => ∃ j : Nat, iv = .int .i64 j ∧ j ≤ c.ops.length ∧ ∃ Do, OpsM wj mo Do ∧ CB w c wj ∧ Maps.size Do + (c.ops.length - j) ≤ 40080 ∧ DX Do (opsF (knownF (L.map PCh.ch) (behAll (L.map PCh.ch) c.ch.deps)) c.actor c.start (c.ch.ops.take j)) ∧ mayAll (knownF (L.map PCh.ch) (behAll (L.map PCh.ch) c.ch.deps)) c.actor c.start c.ch.ops = mayAll (opsF (knownF (L.map PCh.ch) (behAll (L.map PCh.ch) c.ch.deps)) c.actor c.start (c.ch.ops.take j)) c.actor (c.start + j) (c.ch.ops.drop j)) (fun iv _ _ _ _ => c.ops.length - (intOf iv).toNat)
              case atStart =>
                refine ⟨0, rfl, Nat.zero_le _, Do, HR.out.1, HR.out.2.1, ?_, HDF.out, by simp [opsF]⟩
                have h1 := HR.out.2.2
                have h2 := H0.out.2.2.2.2.2.2.1.2
                omega
              case round =>
                obtain ⟨j, rfl, hj, Do4, hO4, hC4, hs4, hdx4, hma4⟩ := hrel
                have HD4 := Lib.hid (And.intro hdx4 hma4)
                clear hdx4 hma4
                by_cases hlt4 : j < c.ops.length
                · have ho := List.getElem?_eq_getElem hlt4
                  generalize c.ops[j] = o at ho
                  have hom := List.mem_of_getElem? ho
                  have HOP := Lib.hid (show c.ch.ops[j]? = some o.op from by show (c.ops.map POp.op)[j]? = _; rw [List.getElem?_map, ho]; rfl)
                  obtain ⟨b, off, ha, hcell⟩ := (H0.out.2.2.2.1.ops.below hC4.bel).op ho
                  have HA := Lib.hid ha
                  rw [ha]
                  have o0 : wr.cell? ⟨b, off + j * 13, none⟩ = some (.int .i64 o.op.kind) := hcell 0 _ rfl
                  have o1 : wr.cell? ⟨b, off + j * 13 + 1, none⟩ = some (.int .i64 o.op.obj.1) := hcell 1 _ rfl
                  have o2 : wr.cell? ⟨b, off + j * 13 + 2, none⟩ = some (.int .i64 o.op.obj.2) := hcell 2 _ rfl
                  have o3 : wr.cell? ⟨b, off + j * 13 + 3, none⟩ = some (.string o.op.key) := hcell 3 _ rfl
                  have o4 : wr.cell? ⟨b, off + j * 13 + 4, none⟩ = some (.int .i64 o.op.elem.1) := hcell 4 _ rfl
                  have o5 : wr.cell? ⟨b, off + j * 13 + 5, none⟩ = some (.int .i64 o.op.elem.2) := hcell 5 _ rfl
                  have o6 : wr.cell? ⟨b, off + j * 13 + 6, none⟩ = some (.bool o.op.ins) := hcell 6 _ rfl
                  have o7 : wr.cell? ⟨b, off + j * 13 + 7, none⟩ = some (.int .i64 o.op.val.k) := hcell 7 _ rfl
                  have o8 : wr.cell? ⟨b, off + j * 13 + 8, none⟩ = some (.int .i64 o.op.val.n) := hcell 8 _ rfl
                  have o9 : wr.cell? ⟨b, off + j * 13 + 9, none⟩ = some (.string o.op.val.s) := hcell 9 _ rfl
                  have o10 : wr.cell? ⟨b, off + j * 13 + 10, none⟩ = some (.int .i64 o.op.val.o) := hcell 10 _ rfl
                  have o11 : wr.cell? ⟨b, off + j * 13 + 11, none⟩ = some (.int .i64 o.op.val.p) := hcell 11 _ rfl
                  have o12 : wr.cell? ⟨b, off + j * 13 + 12, none⟩ = some (.slice o.pA o.op.preds.length o.pc) := hcell 12 _ rfl
                  have hsx := H0.out.2.2.2.2.2.2.1.1
                  have hl40 := H0.out.2.2.2.2.2.2.1.2
                  have H5 := Lib.hid (And.intro hO4 (And.intro hC4 (And.intro hs4 hom)))
                  clear hO4 hC4 hs4 ho ha hcell hom
                  go_upto_region 30 with (fail)
                  obtain ⟨W8, hW8⟩ : ∃ W8, W8 = wr.alloc (.cells #[.int .i64 o.op.kind, .int .i64 o.op.obj.1, .int .i64 o.op.obj.2, .string o.op.key, .int .i64 o.op.elem.1, .int .i64 o.op.elem.2, .bool o.op.ins, .int .i64 o.op.val.k, .int .i64 o.op.val.n, .string o.op.val.s, .int .i64 o.op.val.o, .int .i64 o.op.val.p, .slice o.pA o.op.preds.length o.pc] 51) := ⟨_, rfl⟩
                  rw [← hW8]
                  have hb8 : Below wr.heap.size wr W8 := by rw [hW8]; exact (Below.refl _ _).alloc (Nat.le_refl _) _
                  have hob : Blk W8 wr.heap.size 51 #[.int .i64 o.op.kind, .int .i64 o.op.obj.1, .int .i64 o.op.obj.2, .string o.op.key, .int .i64 o.op.elem.1, .int .i64 o.op.elem.2, .bool o.op.ins, .int .i64 o.op.val.k, .int .i64 o.op.val.n, .string o.op.val.s, .int .i64 o.op.val.o, .int .i64 o.op.val.p, .slice o.pA o.op.preds.length o.pc] := by rw [hW8]; exact Blk.new _ _ _
                  have hC8 := H5.out.2.1.new hb8
                  clear o0 o1 o2 o3 o4 o5 o6 o7 o8 o9 o10 o11 o12
                  have r0 : W8.cell? ⟨wr.heap.size, 0, none⟩ = some (.int .i64 o.op.kind) := hob.cell 0
                  have r1 : W8.cell? ⟨wr.heap.size, 1, none⟩ = some (.int .i64 o.op.obj.1) := hob.cell 1
                  have r2 : W8.cell? ⟨wr.heap.size, 2, none⟩ = some (.int .i64 o.op.obj.2) := hob.cell 2
                  have r3 : W8.cell? ⟨wr.heap.size, 3, none⟩ = some (.string o.op.key) := hob.cell 3
                  have r4 : W8.cell? ⟨wr.heap.size, 4, none⟩ = some (.int .i64 o.op.elem.1) := hob.cell 4
                  have r5 : W8.cell? ⟨wr.heap.size, 5, none⟩ = some (.int .i64 o.op.elem.2) := hob.cell 5
                  have r6 : W8.cell? ⟨wr.heap.size, 6, none⟩ = some (.bool o.op.ins) := hob.cell 6
                  have r7 : W8.cell? ⟨wr.heap.size, 7, none⟩ = some (.int .i64 o.op.val.k) := hob.cell 7
                  have r8 : W8.cell? ⟨wr.heap.size, 8, none⟩ = some (.int .i64 o.op.val.n) := hob.cell 8
                  have r9 : W8.cell? ⟨wr.heap.size, 9, none⟩ = some (.string o.op.val.s) := hob.cell 9
                  have r10 : W8.cell? ⟨wr.heap.size, 10, none⟩ = some (.int .i64 o.op.val.o) := hob.cell 10
                  have r11 : W8.cell? ⟨wr.heap.size, 11, none⟩ = some (.int .i64 o.op.val.p) := hob.cell 11
                  have r12 : W8.cell? ⟨wr.heap.size, 12, none⟩ = some (.slice o.pA o.op.preds.length o.pc) := hob.cell 12
                  have s0 : W8.cell? ⟨w.heap.size, 0, none⟩ = some (.int .i64 c.actor) := hC8.blk.cell 0
                  have s2 : W8.cell? ⟨w.heap.size, 2, none⟩ = some (.int .i64 c.start) := hC8.blk.cell 2
                  have H8 := Lib.hid (And.intro hb8 hC8)
                  clear hW8 hb8 hob hC8
                  go_upto_region 31 with (fail)
                  clear r0 r1 r2 r3 r4 r5 r6 r7 r8 r9 r10 r11 r12 s0 s2
                  obtain ⟨W9, hW9⟩ : ∃ W9, W9 = W8.alloc (.cells #[.int .i64 o.op.kind, .int .i64 o.op.obj.1, .int .i64 o.op.obj.2, .string o.op.key, .int .i64 o.op.elem.1, .int .i64 o.op.elem.2, .bool o.op.ins, .int .i64 o.op.val.k, .int .i64 o.op.val.n, .string o.op.val.s, .int .i64 o.op.val.o, .int .i64 o.op.val.p, .slice o.pA o.op.preds.length o.pc, .int .i64 (c.start + (j : Int)), .int .i64 c.actor] 135) := ⟨_, rfl⟩
                  rw [← hW9]
                  have hb9 : Below W8.heap.size W8 W9 := by rw [hW9]; exact (Below.refl _ _).alloc (Nat.le_refl _) _
                  have hb89 : Below wr.heap.size wr W9 := H8.out.1.trans (hb9.mono H8.out.1.size)
                  have hnb : Blk W9 W8.heap.size 135 #[.int .i64 o.op.kind, .int .i64 o.op.obj.1, .int .i64 o.op.obj.2, .string o.op.key, .int .i64 o.op.elem.1, .int .i64 o.op.elem.2, .bool o.op.ins, .int .i64 o.op.val.k, .int .i64 o.op.val.n, .string o.op.val.s, .int .i64 o.op.val.o, .int .i64 o.op.val.p, .slice o.pA o.op.preds.length o.pc, .int .i64 (c.start + (j : Int)), .int .i64 c.actor] := by rw [hW9]; exact Blk.new _ _ _
                  have hC9 := H8.out.2.new hb9
                  have hFC := opFits_is o.op o.pA o.pc (c.start + (j : Int), c.actor) mo Do4 _ HD4.out.1 W9 (H5.out.1.below hb89) ((H0.out.2.2.2.1.preds o H5.out.2.2.2).below hC9.bel) (H0.out.2.2.2.1.op o H5.out.2.2.2)
                  unfold OpX at hFC
                  have HFC := Lib.hid hFC
                  have hi9 : I2 (c.start + (j : Int), c.actor) := ⟨⟨by show (-9223372036854775808 : Int) ≤ c.start + (j : Int); omega, by show c.start + (j : Int) ≤ 9223372036854775807; omega⟩, H0.out.2.2.2.1.actor⟩
                  have H9 := Lib.hid (And.intro hb89 (And.intro hC9 (And.intro hnb hi9)))
                  have v0 : W9.cell? ⟨W8.heap.size, 0, none⟩ = some (.int .i64 o.op.kind) := hnb.cell 0
                  have v1 : W9.cell? ⟨W8.heap.size, 1, none⟩ = some (.int .i64 o.op.obj.1) := hnb.cell 1
                  have v2 : W9.cell? ⟨W8.heap.size, 2, none⟩ = some (.int .i64 o.op.obj.2) := hnb.cell 2
                  have v3 : W9.cell? ⟨W8.heap.size, 3, none⟩ = some (.string o.op.key) := hnb.cell 3
                  have v4 : W9.cell? ⟨W8.heap.size, 4, none⟩ = some (.int .i64 o.op.elem.1) := hnb.cell 4
                  have v5 : W9.cell? ⟨W8.heap.size, 5, none⟩ = some (.int .i64 o.op.elem.2) := hnb.cell 5
                  have v6 : W9.cell? ⟨W8.heap.size, 6, none⟩ = some (.bool o.op.ins) := hnb.cell 6
                  have v7 : W9.cell? ⟨W8.heap.size, 7, none⟩ = some (.int .i64 o.op.val.k) := hnb.cell 7
                  have v8 : W9.cell? ⟨W8.heap.size, 8, none⟩ = some (.int .i64 o.op.val.n) := hnb.cell 8
                  have v9 : W9.cell? ⟨W8.heap.size, 9, none⟩ = some (.string o.op.val.s) := hnb.cell 9
                  have v10 : W9.cell? ⟨W8.heap.size, 10, none⟩ = some (.int .i64 o.op.val.o) := hnb.cell 10
                  have v11 : W9.cell? ⟨W8.heap.size, 11, none⟩ = some (.int .i64 o.op.val.p) := hnb.cell 11
                  have v12 : W9.cell? ⟨W8.heap.size, 12, none⟩ = some (.slice o.pA o.op.preds.length o.pc) := hnb.cell 12
                  have v13 : W9.cell? ⟨W8.heap.size, 13, none⟩ = some (.int .i64 (c.start + (j : Int))) := hnb.cell 13
                  have v14 : W9.cell? ⟨W8.heap.size, 14, none⟩ = some (.int .i64 c.actor) := hnb.cell 14
                  clear hW9 hb9 hb89 hnb hC9 hFC hi9
                  go_cut [108, 125] from 108 to 130 (fun s108 s125 wx => s108 = .int .i64 (j : Int) ∧ (∃ z : Bool, s125 = .bool z ∧ mayF (opsF (knownF (L.map PCh.ch) (behAll (L.map PCh.ch) c.ch.deps)) c.actor c.start (c.ch.ops.take j)) o.op (c.start + (j : Int), c.actor) = !z) ∧ Below W9.heap.size W9 wx)
                  case first =>
                    obtain ⟨mz, hmz⟩ : ∃ mz, mayF (opsF (knownF (L.map PCh.ch) (behAll (L.map PCh.ch) c.ch.deps)) c.actor c.start (c.ch.ops.take j)) o.op (c.start + (j : Int), c.actor) = mz := ⟨_, rfl⟩
                    have HFC2 := HFC.out
                    rw [hmz] at HFC2
                    have HFC3 := Lib.hid HFC2
                    have HMZ := Lib.hid hmz
                    clear HFC2 hmz
                    go_wp2_with (go_at_call 76; refine HFC3.out.mono ?_; rintro e w5 ⟨rfl, hb5⟩)
                    go_meet
                    exact ⟨rfl, ⟨_, rfl, by rw [HMZ.out]; simp⟩, hb5⟩
                  case rest =>
                    obtain ⟨rfl, ⟨z, rfl, hmz⟩, hbc⟩ := hcut
                    have HMZ := Lib.hid hmz
                    clear hmz
                    clear v0 v1 v2 v3 v4 v5 v6 v7 v8 v9 v10 v11 v12 v13 v14
                    have hCc := H9.out.2.1.new hbc
                    cases z with
                    | true =>
                      have HCc := Lib.hid hCc
                      clear hCc hbc
                      go_wp2_with fail
                      go_ret
                      exact BoolW.no (fitsB_may (by show mayAll _ c.actor c.start c.ch.ops = false; rw [HD4.out.2, mayAll_at _ _ _ _ _ _ HOP.out, HMZ.out]; rfl)) HCc.out.bel
                    | false =>
                      have hnb := H9.out.2.2.1.below hbc H9.out.2.2.1.lt
                      have hOc := (H5.out.1.below H9.out.1).below hbc
                      have hO9 := hOc.1
                      have hi9 := H9.out.2.2.2
                      have hsz9 : Maps.size Do4 < maxLen := by have := H5.out.2.2.1; unfold maxLen; omega
                      have HD := Lib.hid (And.intro hCc hOc)
                      have v0 : wc.cell? ⟨W8.heap.size, 0, none⟩ = some (.int .i64 o.op.kind) := hnb.cell 0
                      have v1 : wc.cell? ⟨W8.heap.size, 1, none⟩ = some (.int .i64 o.op.obj.1) := hnb.cell 1
                      have v2 : wc.cell? ⟨W8.heap.size, 2, none⟩ = some (.int .i64 o.op.obj.2) := hnb.cell 2
                      have v3 : wc.cell? ⟨W8.heap.size, 3, none⟩ = some (.string o.op.key) := hnb.cell 3
                      have v4 : wc.cell? ⟨W8.heap.size, 4, none⟩ = some (.int .i64 o.op.elem.1) := hnb.cell 4
                      have v5 : wc.cell? ⟨W8.heap.size, 5, none⟩ = some (.int .i64 o.op.elem.2) := hnb.cell 5
                      have v6 : wc.cell? ⟨W8.heap.size, 6, none⟩ = some (.bool o.op.ins) := hnb.cell 6
                      have v7 : wc.cell? ⟨W8.heap.size, 7, none⟩ = some (.int .i64 o.op.val.k) := hnb.cell 7
                      have v8 : wc.cell? ⟨W8.heap.size, 8, none⟩ = some (.int .i64 o.op.val.n) := hnb.cell 8
                      have v9 : wc.cell? ⟨W8.heap.size, 9, none⟩ = some (.string o.op.val.s) := hnb.cell 9
                      have v10 : wc.cell? ⟨W8.heap.size, 10, none⟩ = some (.int .i64 o.op.val.o) := hnb.cell 10
                      have v11 : wc.cell? ⟨W8.heap.size, 11, none⟩ = some (.int .i64 o.op.val.p) := hnb.cell 11
                      have v12 : wc.cell? ⟨W8.heap.size, 12, none⟩ = some (.slice o.pA o.op.preds.length o.pc) := hnb.cell 12
                      have v13 : wc.cell? ⟨W8.heap.size, 13, none⟩ = some (.int .i64 (c.start + (j : Int))) := hnb.cell 13
                      have v14 : wc.cell? ⟨W8.heap.size, 14, none⟩ = some (.int .i64 c.actor) := hnb.cell 14
                      clear hCc hbc hnb hOc
                      go_wp2_with (first
                        | (at_mapUpdate; refine wpList_upd _ rfl _ _ _ 133 rfl 24 135 pairId Tryz.underlying133 mo _ Do4 rfl hO9 hsz9 (c.start + (j : Int), c.actor) rfl hi9 (OpX o.op o.pA o.pc (c.start + (j : Int), c.actor)) rfl ?_; intro w5 hm5 ho5 hs5)
                        | fail)
                      refine ⟨⟨j + 1, by push_cast; rfl, by omega, _, HD.out.2.put hi9 hm5, HD.out.1.turn ho5 (fun i e => by have : i = mo := e; omega), ?_, (HD4.out.1.put2 HD.out.2 hi9 o.op o.pA o.pc).cong (fun n _ => by rw [opsF_step _ _ _ _ _ _ HOP.out]), ?_⟩, by simp [intOf]; omega⟩
                      rotate_left
                      · rw [HD4.out.2, mayAll_at _ _ _ _ _ _ HOP.out, HMZ.out]
                        simp
                      have h1 := own_size hm5
                      have h2 := H5.out.2.2.1
                      omega
                · obtain rfl : j = c.ops.length := by omega
                  have H5 := Lib.hid hC4
                  clear hO4 hC4 hs4
                  go_wp2_with fail
                  go_ret
                  refine BoolW.yes (fitsB_yes HSE.out HZS.out.symm ?_) H5.out.bel
                  show mayAll _ c.actor c.start c.ch.ops = true
                  rw [HD4.out.2, List.drop_of_length_le (show c.ch.ops.length ≤ c.ops.length from by show (c.ops.map POp.op).length ≤ _; rw [List.length_map]; exact Nat.le_refl _)]
                  rfl
        · intro x1 x2 v w2 cnt2 hx hl2 hat hrg2 hlt2 ho2 hs2 hen2
          have hlc := hrg.left_eq
          have hxB : (x1, x2) ∈ B := (HKB.out.1 _ hx).1 (by rw [hat]; rfl)
          obtain ⟨x, hxL, hxr⟩ := (HN.out.2.2.2.2 _ hxB).2
          have hxg := chE_good (HN.out.2.1 x hxL).2
          have hnd : (L.map PCh.ref).Nodup := by have := HN.out.2.2.1.nd; rw [map_ch_ref] at this; exact this
          obtain ⟨hxv, hxc, hxs, hxl⟩ : (mget Dh (x1, x2)).getD zCh = x.value ∧ InC w x ∧ (0 ≤ x.start ∧ x.start ≤ 1000000) ∧ x.ops.length ≤ 40 :=
            ⟨by rw [HN.out.1 _ hx, ← hxr, findC_of hnd hxL]; rfl, (HN.out.2.1 x hxL).1, ⟨by have := hxg.st; omega, hxg.st.2⟩, hxg.ops⟩
          have HXX := Lib.hid (And.intro hxB (And.intro hxL hxr))
          clear hxB hxL hxg hnd hxr
          unfold PCh.value at hxv
          obtain ⟨W7, hW7⟩ : ∃ W7, W7 = w2.alloc (.cells #[.int .i64 x1, .int .i64 x2] 33) := ⟨_, rfl⟩
          have hb7 : Below w2.heap.size w2 W7 := by rw [hW7]; exact (Below.refl _ _).alloc (Nat.le_refl _) _
          have hC2 : CB w c w2 := HR.out.2.1.turn ho2 (fun i e => by have : i = it := e; have := HZ.out; omega)
          have hO2 : OpsM w2 mo Do := HR.out.1.only ho2 (by show ¬ (mo = it); have := HZ.out; omega)
          have hC7 := hC2.new hb7
          have hB7 : Blk W7 w2.heap.size 33 #[.int .i64 x1, .int .i64 x2] := by rw [hW7]; exact Blk.new _ _ _
          have hrg7 : W7.ranges Tryz.prog 33 anyElem m it (Maps.size Dm) Dm (fun z => left z && !z.sameKey (rlit (x1, x2))) cnt2 := by rw [hW7]; exact hrg2.alloc _
          have hS : ∀ W, Below W7.heap.size W7 W → W.cell? ⟨bk, 0, none⟩ = some (.map (some h)) ∧ W.cell? ⟨w2.heap.size, 0, none⟩ = some (.int .i64 x1) ∧ W.cell? ⟨w2.heap.size, 1, none⟩ = some (.int .i64 x2) ∧
              (Instr.lookup 93 (.map (some h)) (.agg #[.int .i64 x1, .int .i64 x2]) false).run Tryz.prog W = .ok (.agg #[.int .i64 x.actor, .int .i64 x.seq, .int .i64 x.start, .slice x.dA x.deps.length x.dc, .slice x.oA x.ops.length x.oc]) W := by
            intro W hW
            have h2 := H0.out.1.below (hC7.bel.trans (hW.mono hC7.bel.size))
            have hN2 := hB7.below hW hB7.lt
            refine ⟨h2.blk.cell 0, hN2.cell 0, hN2.cell 1, ?_⟩
            have := run_look pairRef (w := W) h2.has Tryz.underlying93 (zeroCh _) hx
            rw [hxv] at this
            exact this
          have HX := Lib.hid (And.intro hrg7 (And.intro (hO2.below hb7) (And.intro hC7 (And.intro hB7 (And.intro (And.intro hlt2 hlc) (And.intro hxc (And.intro hxs (And.intro hxl hx))))))))
          have HKS := Lib.hid hS
          have hS0 := hS W7 (Below.refl _ _)
          clear hrg hrg2 hl2 hat hlt2 ho2 hs2 hlc hxv hxc hxs hxl hb7 hC2 hO2 hC7 hB7 hrg7 hS hx
          go_upto_region 14 with (fail)
          rw [← hW7]
          clear hW7
          obtain ⟨p1, p2, p3, p4⟩ := hS0
          go_cut [11] from 43 to 90 (fun s11 wx => s11 = .pointer (some ⟨W7.heap.size, 0, none⟩) ∧ Below W7.heap.size W7 wx ∧ Blk wx W7.heap.size 65 #[.int .i64 x.actor, .int .i64 x.seq, .int .i64 x.start, .slice x.dA x.deps.length x.dc, .slice x.oA x.ops.length x.oc])
          case first =>
            go_region_held3 (fun w' => w'.cell? ⟨bk, 0, none⟩ = some (.map (some h)) ∧ w'.cell? ⟨w2.heap.size, 0, none⟩ = some (.int .i64 x1) ∧ w'.cell? ⟨w2.heap.size, 1, none⟩ = some (.int .i64 x2) ∧ (Instr.lookup 93 (.map (some h)) (.agg #[.int .i64 x1, .int .i64 x2]) false).run Tryz.prog w' = .ok (.agg #[.int .i64 x.actor, .int .i64 x.seq, .int .i64 x.start, .slice x.dA x.deps.length x.dc, .slice x.oA x.ops.length x.oc]) w')
              (first | (with_reducible exact HKS.out _ (Below.refl _ W7).drew) | (with_reducible exact HKS.out _ ((Below.refl _ W7).alloc (Nat.le_refl _) _).drew) | go_keep) (first | fail)
            all_goals
              go_wp2_with fail
              go_meet
              exact ⟨rfl, ((Below.refl _ _).alloc (Nat.le_refl _) _).drew, Blk.new _ _ _⟩
          case rest =>
            obtain ⟨rfl, hbx, hxb⟩ := hcut
            have hCc := HX.out.2.2.1.new hbx
            have hrb := HX.out.2.2.2.1.below hbx HX.out.2.2.2.1.lt
            have HY := Lib.hid (And.intro hbx (And.intro hxb hCc))
            have q0 : wc.cell? ⟨w2.heap.size, 0, none⟩ = some (.int .i64 x1) := hrb.cell 0
            have q1 : wc.cell? ⟨w2.heap.size, 1, none⟩ = some (.int .i64 x2) := hrb.cell 1
            have q2 : wc.cell? ⟨w.heap.size, 0, none⟩ = some (.int .i64 c.actor) := hCc.blk.cell 0
            have q3 : wc.cell? ⟨w.heap.size, 1, none⟩ = some (.int .i64 c.seq) := hCc.blk.cell 1
            clear hbx hxb p1 p2 p3 p4 hCc hrb
            go_upto_region 15 with (fail)
            go_cut [64] from 43 to 90 (fun s64 wx => (∃ z : Bool, s64 = .bool z ∧ z = ((x1 == c.actor) && decide (c.seq ≤ x2))) ∧ wx = wc)
            case first =>
              obtain ⟨a, ha⟩ : ∃ a, (x1 == c.actor) = a := ⟨_, rfl⟩
              obtain ⟨b, hb⟩ : ∃ b, decide (c.seq ≤ x2) = b := ⟨_, rfl⟩
              have HAB := Lib.hid (show ((x1 == c.actor) && decide (c.seq ≤ x2)) = (a && b) from by rw [ha, hb])
              cases a <;> cases b
              all_goals
                go_wp2_with fail
                go_meet
                exact ⟨⟨_, rfl, HAB.out.symm⟩, rfl⟩
            case rest =>
              obtain ⟨⟨z, rfl, hzt⟩, rfl⟩ := hcut
              have HZT := Lib.hid hzt
              clear hzt
              clear q0 q1 q2 q3
              cases z with
              | true =>
                go_wp2_with fail
                go_ret
                refine BoolW.no (fitsB_seen (fun h => ?_)) HY.out.2.2.bel
                have h1 := HZT.out.symm
                rw [Bool.and_eq_true, beq_iff_eq, decide_eq_true_eq] at h1
                have h2 := h.1 (x1, x2) (by rw [← HN.out.2.2.2.1]; exact HXX.out.1) h1.1
                have h3 : x2 < c.seq := h2
                omega
              | false =>
                have q4 : wc.cell? ⟨W7.heap.size, 4, none⟩ = some (.slice x.oA x.ops.length x.oc) := HY.out.2.1.cell 4
                have hxl : x.ops.length ≤ 9223372036854775807 := by have := HX.out.2.2.2.2.2.2.2.1; omega
                have hst4 : ∃ Do, OpsM wc mo Do ∧ wc.ranges Tryz.prog 33 anyElem m it (Maps.size Dm) Dm (fun z => left z && !z.sameKey (rlit (x1, x2))) cnt2 ∧ CB w c wc ∧ Blk wc W7.heap.size 65 #[.int .i64 x.actor, .int .i64 x.seq, .int .i64 x.start, .slice x.dA x.deps.length x.dc, .slice x.oA x.ops.length x.oc] ∧ Maps.size Do + (x.ops.length - 0) + 40 * cnt2 ≤ 40040 ∧ DX Do (plusF (knownF (L.map PCh.ch) (KV B left)) x.ch 0) ∧ (∀ (i : Nat) o, i < 0 → x.ch.ops[i]? = some o → x.start + (i : Int) < c.start) := by
                  refine ⟨Do, HX.out.2.1.below HY.out.1, ranges_only HX.out.1 (Only.of_below (S := fun _ => False) HY.out.1) (fun h => h) (fun h => h), HY.out.2.2, HY.out.2.1, ?_, HDX.out.1.cong (fun n _ => (plusF_zero _ _ _).symm), fun i o h => absurd h (Nat.not_lt_zero i)⟩
                  have h1 := HX.out.2.2.2.2.1.1
                  have h2 := HR.out.2.2
                  have h3 := HX.out.2.2.2.2.2.2.2.1
                  omega
                have H4 := Lib.hid hst4
                clear hst4
                go_wp2_with fail
                clear q4
                go_loopw [68, 12, 13, 14] (fun iv _ _ _ wj => ∃ j : Nat, iv = .int .i64 j ∧ j ≤ x.ops.length ∧ ∃ Do, OpsM wj mo Do ∧ wj.ranges Tryz.prog 33 anyElem m it (Maps.size Dm) Dm (fun z => left z && !z.sameKey (rlit (x1, x2))) cnt2 ∧ CB w c wj ∧ Blk wj W7.heap.size 65 #[.int .i64 x.actor, .int .i64 x.seq, .int .i64 x.start, .slice x.dA x.deps.length x.dc, .slice x.oA x.ops.length x.oc] ∧ Maps.size Do + (x.ops.length - j) + 40 * cnt2 ≤ 40040 ∧ DX Do (plusF (knownF (L.map PCh.ch) (KV B left)) x.ch j) ∧ (∀ (i : Nat) o, i < j → x.ch.ops[i]? = some o → x.start + (i : Int) < c.start)) (fun iv _ _ _ _ => x.ops.length - (intOf iv).toNat)
                case atStart => exact ⟨0, rfl, Nat.zero_le _, H4.out⟩
                case round =>
                  obtain ⟨j, rfl, hj, Do4, hO4, hrg4, hC4, hB4, hs4, hdx4, hlo4⟩ := hrel
                  have HD4 := Lib.hid (And.intro hdx4 hlo4)
                  clear hdx4 hlo4
                  by_cases hlt4 : j < x.ops.length
                  · have ho := List.getElem?_eq_getElem hlt4
                    generalize x.ops[j] = o at ho
                    have hom := List.mem_of_getElem? ho
                    have HOP := Lib.hid (show x.ch.ops[j]? = some o.op from by show (x.ops.map POp.op)[j]? = _; rw [List.getElem?_map, ho]; rfl)
                    obtain ⟨b, off, ha, hcell⟩ := (HX.out.2.2.2.2.2.1.ops.below hC4.bel).op ho
                    have HA := Lib.hid ha
                    rw [ha]
                    have o0 : wr.cell? ⟨b, off + j * 13, none⟩ = some (.int .i64 o.op.kind) := hcell 0 _ rfl
                    have o1 : wr.cell? ⟨b, off + j * 13 + 1, none⟩ = some (.int .i64 o.op.obj.1) := hcell 1 _ rfl
                    have o2 : wr.cell? ⟨b, off + j * 13 + 2, none⟩ = some (.int .i64 o.op.obj.2) := hcell 2 _ rfl
                    have o3 : wr.cell? ⟨b, off + j * 13 + 3, none⟩ = some (.string o.op.key) := hcell 3 _ rfl
                    have o4 : wr.cell? ⟨b, off + j * 13 + 4, none⟩ = some (.int .i64 o.op.elem.1) := hcell 4 _ rfl
                    have o5 : wr.cell? ⟨b, off + j * 13 + 5, none⟩ = some (.int .i64 o.op.elem.2) := hcell 5 _ rfl
                    have o6 : wr.cell? ⟨b, off + j * 13 + 6, none⟩ = some (.bool o.op.ins) := hcell 6 _ rfl
                    have o7 : wr.cell? ⟨b, off + j * 13 + 7, none⟩ = some (.int .i64 o.op.val.k) := hcell 7 _ rfl
                    have o8 : wr.cell? ⟨b, off + j * 13 + 8, none⟩ = some (.int .i64 o.op.val.n) := hcell 8 _ rfl
                    have o9 : wr.cell? ⟨b, off + j * 13 + 9, none⟩ = some (.string o.op.val.s) := hcell 9 _ rfl
                    have o10 : wr.cell? ⟨b, off + j * 13 + 10, none⟩ = some (.int .i64 o.op.val.o) := hcell 10 _ rfl
                    have o11 : wr.cell? ⟨b, off + j * 13 + 11, none⟩ = some (.int .i64 o.op.val.p) := hcell 11 _ rfl
                    have o12 : wr.cell? ⟨b, off + j * 13 + 12, none⟩ = some (.slice o.pA o.op.preds.length o.pc) := hcell 12 _ rfl
                    have hsx := HX.out.2.2.2.2.2.2.1
                    have hl40 := HX.out.2.2.2.2.2.2.2.1
                    have H5 := Lib.hid (And.intro hO4 (And.intro hrg4 (And.intro hC4 (And.intro hB4 (And.intro hs4 hom)))))
                    clear hO4 hrg4 hC4 hB4 hs4 ho ha hcell hom
                    go_upto_region 20 with (fail)
                    obtain ⟨W8, hW8⟩ : ∃ W8, W8 = wr.alloc (.cells #[.int .i64 o.op.kind, .int .i64 o.op.obj.1, .int .i64 o.op.obj.2, .string o.op.key, .int .i64 o.op.elem.1, .int .i64 o.op.elem.2, .bool o.op.ins, .int .i64 o.op.val.k, .int .i64 o.op.val.n, .string o.op.val.s, .int .i64 o.op.val.o, .int .i64 o.op.val.p, .slice o.pA o.op.preds.length o.pc] 51) := ⟨_, rfl⟩
                    rw [← hW8]
                    have hb8 : Below wr.heap.size wr W8 := by rw [hW8]; exact (Below.refl _ _).alloc (Nat.le_refl _) _
                    have hob : Blk W8 wr.heap.size 51 #[.int .i64 o.op.kind, .int .i64 o.op.obj.1, .int .i64 o.op.obj.2, .string o.op.key, .int .i64 o.op.elem.1, .int .i64 o.op.elem.2, .bool o.op.ins, .int .i64 o.op.val.k, .int .i64 o.op.val.n, .string o.op.val.s, .int .i64 o.op.val.o, .int .i64 o.op.val.p, .slice o.pA o.op.preds.length o.pc] := by rw [hW8]; exact Blk.new _ _ _
                    have hxb8 := H5.out.2.2.2.1.below hb8 H5.out.2.2.2.1.lt
                    have r0 : W8.cell? ⟨W7.heap.size, 0, none⟩ = some (.int .i64 x.actor) := hxb8.cell 0
                    have r2 : W8.cell? ⟨W7.heap.size, 2, none⟩ = some (.int .i64 x.start) := hxb8.cell 2
                    have H8 := Lib.hid (And.intro hb8 hob)
                    clear hW8 hb8 hob hxb8 o0 o1 o2 o3 o4 o5 o6 o7 o8 o9 o10 o11 o12
                    go_upto_region 21 with (fail)
                    clear r0 r2
                    obtain ⟨W9, hW9⟩ : ∃ W9, W9 = W8.alloc (.cells #[.int .i64 (x.start + (j : Int)), .int .i64 x.actor] 24) := ⟨_, rfl⟩
                    rw [← hW9]
                    have hb9 : Below W8.heap.size W8 W9 := by rw [hW9]; exact (Below.refl _ _).alloc (Nat.le_refl _) _
                    have hb89 : Below wr.heap.size wr W9 := H8.out.1.trans (hb9.mono H8.out.1.size)
                    have hnb : Blk W9 W8.heap.size 24 #[.int .i64 (x.start + (j : Int)), .int .i64 x.actor] := by rw [hW9]; exact Blk.new _ _ _
                    have hob9 := H8.out.2.below hb9 H8.out.2.lt
                    have hC9 := H5.out.2.2.1.new hb89
                    have hO9 := (H5.out.1.below hb89).1
                    have hsz9 : Maps.size Do4 < maxLen := by have := H5.out.2.2.2.2.1; unfold maxLen; omega
                    have hi9 : I2 (x.start + (j : Int), x.actor) := ⟨⟨by show (-9223372036854775808 : Int) ≤ x.start + (j : Int); omega, by show x.start + (j : Int) ≤ 9223372036854775807; omega⟩, HX.out.2.2.2.2.2.1.actor⟩
                    have o0 : W9.cell? ⟨wr.heap.size, 0, none⟩ = some (.int .i64 o.op.kind) := hob9.cell 0
                    have o1 : W9.cell? ⟨wr.heap.size, 1, none⟩ = some (.int .i64 o.op.obj.1) := hob9.cell 1
                    have o2 : W9.cell? ⟨wr.heap.size, 2, none⟩ = some (.int .i64 o.op.obj.2) := hob9.cell 2
                    have o3 : W9.cell? ⟨wr.heap.size, 3, none⟩ = some (.string o.op.key) := hob9.cell 3
                    have o4 : W9.cell? ⟨wr.heap.size, 4, none⟩ = some (.int .i64 o.op.elem.1) := hob9.cell 4
                    have o5 : W9.cell? ⟨wr.heap.size, 5, none⟩ = some (.int .i64 o.op.elem.2) := hob9.cell 5
                    have o6 : W9.cell? ⟨wr.heap.size, 6, none⟩ = some (.bool o.op.ins) := hob9.cell 6
                    have o7 : W9.cell? ⟨wr.heap.size, 7, none⟩ = some (.int .i64 o.op.val.k) := hob9.cell 7
                    have o8 : W9.cell? ⟨wr.heap.size, 8, none⟩ = some (.int .i64 o.op.val.n) := hob9.cell 8
                    have o9 : W9.cell? ⟨wr.heap.size, 9, none⟩ = some (.string o.op.val.s) := hob9.cell 9
                    have o10 : W9.cell? ⟨wr.heap.size, 10, none⟩ = some (.int .i64 o.op.val.o) := hob9.cell 10
                    have o11 : W9.cell? ⟨wr.heap.size, 11, none⟩ = some (.int .i64 o.op.val.p) := hob9.cell 11
                    have o12 : W9.cell? ⟨wr.heap.size, 12, none⟩ = some (.slice o.pA o.op.preds.length o.pc) := hob9.cell 12
                    have n0 : W9.cell? ⟨W8.heap.size, 0, none⟩ = some (.int .i64 (x.start + (j : Int))) := hnb.cell 0
                    have n1 : W9.cell? ⟨W8.heap.size, 1, none⟩ = some (.int .i64 x.actor) := hnb.cell 1
                    have n2 : W9.cell? ⟨w.heap.size, 2, none⟩ = some (.int .i64 c.start) := hC9.blk.cell 2
                    have H9 := Lib.hid (And.intro hb89 hC9)
                    clear hW9 hb9 hb89 hnb hob9 hC9
                    obtain ⟨z, hz⟩ : ∃ z, decide (c.start ≤ x.start + (j : Int)) = z := ⟨_, rfl⟩
                    have HZZ := Lib.hid hz
                    cases z with
                    | true =>
                      go_wp2_with fail
                      go_ret
                      refine BoolW.no (fitsB_seen (fun h => ?_)) H9.out.2.bel
                      have h1 := of_decide_eq_true HZZ.out
                      have h2 : x.start + (j : Int) < c.start := h.2 x.ch (List.mem_map_of_mem HXX.out.2.1) (by rw [← HN.out.2.2.2.1, PCh.ch_ref, HXX.out.2.2]; exact HXX.out.1) j o.op HOP.out
                      omega
                    | false =>
                      go_wp2_with (first
                        | (at_mapUpdate; refine wpList_upd _ rfl _ _ _ 133 rfl 24 135 pairId Tryz.underlying133 mo _ Do4 rfl hO9 hsz9 (x.start + (j : Int), x.actor) rfl hi9 (OpX o.op o.pA o.pc (x.start + (j : Int), x.actor)) rfl ?_; intro w5 hm5 ho5 hs5)
                        | fail)
                      have hmo7 := HX.out.2.1.1.lt
                      have hzz := HZ.out
                      have hxb5 : Blk w5 W7.heap.size 65 #[.int .i64 x.actor, .int .i64 x.seq, .int .i64 x.start, .slice x.dA x.deps.length x.dc, .slice x.oA x.ops.length x.oc] := (H5.out.2.2.2.1.below H9.out.1 H5.out.2.2.2.1.lt).only ho5 (by show ¬ (W7.heap.size = mo); omega)
                      rw [HA.out] at hxb5
                      refine ⟨⟨j + 1, by push_cast; rfl, by omega, _, (H5.out.1.below H9.out.1).put hi9 hm5, ranges_only (ranges_only H5.out.2.1 (Only.of_below (S := fun _ => False) H9.out.1) (fun h => h) (fun h => h)) ho5 (by show ¬ (m = mo); omega) (by show ¬ (it = mo); omega), H9.out.2.turn ho5 (fun i e => by have : i = mo := e; omega), hxb5, ?_, (HD4.out.1.put2 (H5.out.1.below H9.out.1) hi9 o.op o.pA o.pc).cong (fun n _ => plusF_step _ x.ch j o.op HOP.out n), fun i p hi hp => ?_⟩, by simp [intOf]; omega⟩
                      rotate_left
                      · by_cases e : i = j
                        · subst e
                          have := of_decide_eq_false HZZ.out
                          omega
                        · exact HD4.out.2 i p (by omega) hp
                      have h1 := own_size hm5
                      have h2 := H5.out.2.2.2.2.1
                      omega
                  · obtain rfl : j = x.ops.length := by omega
                    have H5 := Lib.hid (And.intro hO4 (And.intro hrg4 (And.intro hC4 (And.intro hB4 hs4))))
                    clear hO4 hrg4 hC4 hB4 hs4
                    go_wp2_with fail
                    have hkv : ∀ s, s ∈ KV B (fun z => left z && !z.sameKey (rlit (x1, x2))) ↔ s = x.ch.ref ∨ s ∈ KV B left := fun s => by
                      rw [KV_step (fun s hs => (HN.out.2.2.2.2 s hs).1) HXX.out.1, PCh.ch_ref, HXX.out.2.2]
                    have hxl : x.ch.ops.length = x.ops.length := List.length_map ..
                    refine ⟨⟨_, cnt2, _, H5.out.2.1, H5.out.1, H5.out.2.2.1, by have := H5.out.2.2.2.2; omega, ?_, ?_⟩, ?_⟩
                    · refine HD4.out.1.cong (fun n _ => ?_)
                      rw [← hxl]
                      exact plusF_all HN.out.2.2.1 (List.mem_map_of_mem HXX.out.2.1) hkv n
                    · refine HDX.out.2.step HN.out.2.2.1.nd (List.mem_map_of_mem HXX.out.2.1) hkv (fun e => ?_) (fun i o hi => HD4.out.2 i o (by rw [← hxl]; exact (List.getElem?_eq_some_iff.1 hi).1) hi)
                      rw [PCh.ch_ref, HXX.out.2.2] at e ⊢
                      have h1 := HZT.out.symm
                      have e : x1 = c.actor := e
                      show x2 < c.seq
                      rw [e, beq_self_eq_true, Bool.true_and] at h1
                      have := of_decide_eq_false h1
                      omega
                    rw [H5.out.2.1.left_eq, HX.out.2.2.2.2.1.2]
                    exact HX.out.2.2.2.2.1.1
end Go.Proofs.YteknflimfdkhoaaGreat
