/- dag.Book.Heads: are there any? -/
import Derived.Test.YtdenaejhfgmihaaDagDelF
import Derived.Test.YtdenaejhfgmihaaDagAllP
namespace Go.Proofs.Ytdenaejhfgmihaa
open Go.RowKit Go.Maps
set_option linter.unusedVariables false
set_option linter.unusedSimpArgs false

set_option maxRecDepth 100000 in
set_option maxHeartbeats 1000000 in
theorem heads1_any (db dm : Nat) (Dd : DataW Value) (done : List (Int × Int)) (r : Int × Int) (w : World) (hd : Blk w db 52 #[.map (some dm)]) (hs : SetM w dm Dd done) (hr : I2 r) :
    Calls Try.prog 27 #[.agg #[.int .i64 r.1, .int .i64 r.2], .pointer (some ⟨db, 0, none⟩)] w fun e w' => e = .returned (.bool (decide (r ∈ done))) ∧ Below w.heap.size w w' := by
  obtain ⟨W0, hW0⟩ : ∃ W0, W0 = w.alloc (.cells #[.int .i64 r.1, .int .i64 r.2] 34) := ⟨_, rfl⟩
  have hb0 : Below w.heap.size w W0 := by rw [hW0]; exact (Below.refl _ _).alloc (Nat.le_refl _) _
  have c0 : W0.cell? ⟨db, 0, none⟩ = some (.map (some dm)) := (hd.below hb0 hd.lt).cell 0
  have hN : Blk W0 w.heap.size 34 #[.int .i64 r.1, .int .i64 r.2] := by rw [hW0]; exact Blk.new _ _ _
  have c1 : W0.cell? ⟨w.heap.size, 0, none⟩ = some (.int .i64 r.1) := hN.cell 0
  have c2 : W0.cell? ⟨w.heap.size, 1, none⟩ = some (.int .i64 r.2) := hN.cell 1
  obtain ⟨z, hz⟩ : ∃ z, decide (r ∈ done) = z := ⟨_, rfl⟩
  have hq : (Instr.lookup 52 (.map (some dm)) (.agg #[.int .i64 r.1, .int .i64 r.2]) false).run Try.prog W0 = .ok (.bool z) W0 := by
    have := run_look pairRef (w := W0) (hs.below hb0).own Try.underlying52 (zeroBool _) hr
    rw [hs.look hr, hz] at this
    exact this
  have HB := Lib.hid (And.intro hb0 hW0)
  rw [hz]
  clear hz hb0 hW0 hd hs hN
  go_enter Try.func27, Try.ntmps27
  go_upto_region 1 with (fail)
  rw [← HB.out.2]
  go_wp2_with fail
  go_ret
  exact ⟨rfl, HB.out.1⟩

/-- Is there one on which none hangs? -/
def HeadsQ (w : World) (L : List PCh) (e : Ending) (w' : World) : Prop := ∃ (A : Option Addr) (n c : Nat), e = .returned (.slice A n c) ∧ (n = 0 ↔ L = []) ∧ n ≤ 120 ∧ Below w.heap.size w w'
theorem own_base0H {w : World} {B e sz n : Nat} {v : Value} {xs : List Value} (h : w.ownsRow B e sz v n xs) : w.ownsRow 0 e sz v n xs := by
  obtain ⟨h1, h2⟩ := h
  refine ⟨h1, ?_⟩
  rcases h2 with h2 | ⟨g, cap, cur, hv, hb, hr⟩
  · exact .inl h2
  · exact .inr ⟨g, cap, cur, hv, Nat.zero_le _, hr⟩
theorem own_lowH {w : World} {B e sz n c : Nat} {A : Option Addr} {xs : List Value} (h : w.ownsRow B e sz (.slice A n c) n xs) : ∀ b ∈ blkOf A, B ≤ b := by
  rcases h.2 with ⟨hv, _⟩ | ⟨g, cap, cur, hv, hb, _⟩
  · injection hv with hA _ _
    subst hA
    intro b hb
    cases hb
  · injection hv with hA _ _
    subst hA
    intro b hb'
    simp [blkOf] at hb'
    omega
/-- The last that came: none hangs on it. -/
theorem last_head {w : World} {bk h wt bh : Nat} {Dh Dw Db : DataW Value} {L : List PCh} (H : Dag w bk h wt bh Dh Dw Db L) (hne : L ≠ []) : ∃ r ∈ L.map PCh.ref, ∀ c ∈ L, r ∉ c.deps := by
  rcases List.eq_nil_or_concat L with rfl | ⟨L0, y, hL⟩
  · exact absurd rfl hne
  · rw [List.concat_eq_append] at hL
    subst hL
    refine ⟨y.ref, by simp, fun c hc hd => ?_⟩
    obtain ⟨L1, L2, e⟩ := List.append_of_mem hc
    have hm := H.shut L1 c L2 e y.ref hd
    have hn := H.ndp
    have e2 : L0 ++ [y] = L1 ++ c :: L2 := e
    have hL1 : ∃ t, L0 = L1 ++ t := by
      rcases List.eq_nil_or_concat L2 with rfl | ⟨L3, z, hL3⟩
      · exact ⟨[], by have := List.append_inj' (show L0 ++ [y] = L1 ++ [c] from e2) rfl; rw [this.1]; simp⟩
      · rw [List.concat_eq_append] at hL3
        subst hL3
        exact ⟨c :: L3, by have := List.append_inj' (show L0 ++ [y] = (L1 ++ c :: L3) ++ [z] by rw [e2]; simp) rfl; exact this.1⟩
    obtain ⟨t, ht⟩ := hL1
    rw [List.map_append, List.nodup_append] at hn
    exact hn.2.2 y.ref (by rw [ht, List.map_append]; exact List.mem_append.2 (.inl hm)) y.ref (by simp) rfl

set_option maxRecDepth 100000 in
set_option maxHeartbeats 4000000 in
theorem heads_any (bk h wt bh : Nat) (Dh Dw Db : DataW Value) (L : List PCh) (w : World) (H : Dag w bk h wt bh Dh Dw Db L) :
    Calls Try.prog 11 #[.pointer (some ⟨bk, 0, none⟩)] w (HeadsQ w L) := by
  have hmm := @run_makeMap Try.prog
  obtain ⟨W2, hW2⟩ : ∃ W2, W2 = (w.alloc (.map #[] 0)).alloc (.cells #[.map (some w.heap.size)] 52) := ⟨_, rfl⟩
  have hb2 : Below w.heap.size w W2 := by rw [hW2]; exact ((Below.refl _ _).alloc (Nat.le_refl _) _).alloc (by simp) _
  obtain ⟨dm, hdm⟩ : ∃ dm, dm = w.heap.size := ⟨_, rfl⟩
  have hd2 : Blk W2 (dm + 1) 52 #[.map (some dm)] := by rw [hW2, hdm]; exact Blk.newer _ _ _ (by simp)
  have hm2 : SetM W2 dm (.map []) [] := by
    refine ⟨?_, fun r hr => by rw [mget_empty]; rfl⟩
    have := (World.ownsMap_made w Try.prog 34 anyElem).alloc (.cells #[.map (some w.heap.size)] 52)
    rw [← hW2, ← hdm] at this
    exact OM.of this
  have hs2 : W2.heap.size = dm + 2 := by rw [hW2, hdm]; simp
  have H2 := Lib.hid (And.intro hb2 (And.intro hd2 (And.intro hm2 (And.intro H (And.intro hW2 (And.intro hdm hs2))))))
  have p1 : W2.cell? ⟨bk, 0, none⟩ = some (.map (some h)) := (H.below hb2).bkm.blk.cell 0
  have HO := (show W2.ownsMap Try.prog 34 anyElem h (Maps.size Dh) Dh from (H.below hb2).bkm.has)
  have hsz : Maps.size Dh ≤ 120 := by have := H.sz; omega
  clear hb2 hd2 hm2 H hW2 hdm hs2
  go_enter Try.func11, Try.ntmps11
  go_upto_region 2 with (fail)
  rw [← H2.out.2.2.2.2.1, ← H2.out.2.2.2.2.2.1]
  go_wp2_with (first | (at_range; refine wpList_range_own _ rfl _ 41 rfl 34 31 keyedRef Try.underlying41 _ h _ _ rfl HO ?_; intro w1 hrg1 hg1 hs1) | fail)
  go_frame
  obtain ⟨it, hit⟩ : ∃ it, it = W2.heap.size := ⟨_, rfl⟩
  rw [← hit] at hrg1 ⊢
  have ho1 : Only (fun _ => False) W2 w1 := only_grown0 hg1
  have hb1 : Below W2.heap.size W2 w1 := ho1.below (Nat.le_refl _) (fun _ _ h => h)
  have HI := Lib.hid (And.intro hrg1 (And.intro hb1 (And.intro hit hs1)))
  clear hrg1 hg1 hs1 ho1 hb1 hit p1 HO
  go_loopw [5, 7] (fun _ _ wj => ∃ (left : Lit → Bool) (cnt : Nat), wj.ranges Try.prog 34 anyElem h it (Maps.size Dh) Dh left cnt ∧ Only (fun i => i = dm ∨ i = it) w1 wj ∧ ∃ Dd ol, SetM wj dm Dd ol ∧ (∀ r ∈ ol, ∃ c ∈ L, r ∈ c.deps) ∧ Maps.size Dd + 12 * cnt ≤ 1440) (fun _ _ wj => wj.rangeLeft h it)
  case atStart => exact ⟨_, _, HI.out.1, Only.refl _ _, .map [], [], H2.out.2.2.1.below HI.out.2.1, fun r hr => (by cases hr), by have : Maps.size (DataW.map [] : DataW Value) = 0 := rfl; omega⟩
  case round =>
    obtain ⟨left, cnt, hrg, honly, Dd, ol, hset, hol, hds⟩ := hrel
    have hwd : w.heap.size = dm := H2.out.2.2.2.2.2.1.symm
    have hitd : it = dm + 2 := by rw [HI.out.2.2.1]; exact H2.out.2.2.2.2.2.2
    have hbw : Below w.heap.size w wr := (H2.out.1.trans (HI.out.2.1.mono H2.out.1.size)).trans (honly.below (Nat.le_trans H2.out.1.size HI.out.2.1.size) (fun k hk e => by omega))
    have hDw := H2.out.2.2.2.1.below hbw
    have hdx : Blk wr (dm + 1) 52 #[.map (some dm)] := (H2.out.2.1.below HI.out.2.1 H2.out.2.1.lt).only honly (fun e => by omega)
    have HR := Lib.hid (And.intro honly (And.intro hset (And.intro hol (And.intro hds (And.intro hbw (And.intro hDw hdx))))))
    have HN := Lib.hid (And.intro hwd hitd)
    clear honly hset hol hds hbw hDw hdx hwd hitd
    go_wp2_with (first | (at_next; refine wpList_next_pair _ rfl _ rfl 34 pairRef h it _ Dh _ _ rfl hrg ?_ ?_) | fail)
    · intro hc0 hl0
      clear hc0 hl0 hrg
      have p1 : wr.cell? ⟨bk, 0, none⟩ = some (.map (some h)) := HR.out.2.2.2.2.2.1.bkm.blk.cell 0
      have HO2 := Lib.hid (show wr.ownsMap Try.prog 34 anyElem h (Maps.size Dh) Dh from HR.out.2.2.2.2.2.1.bkm.has)
      go_wp2_with (first
        | (go_at_call 19; (with_reducible refine (rising_any h _ Dh _ HO2.out (by omega)).mono ?_); rintro e w4 ⟨l, A, cA, hk, hl, rfl, hown, hb4⟩; have HK := Lib.hid (And.intro hk (And.intro hl (And.intro hown hb4))); clear hk hl hown hb4; have hll : (sortR l).length ≤ 120 := (by rw [sortR_len]; have := HK.out.2.1; omega); rw [← sortR_len l])
        | (go_at_call 26; (with_reducible refine (delF_any (.pointer (some ⟨dm + 1, 0, none⟩)) (fun r => decide (r ∈ ol)) (sortR l) A cA _ (by rw [sortR_len]; exact own_base0H HK.out.2.2.1) (by omega) ?hc).mono ?_); (case hc => exact (fun r hr W hW => heads1_any (dm + 1) dm Dd ol r W ((HR.out.2.2.2.2.2.2.below HK.out.2.2.2 HR.out.2.2.2.2.2.2.lt).only hW (fun e => by have h1 := own_lowH HK.out.2.2.1 _ e; have h2 := HR.out.2.2.2.2.2.2.lt; omega)) ((HR.out.2.1.below HK.out.2.2.2).only hW (fun e => by have h1 := own_lowH HK.out.2.2.1 _ e; have h2 := HR.out.2.1.own.lt; omega)) (HK.out.1.i2 r ((sortR_mem l r).1 hr)))); rintro e w5 ⟨c', rfl, ho5⟩))
      go_ret
      have hbw := HR.out.2.2.2.2.1
      have hb4 := HK.out.2.2.2
      refine ⟨A, _, c', rfl, ?_, ?_, (hbw.trans (hb4.mono hbw.size)).trans (ho5.below (Nat.le_trans hbw.size hb4.size) (fun k hk e => by have := own_lowH HK.out.2.2.1 _ e; have := hbw.size; omega))⟩
      · have hp := HK.out.1.perm HR.out.2.2.2.2.2.1
        constructor
        · intro h0
          refine Classical.byContradiction (fun hne => ?_)
          obtain ⟨r, hr, hno⟩ := last_head HR.out.2.2.2.2.2.1 hne
          have hrs : r ∈ sortR l := (sortR_mem l r).2 (hp.mem_iff.2 hr)
          have hro : r ∉ ol := fun e => by
            obtain ⟨c, hc, hd⟩ := HR.out.2.2.1 r e
            exact hno c hc hd
          unfold keptN at h0
          rw [List.length_eq_zero_iff, List.filter_eq_nil_iff] at h0
          exact h0 r hrs (by simp [hro])
        · intro h0
          subst h0
          have : l = [] := by simpa using hp.length_eq
          subst this
          rw [show sortR ([] : List (Int × Int)) = [] from List.length_eq_zero_iff.1 (sortR_len [])]
          rfl
      · unfold keptN
        exact Nat.le_trans (List.length_filter_le _ _) hll
    · intro x1 x2 v w2 cnt2 hx hl2 hat hrg2 hlt2 ho2 hs2 hen2
      obtain ⟨x, hxL, rfl⟩ : ∃ x ∈ L, v = x.value := by
        rw [HR.out.2.2.2.2.2.1.has _ hx] at hat
        obtain ⟨x, hf, e⟩ := Option.map_eq_some_iff.1 hat
        exact ⟨x, (findC_some hf).1, e.symm⟩
      unfold PCh.value at hen2 ⊢
      have hg := chE_good (HR.out.2.2.2.2.2.1.good x hxL).2
      have hd12 := hg.deps
      have hxI := (HR.out.2.2.2.2.2.1.good x hxL).1
      obtain ⟨W5, hW5⟩ : ∃ W5, W5 = w2.alloc (.cells #[.int .i64 x.actor, .int .i64 x.seq, .int .i64 x.start, .slice x.dA x.deps.length x.dc, .slice x.oA x.ops.length x.oc] 31) := ⟨_, rfl⟩
      have hb5 : Below w2.heap.size w2 W5 := by rw [hW5]; exact (Below.refl _ _).alloc (Nat.le_refl _) _
      have hX5 : Blk W5 w2.heap.size 31 #[.int .i64 x.actor, .int .i64 x.seq, .int .i64 x.start, .slice x.dA x.deps.length x.dc, .slice x.oA x.ops.length x.oc] := by rw [hW5]; exact Blk.new _ _ _
      have hlc := hrg.left_eq
      have h2b : Below wr.heap.size wr w2 ∨ True := .inr trivial
      have hw2 : Below w.heap.size wr w2 := ho2.below HR.out.2.2.2.2.1.size (fun k hk e => by have h1 := HN.out.1; have h2 := HN.out.2; have : k = it := e; omega)
      have hbw5 : Below w.heap.size w W5 := (HR.out.2.2.2.2.1.trans hw2).trans (hb5.mono (Nat.le_trans HR.out.2.2.2.2.1.size ho2.size))
      have hdm2 : ¬ (dm = it) := by have h2 := HN.out.2; omega
      have hset5 := (HR.out.2.1.only ho2 hdm2).below hb5
      have hdx5 : Blk W5 (dm + 1) 52 #[.map (some dm)] := (HR.out.2.2.2.2.2.2.only ho2 (fun e => by have h2 := HN.out.2; have : dm + 1 = it := e; omega)).below hb5 (by have := HR.out.2.2.2.2.2.2.lt; omega)
      have hI5 : InC W5 x := (H2.out.2.2.2.1.good x hxL).1.below hbw5
      have hrg5 : W5.ranges Try.prog 34 anyElem h it (Maps.size Dh) Dh (fun z => left z && !z.sameKey (rlit (x1, x2))) cnt2 := by rw [hW5]; exact hrg2.alloc _
      have ho5 : Only (fun i => i = dm ∨ i = it) w1 W5 := (HR.out.1.trans (ho2.mono (fun k _ e => .inr e))).trans (Only.of_below hb5)
      have H5 := Lib.hid (And.intro hX5 (And.intro hset5 (And.intro hdx5 (And.intro hI5 (And.intro hrg5 (And.intro ho5 (And.intro hbw5 (And.intro hlt2 (And.intro hlc hxL)))))))))
      have q3 : W5.cell? ⟨w2.heap.size, 3, none⟩ = some (.slice x.dA x.deps.length x.dc) := hX5.cell 3
      clear hrg hrg2 hat hl2 ho2 hs2 hlt2 hx hxI hg hb5 hX5 hlc h2b hw2 hbw5 hset5 hdx5 hI5 hrg5 ho5 hxL
      go_upto_region 5 with (fail)
      rw [← hW5]
      clear hW5 hen2
      go_wp2_with fail
      clear q3
      go_loopw [21, 7] (fun iv _ wj => ∃ k : Nat, iv = .int .i64 k ∧ k ≤ x.deps.length ∧ Only (fun i => i = dm) W5 wj ∧ ∃ Dd ol, SetM wj dm Dd ol ∧ (∀ r ∈ ol, ∃ c ∈ L, r ∈ c.deps) ∧ Maps.size Dd + 12 * cnt ≤ 1440 + k) (fun iv _ _ => x.deps.length - (intOf iv).toNat)
      case atStart => exact ⟨0, rfl, Nat.zero_le _, Only.refl _ _, Dd, ol, H5.out.2.1, HR.out.2.2.1, by have := HR.out.2.2.2.1; omega⟩
      case round =>
        obtain ⟨k, rfl, hk, honly, Dd2, ol2, hset, hol, hds⟩ := hrel
        by_cases hlt : k < x.deps.length
        · obtain ⟨b, off, d, ha, hd, hx1, hx2⟩ := (H5.out.2.2.2.1.deps.maps honly (fun i e => by have : i = dm := e; rw [this]; exact H5.out.2.1.own.isMapB)).ref hlt
          have hdi := H5.out.2.2.2.1.dep d (List.mem_of_getElem? hd)
          have hdx : Blk wr (dm + 1) 52 #[.map (some dm)] := H5.out.2.2.1.only honly (fun e => by have : dm + 1 = dm := e; omega)
          have hal : Below wr.heap.size wr (wr.alloc (.cells #[.int .i64 d.1, .int .i64 d.2] 34)) := (Below.refl _ _).alloc (Nat.le_refl _) _
          have q1 : (wr.alloc (.cells #[.int .i64 d.1, .int .i64 d.2] 34)).cell? ⟨dm + 1, 0, none⟩ = some (.map (some dm)) := (hdx.below hal hdx.lt).cell 0
          have hm6 : OM (wr.alloc (.cells #[.int .i64 d.1, .int .i64 d.2] 34)) dm Dd2 := hset.own.below hal
          have hmx : Maps.size Dd2 < maxLen := by unfold maxLen; omega
          have hk12 : (k : Int) ≤ 12 := by omega
          have HS := Lib.hid (And.intro honly (And.intro hset (And.intro hol (And.intro hds (And.intro hd (And.intro hal hm6))))))
          clear honly hset hol hds hd hal hdx
          rw [ha]
          have HAA := Lib.hid ha
          clear ha
          go_wp2_with (first
            | (at_mapUpdate; refine wpList_upd _ rfl _ _ _ 52 rfl 34 4 pairRef Try.underlying52 dm _ Dd2 rfl hm6 hmx d rfl hdi (.bool true) rfl ?_; intro w7 hm7 ho7 hs7; go_frame)
            | fail)
          have HE : Only (fun i => i = dm) W5 w7 ∧ ∃ Dd ol, SetM w7 dm Dd ol ∧ (∀ r ∈ ol, ∃ c ∈ L, r ∈ c.deps) ∧ Maps.size Dd + 12 * cnt ≤ 1440 + (k + 1) := by
            obtain ⟨honly, hset, hol, hds, hd, hal, hm6'⟩ := HS.out
            refine ⟨(honly.alloc _).trans ho7, _, d :: ol2, ⟨OM.of hm7, fun r hr => ?_⟩, fun r hr => ?_, ?_⟩
            · rw [hm6'.get_put hdi hr, hset.get r hr]
              by_cases e : r = d <;> simp [e]
            · rcases List.mem_cons.1 hr with rfl | hr
              · exact ⟨x, H5.out.2.2.2.2.2.2.2.2.2, List.mem_of_getElem? hd⟩
              · exact hol r hr
            · have := hset.own.size_put d (.held (.bool true))
              omega
          exact ⟨⟨k + 1, by push_cast; rfl, by omega, HE⟩, by simp [intOf]; omega⟩
        · obtain rfl : k = x.deps.length := by omega
          have HS := Lib.hid (And.intro honly (And.intro hset (And.intro hol hds)))
          clear honly hset hol hds
          go_wp2_with fail
          obtain ⟨honly, hset, hol, hds⟩ := HS.out
          have hit5 : it < W5.heap.size := by
            have h1 := H5.out.2.2.2.2.2.1.size
            have h2 := HI.out.2.2.2
            have h3 := HI.out.2.2.1
            omega
          have hne1 : ¬ (h = dm) := fun e => by
            have h1 := H2.out.2.2.2.1.bkm.has.lt
            have h2 := HN.out.1
            omega
          have hne2 : ¬ (it = dm) := by have := HN.out.2; omega
          refine ⟨⟨_, cnt2, ranges_only H5.out.2.2.2.2.1 honly hne1 hne2, H5.out.2.2.2.2.2.1.trans (honly.mono (fun k _ e => .inl e)), Dd2, ol2, hset, hol, ?_⟩, ?_⟩
          · have := H5.out.2.2.2.2.2.2.2.1
            omega
          · rw [H5.out.2.2.2.2.2.2.2.2.1, (ranges_only H5.out.2.2.2.2.1 honly hne1 hne2).left_eq]
            exact H5.out.2.2.2.2.2.2.2.1
end Go.Proofs.Ytdenaejhfgmihaa
