/- tree.even: a contract, in parts. -/
import Derived.Test.YtnhmbpeicgnjaaaTreeEven0
namespace Go.Proofs.Ytnhmbpeicgnjaaa
open Go.RowKit
set_option linter.unusedVariables false
set_option linter.unusedSimpArgs false

set_option maxRecDepth 100000 in
set_option maxHeartbeats 2000000 in
theorem even_L2 (br : Nat) (p : Value) (b lb : Nat) (ll lr r : AV) (lth lwd lhi lmn lal th wd hi mn al : Int) (w : World) (hrow : RowAt w br p)
    (hT : InT NODE w (AV.node b r th wd hi mn al (AV.node lb ll lth lwd lhi lmn lal lr))) (nd : (br :: (AV.node b r th wd hi mn al (AV.node lb ll lth lwd lhi lmn lal lr)).blocks).Nodup) (hk : (AV.node lb ll lth lwd lhi lmn lal lr).Con) (hr : r.Con) (w0 : 0 ≤ wd) (w1 : wd ≤ 1000000) (hc : 1 + lmn + r.cnt ≤ 100000)
    (h1 : lhi - r.hgt > 1) (h2 : lr.hgt < ll.hgt) :
    Calls Try.prog 27 #[.pointer (some ⟨br, 0, none⟩), .pointer (some ⟨b, 0, none⟩)] w (TPost w br p (b :: (r.blocks ++ (AV.node lb ll lth lwd lhi lmn lal lr).blocks)) (AV.turnL b r th wd (AV.turnR lb ll lth lwd lr))) := by
  have hk' := hk
  obtain ⟨hk1, hk2, hk3, hk4, hk5, hk6, hk7⟩ := hk'
  have e1 := hk1.hgt; have e2 := hk2.hgt; have e3 := hr.hgt
  have e4 := hk.hgt; simp only [AV.hgt, AV.cnt] at e4
  have e5 := hk1.cnt; have e6 := hk2.cnt; have e7 := hr.cnt
  obtain ⟨pf, hpf⟩ := AV.ptr_pointer ll
  obtain ⟨pn, hpn⟩ := AV.ptr_pointer lr
  obtain ⟨pr, hpr⟩ := AV.ptr_pointer r
  obtain ⟨x, hx⟩ : ∃ x, ll.hgt = x := ⟨_, rfl⟩
  obtain ⟨y, hy⟩ : ∃ y, lr.hgt = y := ⟨_, rfl⟩
  obtain ⟨z, hz⟩ : ∃ z, r.hgt = z := ⟨_, rfl⟩
  have hks : 0 < (AV.node lb ll lth lwd lhi lmn lal lr).hgt := by simp only [AV.hgt]; omega
  have hnp : 0 < ll.hgt := by omega
  have hup := AV.upR_like (T := (AV.node lb ll lth lwd lhi lmn lal lr)) hk hnp
  rw [hx] at e1 h2; rw [hy] at e2 h2; rw [hz] at e3 h1
  have b1 : 0 ≤ lhi := by omega
  have b2 : lhi ≤ 100000 := by omega
  have b3 : 0 ≤ x := by omega
  have b4 : x ≤ 100000 := by omega
  have b5 : 0 ≤ y := by omega
  have b6 : y ≤ 100000 := by omega
  have b7 : 0 ≤ z := by omega
  have b8 : z ≤ 100000 := by omega
  have d1 : decide (1 < z - lhi) = false := by simp; omega
  have d2 : decide (z - lhi < -1) = true := by simp; omega
  have d3 : decide (y < x) = true := by simp; omega
  have hnb : br ∉ (AV.node b r th wd hi mn al (AV.node lb ll lth lwd lhi lmn lal lr)).blocks := (List.nodup_cons.1 nd).1
  have hbn := (List.nodup_cons.1 (List.nodup_cons.1 nd).2).1
  have hne : b ≠ br := fun e => hnb (by rw [← e]; simp [AV.blocks])
  have HX := Lib.hid hx; have HY := Lib.hid hy; have HZ := Lib.hid hz; have HF := Lib.hid hpf; have HN := Lib.hid hpn; have HR := Lib.hid hpr
  have HC := Lib.hid (And.intro hk (And.intro hr (And.intro hks (And.intro nd (And.intro hnb (And.intro hbn (And.intro hc (And.intro hk4 (And.intro e5 (And.intro e6 (And.intro hk1 (And.intro hk2 (And.intro hk6 hk7)))))))))))))
  have HP := Lib.hid (And.intro hup hnp)
  clear hx hy hz hpf hpn hpr hk hr hks nd hnb hbn hc hk1 hk2 hk3 hk4 hk5 hk6 hk7 e1 e2 e3 e4 e5 e6 e7 h1 h2 hup hnp
  go_enter Try.func27, Try.ntmps27
  go_wp2_with fail
  refine (look_any br p _ hrow).mono ?_
  rintro e v1 ⟨rfl, hrow1, ho1⟩
  have hT1 := hT.only ho1 (fun z hz e => HC.out.2.2.2.2.1 (by rw [← e]; exact hz))
  have c0 : v1.cell? ⟨b, 1, none⟩ = some (.pointer (some ⟨lb, 0, none⟩)) := hT1.1.cell 1
  have c1 : v1.cell? ⟨b, 0, none⟩ = some (.pointer pr) := by rw [← HR.out]; exact hT1.1.cell 0
  have c2 : v1.cell? ⟨lb, 0, none⟩ = some (.pointer pf) := by rw [← HF.out]; exact hT1.2.2.1.cell 0
  have c3 : v1.cell? ⟨lb, 1, none⟩ = some (.pointer pn) := by rw [← HN.out]; exact hT1.2.2.1.cell 1
  have HT1 := Lib.hid hT1
  clear hT hT1 hrow
  go_wp2_with fail
  go_quiet ((first
    | (go_at_call 28; exact height_q (AV.node lb ll lth lwd lhi lmn lal lr) (some ⟨lb, 0, none⟩) lhi _ HT1.out.2.2 rfl rfl _)
    | (go_at_call 28; exact height_q r pr z _ HT1.out.2.1 HR.out HZ.out _)))
  go_wp2_with fail
  obtain ⟨v2, hv2⟩ : ∃ v2, v1.drewN nq = v2 := ⟨_, rfl⟩
  rw [hv2]
  have c0' := c0; rw [show v1.cell? _ = v2.cell? _ from by rw [← hv2]; rfl] at c0'
  have c1' := c1; rw [show v1.cell? _ = v2.cell? _ from by rw [← hv2]; rfl] at c1'
  have c2' := c2; rw [show v1.cell? _ = v2.cell? _ from by rw [← hv2]; rfl] at c2'
  have c3' := c3; rw [show v1.cell? _ = v2.cell? _ from by rw [← hv2]; rfl] at c3'
  have hrow2 : RowAt v2 br p := by rw [← hv2]; exact hrow1
  have HT2 := Lib.hid (show InT NODE v2 (AV.node b r th wd hi mn al (AV.node lb ll lth lwd lhi lmn lal lr)) from by rw [← hv2]; exact HT1.out.drewN _)
  have ho2 : Only (· = br) w v2 := by rw [← hv2]; exact ho1.drewN _
  clear c0 c1 c2 c3 hrow1 HT1 ho1 hv2
  go_quiet ((first
    | (go_at_call 28; exact height_q ll pf x _ HT2.out.2.2.2.1 HF.out HX.out _)
    | (go_at_call 28; exact height_q lr pn y _ HT2.out.2.2.2.2 HN.out HY.out _)))
  go_wp2_with fail
  have hTk : InT NODE v2 (AV.node lb ll lth lwd lhi lmn lal lr) := HT2.out.2.2
  have ndk : (br :: (AV.node lb ll lth lwd lhi lmn lal lr).blocks).Nodup := by
    refine List.Nodup.sublist ?_ HC.out.2.2.2.1
    refine List.Sublist.cons_cons _ (List.Sublist.cons _ ?_)
    first | exact List.sublist_append_left _ _ | exact List.sublist_append_right _ _
  refine (turnR_tree br p lb ll lr lth lwd lhi lmn lal _ (by exact hrow2) (hTk.drewN _) ndk HC.out.2.2.2.2.2.2.2.2.2.2.1 HC.out.2.2.2.2.2.2.2.2.2.2.2.1 HC.out.2.2.2.2.2.2.2.2.2.2.2.2.1 HC.out.2.2.2.2.2.2.2.2.2.2.2.2.2 (by have a1 := HC.out.2.2.2.2.2.2.1; have a2 := HC.out.2.2.2.2.2.2.2.1; have a3 := HC.out.2.1.cnt; omega) HP.out.2).mono ?_
  rintro e v3 ⟨rfl, hfx3, hrow3, ho3'⟩
  have ho3 := Only.of_drew ho3'
  have nbk : b ∉ br :: (AV.node lb ll lth lwd lhi lmn lal lr).blocks := by
    intro h
    rcases List.mem_cons.1 h with h | h
    · exact hne h
    · exact HC.out.2.2.2.2.2.1 (by simp only [List.mem_append]; first | exact .inl h | exact .inr h)
  have hb3 := HT2.out.1.only ho3 nbk
  have hr3 : InT NODE v3 r := HT2.out.2.1.only ho3 (fun q hq e => by
    rcases List.mem_cons.1 e with e | e
    · exact HC.out.2.2.2.2.1 (by rw [← e]; simp only [AV.blocks, List.mem_cons, List.mem_append]; first | exact .inr (.inr hq) | exact .inr (.inl hq))
    · have nn := (List.nodup_cons.1 (List.nodup_cons.1 HC.out.2.2.2.1).2).2
      exact (List.nodup_append.1 nn).2.2 q hq q e rfl)
  obtain ⟨pu, hpu⟩ := AV.ptr_pointer (AV.turnR lb ll lth lwd lr)
  have z0 := hb3.frozen 1
  have c0 : v3.cell? ⟨b, 1, none⟩ = some (.pointer (some ⟨lb, 0, none⟩)) := hb3.cell 1
  have hb4 : Blk (v3.setCell ⟨b, 1, none⟩ (.pointer pu)) b NODE #[r.ptr, (AV.turnR lb ll lth lwd lr).ptr, .int .i64 th, .int .i64 wd, .int .i64 hi, .int .i64 mn, .int .i64 al] := by rw [hpu]; exact hb3.set_ 1 _
  have o4 := (Only.refl (· = b) v3).setCell (p := ⟨b, 1, none⟩) rfl (.pointer pu)
  have bl : ∀ q, List.count q (AV.turnR lb ll lth lwd lr).blocks = List.count q (AV.node lb ll lth lwd lhi lmn lal lr).blocks := HP.out.1.2.2.1
  have bmem : ∀ q, q ∈ (AV.turnR lb ll lth lwd lr).blocks ↔ q ∈ (AV.node lb ll lth lwd lhi lmn lal lr).blocks := fun q => (AV.perm_of bl).mem_iff
  have hfx4 := hfx3.only o4 (fun q hq e => nbk (List.mem_cons_of_mem _ ((bmem b).1 (by rw [← e]; exact hq))))
  have hr4 := hr3.only o4 (fun q hq e => HC.out.2.2.2.2.2.1 (by rw [← e]; simp only [List.mem_append]; first | exact .inr hq | exact .inl hq))
  have hrow4 := hrow3.only o4 (fun e => hne e.symm)
  have hT4 : InT NODE (v3.setCell ⟨b, 1, none⟩ (.pointer pu)) (AV.node b r th wd hi mn al (AV.turnR lb ll lth lwd lr)) := ⟨hb4, hr4, hfx4⟩
  have pm : ((br :: (AV.node b r th wd hi mn al (AV.turnR lb ll lth lwd lr)).blocks)).Perm (br :: (AV.node b r th wd hi mn al (AV.node lb ll lth lwd lhi lmn lal lr)).blocks) := AV.perm_of (fun q => by have := bl q; simp only [AV.blocks, List.count_cons, List.count_append] at this ⊢; omega)
  have nd4 := pm.nodup_iff.2 HC.out.2.2.2.1
  have hc4 : 1 + (AV.turnR lb ll lth lwd lr).cnt + r.cnt ≤ 100000 := by
    have a1 := HC.out.2.2.2.2.2.2.1; have a2 := HC.out.1.cnt; have a3 := HP.out.1.1.cnt; have a4 := HP.out.1.2.1
    have a5 : (AV.node lb ll lth lwd lhi lmn lal lr).cnt = lmn := rfl
    rw [a4, ← a2, a5] at a3
    have a6 : (AV.turnR lb ll lth lwd lr).cnt = lmn := a3
    omega
  have o14 := (ho2.mono (T := (· ∈ br :: (b :: (r.blocks ++ (AV.node lb ll lth lwd lhi lmn lal lr).blocks)))) (fun k _ h => by rw [h]; exact List.mem_cons_self)).trans ((ho3.mono (T := (· ∈ br :: (b :: (r.blocks ++ (AV.node lb ll lth lwd lhi lmn lal lr).blocks)))) (fun k _ h => by
    rcases List.mem_cons.1 h with h | h
    · rw [h]; exact List.mem_cons_self
    · refine List.mem_cons_of_mem _ (List.mem_cons_of_mem _ ?_); simp only [List.mem_append]; first | exact .inl h | exact .inr h)).trans (o4.mono (fun k _ h => by rw [h]; simp)))
  have HH := Lib.hid (And.intro hT4 (And.intro nd4 (And.intro hc4 pm)))
  have HU := Lib.hid hpu
  rw [hpu]
  clear c0' c1' c2' c3' HT2 hTk ndk ho3' ho3 hb3 hr3 hpu hb4 o4 bl bmem hfx4 hr4 hrow3 hfx3 hrow2 ho2 hT4 nd4 hc4 pm nbk
  go_wp2_with fail
  refine (turnL_tree br p b r (AV.turnR lb ll lth lwd lr) th wd hi mn al _ (by exact hrow4) (by exact HH.out.1) HH.out.2.1 HC.out.2.1 HP.out.1.1 w0 w1 (by have a := HH.out.2.2.1; omega) HP.out.1.2.2.2).mono ?_
  rintro e v5 ⟨rfl, hfx5, hrow5, ho5⟩
  have o5 := o14.trans (ho5.mono (fun k _ h => HH.out.2.2.2.mem_iff.1 h))
  go_wp2_with fail
  go_ret
  exact ⟨rfl, hfx5, hrow5, o5⟩

end Go.Proofs.Ytnhmbpeicgnjaaa
