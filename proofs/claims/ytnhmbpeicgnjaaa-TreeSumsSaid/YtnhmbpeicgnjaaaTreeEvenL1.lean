/- tree.even: a contract, in parts. -/
import Derived.Test.YtnhmbpeicgnjaaaTreeEven0
namespace Go.Proofs.Ytnhmbpeicgnjaaa
open Go.RowKit
set_option linter.unusedVariables false
set_option linter.unusedSimpArgs false

set_option maxRecDepth 100000 in
set_option maxHeartbeats 2000000 in
theorem even_L1 (br : Nat) (p : Value) (b lb : Nat) (ll lr r : AV) (lth lwd lhi lmn lal th wd hi mn al : Int) (w : World) (hrow : RowAt w br p)
    (hT : InT NODE w (AV.node b r th wd hi mn al (AV.node lb ll lth lwd lhi lmn lal lr))) (nd : (br :: (AV.node b r th wd hi mn al (AV.node lb ll lth lwd lhi lmn lal lr)).blocks).Nodup) (hk : (AV.node lb ll lth lwd lhi lmn lal lr).Con) (hr : r.Con) (w0 : 0 ≤ wd) (w1 : wd ≤ 1000000) (hc : 1 + lmn + r.cnt ≤ 100000)
    (h1 : lhi - r.hgt > 1) (h2 : ¬ lr.hgt < ll.hgt) :
    Calls Try.prog 27 #[.pointer (some ⟨br, 0, none⟩), .pointer (some ⟨b, 0, none⟩)] w (TPost w br p (b :: (r.blocks ++ (AV.node lb ll lth lwd lhi lmn lal lr).blocks)) (AV.turnL b r th wd (AV.node lb ll lth lwd lhi lmn lal lr))) := by
  have hk' := hk
  obtain ⟨hk1, hk2, hk3, hk4, hk5, hk6, hk7⟩ := hk'
  have e1 := hk1.hgt; have e2 := hk2.hgt; have e3 := hr.hgt
  have e4 := hk.hgt; simp only [AV.hgt, AV.cnt] at e4
  have e5 := hk1.cnt; have e6 := hk2.cnt; have e7 := hr.cnt
  obtain ⟨pf, hpf⟩ := AV.ptr_pointer ll
  obtain ⟨pn, hpn⟩ := AV.ptr_pointer lr
  obtain ⟨pr, hpr⟩ := AV.ptr_pointer r
  obtain ⟨x, hx⟩ : ∃ x, ll.hgt = x := ⟨_, rfl⟩
  obtain ⟨y, hy⟩ : ∃ y, lr.hgt = y := ⟨_, rfl⟩
  obtain ⟨z, hz⟩ : ∃ z, r.hgt = z := ⟨_, rfl⟩
  have hks : 0 < (AV.node lb ll lth lwd lhi lmn lal lr).hgt := by simp only [AV.hgt]; omega
  rw [hx] at e1 h2; rw [hy] at e2 h2; rw [hz] at e3 h1
  have b1 : 0 ≤ lhi := by omega
  have b2 : lhi ≤ 100000 := by omega
  have b3 : 0 ≤ x := by omega
  have b4 : x ≤ 100000 := by omega
  have b5 : 0 ≤ y := by omega
  have b6 : y ≤ 100000 := by omega
  have b7 : 0 ≤ z := by omega
  have b8 : z ≤ 100000 := by omega
  have d1 : decide (1 < z - lhi) = false := by simp; omega
  have d2 : decide (z - lhi < -1) = true := by simp; omega
  have d3 : decide (y < x) = false := by simp; omega
  have hnb : br ∉ (AV.node b r th wd hi mn al (AV.node lb ll lth lwd lhi lmn lal lr)).blocks := (List.nodup_cons.1 nd).1
  have hbn := (List.nodup_cons.1 (List.nodup_cons.1 nd).2).1
  have hne : b ≠ br := fun e => hnb (by rw [← e]; simp [AV.blocks])
  have HX := Lib.hid hx; have HY := Lib.hid hy; have HZ := Lib.hid hz; have HF := Lib.hid hpf; have HN := Lib.hid hpn; have HR := Lib.hid hpr
  have HC := Lib.hid (And.intro hk (And.intro hr (And.intro hks (And.intro nd (And.intro hnb (And.intro hbn (And.intro hc (And.intro hk4 (And.intro e5 (And.intro e6 (And.intro hk1 (And.intro hk2 (And.intro hk6 hk7)))))))))))))
  clear hx hy hz hpf hpn hpr hk hr hks nd hnb hbn hc hk1 hk2 hk3 hk4 hk5 hk6 hk7 e1 e2 e3 e4 e5 e6 e7 h1 h2
  go_enter Try.func27, Try.ntmps27
  go_wp2_with fail
  refine (look_any br p _ hrow).mono ?_
  rintro e v1 ⟨rfl, hrow1, ho1⟩
  have hT1 := hT.only ho1 (fun z hz e => HC.out.2.2.2.2.1 (by rw [← e]; exact hz))
  have c0 : v1.cell? ⟨b, 1, none⟩ = some (.pointer (some ⟨lb, 0, none⟩)) := hT1.1.cell 1
  have c1 : v1.cell? ⟨b, 0, none⟩ = some (.pointer pr) := by rw [← HR.out]; exact hT1.1.cell 0
  have c2 : v1.cell? ⟨lb, 0, none⟩ = some (.pointer pf) := by rw [← HF.out]; exact hT1.2.2.1.cell 0
  have c3 : v1.cell? ⟨lb, 1, none⟩ = some (.pointer pn) := by rw [← HN.out]; exact hT1.2.2.1.cell 1
  have HT1 := Lib.hid hT1
  clear hT hT1 hrow
  go_wp2_with fail
  go_quiet ((first
    | (go_at_call 28; exact height_q (AV.node lb ll lth lwd lhi lmn lal lr) (some ⟨lb, 0, none⟩) lhi _ HT1.out.2.2 rfl rfl _)
    | (go_at_call 28; exact height_q r pr z _ HT1.out.2.1 HR.out HZ.out _)))
  go_wp2_with fail
  obtain ⟨v2, hv2⟩ : ∃ v2, v1.drewN nq = v2 := ⟨_, rfl⟩
  rw [hv2]
  have c0' := c0; rw [show v1.cell? _ = v2.cell? _ from by rw [← hv2]; rfl] at c0'
  have c1' := c1; rw [show v1.cell? _ = v2.cell? _ from by rw [← hv2]; rfl] at c1'
  have c2' := c2; rw [show v1.cell? _ = v2.cell? _ from by rw [← hv2]; rfl] at c2'
  have c3' := c3; rw [show v1.cell? _ = v2.cell? _ from by rw [← hv2]; rfl] at c3'
  have hrow2 : RowAt v2 br p := by rw [← hv2]; exact hrow1
  have HT2 := Lib.hid (show InT NODE v2 (AV.node b r th wd hi mn al (AV.node lb ll lth lwd lhi lmn lal lr)) from by rw [← hv2]; exact HT1.out.drewN _)
  have ho2 : Only (· = br) w v2 := by rw [← hv2]; exact ho1.drewN _
  clear c0 c1 c2 c3 hrow1 HT1 ho1 hv2
  go_quiet ((first
    | (go_at_call 28; exact height_q ll pf x _ HT2.out.2.2.2.1 HF.out HX.out _)
    | (go_at_call 28; exact height_q lr pn y _ HT2.out.2.2.2.2 HN.out HY.out _)))
  go_wp2_with fail
  refine (turnL_tree br p b r (AV.node lb ll lth lwd lhi lmn lal lr) th wd hi mn al _ (by exact hrow2) (HT2.out.drewN _) HC.out.2.2.2.1 HC.out.2.1 HC.out.1 w0 w1 (by have := HC.out.2.2.2.2.2.2.1; show 1 + r.cnt + lmn ≤ 100000; omega) HC.out.2.2.1).mono ?_
  rintro e v5 ⟨rfl, hfx5, hrow5, ho5⟩
  have o5 := (ho2.mono (T := (· ∈ br :: (b :: (r.blocks ++ (AV.node lb ll lth lwd lhi lmn lal lr).blocks)))) (fun k _ h => by rw [h]; exact List.mem_cons_self)).trans (Only.of_drew ho5)
  go_wp2_with fail
  go_ret
  exact ⟨rfl, hfx5, hrow5, o5⟩

end Go.Proofs.Ytnhmbpeicgnjaaa
