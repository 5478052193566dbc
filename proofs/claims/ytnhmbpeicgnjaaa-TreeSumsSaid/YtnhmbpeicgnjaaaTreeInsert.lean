/- tree.insert: a contract. -/
import Derived.Test.YtnhmbpeicgnjaaaTreeEvenAny
namespace Go.Proofs.Ytnhmbpeicgnjaaa
open Go.RowKit
set_option linter.unusedVariables false
set_option linter.unusedSimpArgs false

theorem nd_parts {br b : Nat} {A L R : List Nat} (nd : (br :: (A ++ (b :: (L ++ R)))).Nodup) :
    (br :: (A ++ L)).Nodup ∧ (br :: (A ++ R)).Nodup ∧ b ∉ br :: (A ++ L) ∧ b ∉ br :: (A ++ R) ∧ (∀ q ∈ R, q ∉ br :: (A ++ L)) ∧ (∀ q ∈ L, q ∉ br :: (A ++ R)) ∧ b ≠ br := by
  have h := List.nodup_iff_count.1 nd
  refine ⟨List.nodup_iff_count.2 fun q => ?_, List.nodup_iff_count.2 fun q => ?_, fun hm => ?_, fun hm => ?_, fun q hq hm => ?_, fun q hq hm => ?_, fun e => ?_⟩
  · have := h q; simp only [List.count_cons, List.count_append] at this ⊢; omega
  · have := h q; simp only [List.count_cons, List.count_append] at this ⊢; omega
  · have a := h b; have c := List.count_pos_iff.2 hm; simp only [List.count_cons, List.count_append, beq_self_eq_true, if_true] at a c; omega
  · have a := h b; have c := List.count_pos_iff.2 hm; simp only [List.count_cons, List.count_append, beq_self_eq_true, if_true] at a c; omega
  · have a := h q; have c := List.count_pos_iff.2 hm; have d := List.count_pos_iff.2 hq; simp only [List.count_cons, List.count_append] at a c d; omega
  · have a := h q; have c := List.count_pos_iff.2 hm; have d := List.count_pos_iff.2 hq; simp only [List.count_cons, List.count_append] at a c d; omega
  · have a := h b; subst e; simp only [List.count_cons, List.count_append, beq_self_eq_true, if_true] at a; omega

set_option maxRecDepth 100000 in
set_option maxHeartbeats 2000000 in
theorem insert_any (br : Nat) (p : Value) (X : AV) (px : Option Addr) (hpx : X.ptr = .pointer px) (hX : X.Con) (pt : Int × Int) (hs : X.seq = [pt]) : ∀ (T : AV) (at_ : Int) (u : Option Addr) (w : World), T.ptr = .pointer u → RowAt w br p → InT NODE w T → InT NODE w X →
    (br :: (X.blocks ++ T.blocks)).Nodup → T.Con → 0 ≤ at_ → at_ ≤ T.cnt → T.cnt + 1 ≤ 100000 →
    Calls Try.prog 19 #[.pointer (some ⟨br, 0, none⟩), .pointer u, .int .i64 at_, .pointer px] w (TPost w br p (X.blocks ++ T.blocks) (T.insV at_ X)) := by
  intro T
  induction T with
  | nil =>
    intro at_ u w hu hrow hT hx nd hc h0 h1 h2
    obtain rfl : u = none := by unfold AV.ptr at hu; injection hu with hu; exact hu.symm
    have HP := Lib.hid hpx
    clear hpx hu
    go_enter Try.func19, Try.ntmps19
    go_wp2
    go_ret
    exact ⟨by rw [AV.insV, HP.out]; rfl, hx, hrow, Only.refl _ _⟩
  | node b l th wd hi mn al r ihl ihr =>
    intro at_ u w hu hrow hT hx nd hc h0 h1 h2
    obtain rfl : u = some ⟨b, 0, none⟩ := by unfold AV.ptr at hu; injection hu with hu; exact hu.symm
    obtain ⟨g1, g2, g3, g4, g5, g6, g7⟩ := hc
    have k1 := g1.cnt; have k2 := g2.cnt
    have h1' : at_ ≤ mn := h1
    have h2' : mn + 1 ≤ 100000 := h2
    obtain ⟨pl, hpl⟩ := AV.ptr_pointer l
    obtain ⟨pr, hpr⟩ := AV.ptr_pointer r
    obtain ⟨hb, hll, hrr⟩ := hT
    have c0 : w.cell? ⟨b, 0, none⟩ = some (.pointer pl) := by rw [← hpl]; exact hb.cell 0
    have c1 : w.cell? ⟨b, 1, none⟩ = some (.pointer pr) := by rw [← hpr]; exact hb.cell 1
    have fl := Fits.of g1 (by omega)
    have a0 := fl.c0; have a1 := fl.c1
    obtain ⟨hn1, hn2, hn3, hn4, hn5, hn6, hn7⟩ := nd_parts (A := X.blocks) (L := l.blocks) (R := r.blocks) nd
    have hcl : Calls Try.prog 23 #[.pointer pl] w fun e w' => e = .returned (.int .i64 l.cnt) ∧ w = w' := by rw [← hpl]; exact count_any l w hll
    have HCL := Lib.hid hcl
    have hxl := hX.cnt
    rw [hs] at hxl
    by_cases hle : at_ ≤ l.cnt
    · have hins := ihl at_ pl w hpl hrow hll hx hn1 g1 h0 hle (by omega)
      have hlike := AV.insV_like g1 hX hs at_ h0 hle
      rw [AV.insV, if_pos hle]
      have hcn : (l.insV at_ X).cnt = l.cnt + 1 := by
        rw [hlike.1.cnt, hlike.2.1, k1]
        simp only [AV.insL, List.length_append, List.length_take, List.length_cons, List.length_drop]; omega
      obtain ⟨pu, hpu⟩ := AV.ptr_pointer (l.insV at_ X)
      obtain ⟨x, hxx⟩ : ∃ x, l.cnt = x := ⟨_, rfl⟩
      have HI := Lib.hid hins
      have HL := Lib.hid (And.intro hlike (And.intro hcn (And.intro g1 (And.intro g2 (And.intro g4 hxx)))))
      rw [hxx] at HCL hle a0 a1
      have HN := Lib.hid (And.intro hn1 (And.intro hn3 (And.intro hn5 hn7)))
      have HP := Lib.hid hpu
      have hdec : decide (at_ ≤ x) = true := by simpa using hle
      clear ihl ihr hu hrow hll hins hlike hcn hpu hcl hpl hpr fl g1 g2 g3 g4 g5 k1 k2 h1 h2 hn1 hn2 hn3 hn4 hn5 hn6 hn7 hxx hxl hx
      have HB := Lib.hid hb
      have HR := Lib.hid hrr
      have HD := Lib.hid nd
      clear hb hrr nd
      go_enter Try.func19, Try.ntmps19
      go_wp2_with fail
      refine HCL.out.mono ?_
      rintro e w' ⟨rfl, rfl⟩
      go_wp2_with fail
      refine HI.out.mono ?_
      rintro e v2 ⟨rfl, hI2, hrow2, ho2⟩
      have hb2 := HB.out.only ho2 HN.out.2.1
      have hr2 := HR.out.only ho2 (fun q hq => HN.out.2.2.1 q hq)
      rw [HP.out]
      have z0 := hb2.frozen 0
      have e0 : v2.cell? ⟨b, 0, none⟩ = some l.ptr := hb2.cell 0
      have hb3 : Blk (v2.setCell ⟨b, 0, none⟩ (.pointer pu)) b NODE #[(l.insV at_ X).ptr, r.ptr, .int .i64 th, .int .i64 wd, .int .i64 hi, .int .i64 mn, .int .i64 al] := by rw [HP.out]; exact hb2.set_ 0 _
      have o3 := (Only.refl (· = b) v2).setCell (p := ⟨b, 0, none⟩) rfl (.pointer pu)
      have bl : ∀ q, List.count q (l.insV at_ X).blocks = List.count q (X.blocks ++ l.blocks) := HL.out.1.2.2
      have bmem : ∀ q, q ∈ (l.insV at_ X).blocks ↔ q ∈ X.blocks ++ l.blocks := fun q => (AV.perm_of bl).mem_iff
      have hI3 := hI2.only o3 (fun q hq e => HN.out.2.1 (by rw [← e]; exact List.mem_cons_of_mem _ ((bmem q).1 hq)))
      have hr3 := hr2.only o3 (fun q hq e => by
        have := (List.nodup_cons.1 (List.nodup_append.1 (List.nodup_cons.1 HD.out).2).2.1).1
        exact this (by rw [← e]; exact List.mem_append_right _ hq))
      have hrow3 := hrow2.only o3 (fun e => HN.out.2.2.2 e.symm)
      have pm : (br :: (AV.node b (l.insV at_ X) th wd hi mn al r).blocks).Perm (br :: (X.blocks ++ (AV.node b l th wd hi mn al r).blocks)) :=
        AV.perm_of (fun q => by have := bl q; simp only [AV.blocks, List.count_cons, List.count_append] at this ⊢; omega)
      have nd3 := pm.nodup_iff.2 HD.out
      have o13 := (ho2.mono (T := (· ∈ br :: (X.blocks ++ (AV.node b l th wd hi mn al r).blocks))) (fun k _ h => by
        rcases List.mem_cons.1 h with h | h
        · rw [h]; exact List.mem_cons_self
        · refine List.mem_cons_of_mem _ ?_; simp only [AV.blocks, List.mem_append, List.mem_cons] at h ⊢; rcases h with h | h
          · exact .inl h
          · exact .inr (.inr (.inl h)))).trans (o3.mono (fun k _ h => by rw [h]; simp [AV.blocks]))
      have hT3 : InT NODE (v2.setCell ⟨b, 0, none⟩ (.pointer pu)) (AV.node b (l.insV at_ X) th wd hi mn al r) := ⟨hb3, hI3, hr3⟩
      have HH := Lib.hid (And.intro hT3 (And.intro nd3 pm))
      clear hb2 hr2 hb3 o3 bl bmem hI3 hr3 hT3 nd3 pm hI2 hrow2 ho2
      go_wp2_with fail
      refine (even_any br p b (l.insV at_ X) r th wd hi mn al _ hrow3 HH.out.1 HH.out.2.1 HL.out.1.1 HL.out.2.2.2.1 g6 g7 (by have a := HL.out.2.1; have c := HL.out.2.2.2.2.1; omega)).mono ?_
      rintro e v4 ⟨rfl, hI4, hrow4, ho4⟩
      have o4 := o13.trans (ho4.mono (fun k _ h => HH.out.2.2.mem_iff.1 h))
      go_wp2_with fail
      go_ret
      exact ⟨rfl, hI4, hrow4, o4⟩
    · have hins := ihr (at_ - l.cnt - 1) pr w hpr hrow hrr hx hn2 g2 (by omega) (by omega) (by omega)
      have hlike := AV.insV_like g2 hX hs (at_ - l.cnt - 1) (by omega) (by omega)
      rw [AV.insV, if_neg hle]
      have hcn : (r.insV (at_ - l.cnt - 1) X).cnt = r.cnt + 1 := by
        rw [hlike.1.cnt, hlike.2.1, k2]
        simp only [AV.insL, List.length_append, List.length_take, List.length_cons, List.length_drop]; omega
      obtain ⟨pu, hpu⟩ := AV.ptr_pointer (r.insV (at_ - l.cnt - 1) X)
      obtain ⟨x, hxx⟩ : ∃ x, l.cnt = x := ⟨_, rfl⟩
      rw [hxx] at hins hlike hcn hpu ⊢
      have HI := Lib.hid hins
      have HL := Lib.hid (And.intro hlike (And.intro hcn (And.intro g1 (And.intro g2 (And.intro g4 hxx)))))
      rw [hxx] at HCL hle a0 a1
      have HN := Lib.hid (And.intro hn2 (And.intro hn4 (And.intro hn6 hn7)))
      have HP := Lib.hid hpu
      have hdec : decide (at_ ≤ x) = false := by simpa using hle
      have b1 : at_ ≤ 100000 := by omega
      clear ihl ihr hu hrow hrr hins hlike hcn hpu hcl hpl hpr fl g1 g2 g3 g4 g5 k1 k2 h1 h2 hn1 hn2 hn3 hn4 hn5 hn6 hn7 hxx hxl hx
      have HB := Lib.hid hb
      have HR := Lib.hid hll
      have HD := Lib.hid nd
      clear hb hll nd
      go_enter Try.func19, Try.ntmps19
      go_wp2_with fail
      refine HCL.out.mono ?_
      rintro e w' ⟨rfl, rfl⟩
      go_wp2_with fail
      refine HI.out.mono ?_
      rintro e v2 ⟨rfl, hI2, hrow2, ho2⟩
      have hb2 := HB.out.only ho2 HN.out.2.1
      have hr2 := HR.out.only ho2 (fun q hq => HN.out.2.2.1 q hq)
      rw [HP.out]
      have z0 := hb2.frozen 1
      have e0 : v2.cell? ⟨b, 1, none⟩ = some r.ptr := hb2.cell 1
      have hb3 : Blk (v2.setCell ⟨b, 1, none⟩ (.pointer pu)) b NODE #[l.ptr, (r.insV (at_ - x - 1) X).ptr, .int .i64 th, .int .i64 wd, .int .i64 hi, .int .i64 mn, .int .i64 al] := by rw [HP.out]; exact hb2.set_ 1 _
      have o3 := (Only.refl (· = b) v2).setCell (p := ⟨b, 1, none⟩) rfl (.pointer pu)
      have bl : ∀ q, List.count q (r.insV (at_ - x - 1) X).blocks = List.count q (X.blocks ++ r.blocks) := HL.out.1.2.2
      have bmem : ∀ q, q ∈ (r.insV (at_ - x - 1) X).blocks ↔ q ∈ X.blocks ++ r.blocks := fun q => (AV.perm_of bl).mem_iff
      have hI3 := hI2.only o3 (fun q hq e => HN.out.2.1 (by rw [← e]; exact List.mem_cons_of_mem _ ((bmem q).1 hq)))
      have hr3 := hr2.only o3 (fun q hq e => by
        have := (List.nodup_cons.1 (List.nodup_append.1 (List.nodup_cons.1 HD.out).2).2.1).1
        exact this (by rw [← e]; exact List.mem_append_left _ hq))
      have hrow3 := hrow2.only o3 (fun e => HN.out.2.2.2 e.symm)
      have pm : (br :: (AV.node b l th wd hi mn al (r.insV (at_ - x - 1) X)).blocks).Perm (br :: (X.blocks ++ (AV.node b l th wd hi mn al r).blocks)) :=
        AV.perm_of (fun q => by have := bl q; simp only [AV.blocks, List.count_cons, List.count_append] at this ⊢; omega)
      have nd3 := pm.nodup_iff.2 HD.out
      have o13 := (ho2.mono (T := (· ∈ br :: (X.blocks ++ (AV.node b l th wd hi mn al r).blocks))) (fun k _ h => by
        rcases List.mem_cons.1 h with h | h
        · rw [h]; exact List.mem_cons_self
        · refine List.mem_cons_of_mem _ ?_; simp only [AV.blocks, List.mem_append, List.mem_cons] at h ⊢; rcases h with h | h
          · exact .inl h
          · exact .inr (.inr (.inr h)))).trans (o3.mono (fun k _ h => by rw [h]; simp [AV.blocks]))
      have hT3 : InT NODE (v2.setCell ⟨b, 1, none⟩ (.pointer pu)) (AV.node b l th wd hi mn al (r.insV (at_ - x - 1) X)) := ⟨hb3, hr3, hI3⟩
      have HH := Lib.hid (And.intro hT3 (And.intro nd3 pm))
      clear hb2 hr2 hb3 o3 bl bmem hI3 hr3 hT3 nd3 pm hI2 hrow2 ho2
      go_wp2_with fail
      refine (even_any br p b l (r.insV (at_ - x - 1) X) th wd hi mn al _ hrow3 HH.out.1 HH.out.2.1 HL.out.2.2.1 HL.out.1.1 g6 g7 (by have a := HL.out.2.1; have c := HL.out.2.2.2.2.1; have d := HL.out.2.2.2.2.2; omega)).mono ?_
      rintro e v4 ⟨rfl, hI4, hrow4, ho4⟩
      have o4 := o13.trans (ho4.mono (fun k _ h => HH.out.2.2.mem_iff.1 h))
      go_wp2_with fail
      go_ret
      exact ⟨rfl, hI4, hrow4, o4⟩
end Go.Proofs.Ytnhmbpeicgnjaaa
