/- tree.look, turnRight, turnLeft: contracts. -/
import Derived.Test.YtnhmbpeicgnjaaaTreeFix
namespace Go.Proofs.Ytnhmbpeicgnjaaa
open Go.RowKit
set_option linter.unusedVariables false
set_option linter.unusedSimpArgs false

/-- The row's block: its root, and a count of the work. -/
def RowAt (w : World) (br : Nat) (p : Value) : Prop := ∃ k : Int, Blk w br ROW #[p, .int .i64 k]
theorem RowAt.only {w w' : World} {br : Nat} {p : Value} (h : RowAt w br p) {S : Nat → Prop} (ho : Only S w w') (hn : ¬ S br) : RowAt w' br p := by
  obtain ⟨k, h⟩ := h
  exact ⟨k, h.only ho hn⟩

theorem look_any (br : Nat) (p : Value) (w : World) (h : RowAt w br p) :
    Calls Try.prog 21 #[.pointer (some ⟨br, 0, none⟩)] w fun e w' => e = .returned (.tuple #[]) ∧ RowAt w' br p ∧ Only (· = br) w w' := by
  obtain ⟨k, h⟩ := h
  have c1 := h.cell 1
  simp only [List.getElem?_toArray, List.getElem?_cons_succ, List.getElem?_cons_zero] at c1
  have z1 := h.frozen 1
  go_enter Try.func21, Try.ntmps21
  go_wp2_with fail
  go_end0
  exact ⟨rfl, ⟨_, h.set_ 1 _⟩, (Only.refl (· = br) w).setCell (p := ⟨br, 1, none⟩) rfl _⟩

theorem AV.ptr_pointer (T : AV) : ∃ u, T.ptr = .pointer u := by cases T <;> exact ⟨_, rfl⟩

theorem Fits.of {T : AV} (h : T.Con) (hc : T.cnt ≤ 100000) : Fits T := by
  have a := h.hgt
  have b := h.wid_nn
  exact ⟨a.1, by omega, by omega, hc, b.1, by omega⟩

set_option maxRecDepth 100000 in
set_option maxHeartbeats 1000000 in
theorem turnR_any (br : Nat) (p : Value) (b lb : Nat) (ll lr r : AV) (lth lwd lhi lmn lal th wd hi mn al : Int) (w : World) (hrow : RowAt w br p)
    (hT : InT NODE w (AV.node b (.node lb ll lth lwd lhi lmn lal lr) th wd hi mn al r)) (nd : (br :: (AV.node b (.node lb ll lth lwd lhi lmn lal lr) th wd hi mn al r).blocks).Nodup)
    (hl : (AV.node lb ll lth lwd lhi lmn lal lr).Con) (hr : r.Con) (w0 : 0 ≤ wd) (w1 : wd ≤ 1000000) (hc : 1 + lmn + r.cnt ≤ 100000) :
    Calls Try.prog 32 #[.pointer (some ⟨br, 0, none⟩), .pointer (some ⟨b, 0, none⟩)] w fun e w' =>
      e = .returned (AV.turnR b (.node lb ll lth lwd lhi lmn lal lr) th wd r).ptr ∧ InT NODE w' (AV.turnR b (.node lb ll lth lwd lhi lmn lal lr) th wd r) ∧ RowAt w' br p ∧ Only (· ∈ br :: (AV.node b (.node lb ll lth lwd lhi lmn lal lr) th wd hi mn al r).blocks) w w' := by
  obtain ⟨hl1, hl2, hl3, hl4, hl5, hl6, hl7⟩ := hl
  have k1 := hl1.cnt; have k2 := hl2.cnt; have k3 := hr.cnt
  have f1 := Fits.of hl1 (by omega)
  have f2 := Fits.of hl2 (by omega)
  have f3 := Fits.of hr (by omega)
  have f4 : Fits (AV.fixV b lr th wd r) := Fits.of (AV.fixV_con hl2 hr w0 w1) (by show 1 + lr.cnt + r.cnt ≤ 100000; omega)
  obtain ⟨hb, ⟨hlb, hll, hlr⟩, hrr⟩ := hT
  have S : ∀ k, (k = br ∨ k = b ∨ k = lb) → k ∈ br :: (AV.node b (.node lb ll lth lwd lhi lmn lal lr) th wd hi mn al r).blocks := by
    intro k hk; simp only [AV.blocks, List.mem_cons, List.mem_append]; rcases hk with h | h | h <;> simp [h]
  simp only [AV.blocks, List.nodup_cons, List.mem_cons, List.mem_append, List.nodup_append, List.cons_append, not_or] at nd
  obtain ⟨⟨n1, n2, ⟨n3, n4⟩, n5⟩, ⟨n6, ⟨n7, n8⟩, n9⟩, ⟨⟨n10, n11⟩, n12⟩, -⟩ := nd
  obtain ⟨u, hu⟩ := AV.ptr_pointer lr
  obtain ⟨v, hv⟩ := AV.ptr_pointer ll
  have HF := Lib.hid (And.intro f1 (And.intro f2 (And.intro f3 f4)))
  have HN := Lib.hid (And.intro n1 (And.intro n2 (And.intro n6 S)))
  have n1' : b ≠ br := fun e => n1 e.symm
  have n2' : lb ≠ br := fun e => n2 e.symm
  have n6' : lb ≠ b := fun e => n6 e.symm
  clear f1 f2 f3 f4 S hl3 hl4 hl5 k1 k2 k3 n1 n2 hc hl1 hl2 hr
  go_enter Try.func32, Try.ntmps32
  go_wp2_with fail
  refine (look_any br p _ hrow).mono ?_
  rintro e v1 ⟨rfl, hrow1, ho1⟩
  have hb1 := hb.only ho1 n1'
  have hlb1 := hlb.only ho1 n2'
  have hll1 := hll.only ho1 (fun x hx e => n3 (by rw [← e]; exact hx))
  have hlr1 := hlr.only ho1 (fun x hx e => n4 (by rw [← e]; exact hx))
  have hrr1 := hrr.only ho1 (fun x hx e => n5 (by rw [← e]; exact hx))
  have o1 := ho1.mono (T := fun k => k = br ∨ k = b ∨ k = lb) (fun k _ h => .inl h)
  have c1 : v1.cell? ⟨b, 0, none⟩ = some (.pointer (some ⟨lb, 0, none⟩)) := hb1.cell 0
  have c2 : v1.cell? ⟨lb, 1, none⟩ = some (.pointer u) := by rw [← hu]; exact hlb1.cell 1
  have z1 := hb1.frozen 0
  have hb2 : Blk (v1.setCell ⟨b, 0, none⟩ (.pointer u)) b NODE #[lr.ptr, r.ptr, .int .i64 th, .int .i64 wd, .int .i64 hi, .int .i64 mn, .int .i64 al] := by rw [hu]; exact hb1.set_ 0 _
  have o2 := o1.setCell (p := ⟨b, 0, none⟩) (.inr (.inl rfl)) (.pointer u)
  have o2b := (Only.refl (· = b) v1).setCell (p := ⟨b, 0, none⟩) rfl (.pointer u)
  have hlb2 := hlb1.only o2b n6'
  have hrow2 := hrow1.only o2b HN.out.1
  have hin2 := hlr1.only o2b (fun x hx e => n8 (by rw [← e]; exact hx))
  have hou2 := hll1.only o2b (fun x hx e => n7 (by rw [← e]; exact hx))
  have hrr2 := hrr1.only o2b (fun x hx e => n9 (by rw [← e]; exact hx))
  clear hb hlb hll hlr hrr hrow ho1 hb1 hlb1 hll1 hlr1 hrr1 hrow1 o1 o2b
  have HU := Lib.hid hu; clear hu
  have HV := Lib.hid hv; clear hv
  go_wp2_with fail
  refine (fix_any b lr r th wd hi mn al _ hb2 hin2 hrr2 n8 n9 HF.out.2.1 HF.out.2.2.1 w0 w1).mono ?_
  rintro e v3 ⟨rfl, hfx3, ho3⟩
  have hlb3 := hlb2.only ho3 n6'
  have hrow3 := hrow2.only ho3 HN.out.1
  have hou3 := hou2.only ho3 (fun x hx e => n7 (by rw [← e]; exact hx))
  have o3 := o2.trans (ho3.mono (fun k _ h => .inr (.inl h)))
  have c3 : v3.cell? ⟨lb, 1, none⟩ = some (.pointer u) := by rw [← HU.out]; exact hlb3.cell 1
  have z3 := hlb3.frozen 1
  have hlb4 : Blk (v3.setCell ⟨lb, 1, none⟩ (.pointer (some ⟨b, 0, none⟩))) lb NODE #[ll.ptr, (AV.fixV b lr th wd r).ptr, .int .i64 lth, .int .i64 lwd, .int .i64 lhi, .int .i64 lmn, .int .i64 lal] := hlb3.set_ 1 _
  have o4 := o3.setCell (p := ⟨lb, 1, none⟩) (.inr (.inr rfl)) (.pointer (some ⟨b, 0, none⟩))
  have o4b := (Only.refl (· = lb) v3).setCell (p := ⟨lb, 1, none⟩) rfl (.pointer (some ⟨b, 0, none⟩))
  have hrow4 := hrow3.only o4b HN.out.2.1
  have nfx : lb ∉ (AV.fixV b lr th wd r).blocks := by simp [AV.fixV, AV.blocks, n6', n10, n11, n12]
  have hfx4 := hfx3.only o4b (fun x hx e => nfx (by rw [← e]; exact hx))
  have hou4 := hou3.only o4b (fun x hx e => n10 (by rw [← e]; exact hx))
  clear hb2 hlb2 hrow2 hin2 hou2 hrr2 hlb3 hrow3 hou3 ho3 o2 o3 c1 c2 z1 o4b hfx3
  go_wp2_with fail
  refine (fix_any lb ll (AV.fixV b lr th wd r) lth lwd lhi lmn lal _ hlb4 hou4 hfx4 n10 nfx HF.out.1 HF.out.2.2.2 hl6 hl7).mono ?_
  rintro e v5 ⟨rfl, hfx5, ho5⟩
  have hrow5 := hrow4.only ho5 HN.out.2.1
  have o5 := (o4.trans (ho5.mono (fun k _ h => .inr (.inr h)))).mono (fun k _ h => HN.out.2.2.2 k h)
  go_wp2_with fail
  go_ret
  exact ⟨rfl, hfx5, hrow5, o5⟩

set_option maxRecDepth 100000 in
set_option maxHeartbeats 1000000 in
theorem turnL_any (br : Nat) (p : Value) (b lb : Nat) (ll lr r : AV) (lth lwd lhi lmn lal th wd hi mn al : Int) (w : World) (hrow : RowAt w br p)
    (hT : InT NODE w (AV.node b r th wd hi mn al (.node lb ll lth lwd lhi lmn lal lr))) (nd : (br :: (AV.node b r th wd hi mn al (.node lb ll lth lwd lhi lmn lal lr)).blocks).Nodup)
    (hl : (AV.node lb ll lth lwd lhi lmn lal lr).Con) (hr : r.Con) (w0 : 0 ≤ wd) (w1 : wd ≤ 1000000) (hc : 1 + lmn + r.cnt ≤ 100000) :
    Calls Try.prog 31 #[.pointer (some ⟨br, 0, none⟩), .pointer (some ⟨b, 0, none⟩)] w fun e w' =>
      e = .returned (AV.turnL b r th wd (.node lb ll lth lwd lhi lmn lal lr)).ptr ∧ InT NODE w' (AV.turnL b r th wd (.node lb ll lth lwd lhi lmn lal lr)) ∧ RowAt w' br p ∧ Only (· ∈ br :: (AV.node b r th wd hi mn al (.node lb ll lth lwd lhi lmn lal lr)).blocks) w w' := by
  obtain ⟨hl1, hl2, hl3, hl4, hl5, hl6, hl7⟩ := hl
  have k1 := hl1.cnt; have k2 := hl2.cnt; have k3 := hr.cnt
  have f1 := Fits.of hl1 (by omega)
  have f2 := Fits.of hl2 (by omega)
  have f3 := Fits.of hr (by omega)
  have f4 : Fits (AV.fixV b r th wd ll) := Fits.of (AV.fixV_con hr hl1 w0 w1) (by show 1 + r.cnt + ll.cnt ≤ 100000; omega)
  obtain ⟨hb, hrr, ⟨hlb, hll, hlr⟩⟩ := hT
  have S : ∀ k, (k = br ∨ k = b ∨ k = lb) → k ∈ br :: (AV.node b r th wd hi mn al (.node lb ll lth lwd lhi lmn lal lr)).blocks := by
    intro k hk; simp only [AV.blocks, List.mem_cons, List.mem_append]; rcases hk with h | h | h <;> simp [h]
  simp only [AV.blocks, List.nodup_cons, List.mem_cons, List.mem_append, List.nodup_append, List.cons_append, not_or] at nd
  obtain ⟨⟨n1, n5, n2, n3, n4⟩, ⟨n9, n6, n7, n8⟩, ⟨-, ⟨⟨n10, n11⟩, -⟩, nx⟩⟩ := nd
  have n12 : lb ∉ r.blocks := fun h => nx lb h lb (by simp) rfl
  obtain ⟨u, hu⟩ := AV.ptr_pointer ll
  obtain ⟨v, hv⟩ := AV.ptr_pointer lr
  have HF := Lib.hid (And.intro f1 (And.intro f2 (And.intro f3 f4)))
  have HN := Lib.hid (And.intro n1 (And.intro n2 (And.intro n6 S)))
  have n1' : b ≠ br := fun e => n1 e.symm
  have n2' : lb ≠ br := fun e => n2 e.symm
  have n6' : lb ≠ b := fun e => n6 e.symm
  clear f1 f2 f3 f4 S hl3 hl4 hl5 k1 k2 k3 n1 n2 hc hl1 hl2 hr
  go_enter Try.func31, Try.ntmps31
  go_wp2_with fail
  refine (look_any br p _ hrow).mono ?_
  rintro e v1 ⟨rfl, hrow1, ho1⟩
  have hb1 := hb.only ho1 n1'
  have hlb1 := hlb.only ho1 n2'
  have hll1 := hll.only ho1 (fun x hx e => n3 (by rw [← e]; exact hx))
  have hlr1 := hlr.only ho1 (fun x hx e => n4 (by rw [← e]; exact hx))
  have hrr1 := hrr.only ho1 (fun x hx e => n5 (by rw [← e]; exact hx))
  have o1 := ho1.mono (T := fun k => k = br ∨ k = b ∨ k = lb) (fun k _ h => .inl h)
  have c1 : v1.cell? ⟨b, 1, none⟩ = some (.pointer (some ⟨lb, 0, none⟩)) := hb1.cell 1
  have c2 : v1.cell? ⟨lb, 0, none⟩ = some (.pointer u) := by rw [← hu]; exact hlb1.cell 0
  have z1 := hb1.frozen 1
  have hb2 : Blk (v1.setCell ⟨b, 1, none⟩ (.pointer u)) b NODE #[r.ptr, ll.ptr, .int .i64 th, .int .i64 wd, .int .i64 hi, .int .i64 mn, .int .i64 al] := by rw [hu]; exact hb1.set_ 1 _
  have o2 := o1.setCell (p := ⟨b, 1, none⟩) (.inr (.inl rfl)) (.pointer u)
  have o2b := (Only.refl (· = b) v1).setCell (p := ⟨b, 1, none⟩) rfl (.pointer u)
  have hlb2 := hlb1.only o2b n6'
  have hrow2 := hrow1.only o2b HN.out.1
  have hin2 := hll1.only o2b (fun x hx e => n7 (by rw [← e]; exact hx))
  have hou2 := hlr1.only o2b (fun x hx e => n8 (by rw [← e]; exact hx))
  have hrr2 := hrr1.only o2b (fun x hx e => n9 (by rw [← e]; exact hx))
  clear hb hlb hll hlr hrr hrow ho1 hb1 hlb1 hll1 hlr1 hrr1 hrow1 o1 o2b
  have HU := Lib.hid hu; clear hu
  have HV := Lib.hid hv; clear hv
  go_wp2_with fail
  refine (fix_any b r ll th wd hi mn al _ hb2 hrr2 hin2 n9 n7 HF.out.2.2.1 HF.out.1 w0 w1).mono ?_
  rintro e v3 ⟨rfl, hfx3, ho3⟩
  have hlb3 := hlb2.only ho3 n6'
  have hrow3 := hrow2.only ho3 HN.out.1
  have hou3 := hou2.only ho3 (fun x hx e => n8 (by rw [← e]; exact hx))
  have o3 := o2.trans (ho3.mono (fun k _ h => .inr (.inl h)))
  have c3 : v3.cell? ⟨lb, 0, none⟩ = some (.pointer u) := by rw [← HU.out]; exact hlb3.cell 0
  have z3 := hlb3.frozen 0
  have hlb4 : Blk (v3.setCell ⟨lb, 0, none⟩ (.pointer (some ⟨b, 0, none⟩))) lb NODE #[(AV.fixV b r th wd ll).ptr, lr.ptr, .int .i64 lth, .int .i64 lwd, .int .i64 lhi, .int .i64 lmn, .int .i64 lal] := hlb3.set_ 0 _
  have o4 := o3.setCell (p := ⟨lb, 0, none⟩) (.inr (.inr rfl)) (.pointer (some ⟨b, 0, none⟩))
  have o4b := (Only.refl (· = lb) v3).setCell (p := ⟨lb, 0, none⟩) rfl (.pointer (some ⟨b, 0, none⟩))
  have hrow4 := hrow3.only o4b HN.out.2.1
  have nfx : lb ∉ (AV.fixV b r th wd ll).blocks := by simp [AV.fixV, AV.blocks, n6', n10, n11, n12]
  have hfx4 := hfx3.only o4b (fun x hx e => nfx (by rw [← e]; exact hx))
  have hou4 := hou3.only o4b (fun x hx e => n11 (by rw [← e]; exact hx))
  clear hb2 hlb2 hrow2 hin2 hou2 hrr2 hlb3 hrow3 hou3 ho3 o2 o3 c1 c2 z1 o4b hfx3
  go_wp2_with fail
  refine (fix_any lb (AV.fixV b r th wd ll) lr lth lwd lhi lmn lal _ hlb4 hfx4 hou4 nfx n11 HF.out.2.2.2 HF.out.2.1 hl6 hl7).mono ?_
  rintro e v5 ⟨rfl, hfx5, ho5⟩
  have hrow5 := hrow4.only ho5 HN.out.2.1
  have o5 := (o4.trans (ho5.mono (fun k _ h => .inr (.inr h)))).mono (fun k _ h => HN.out.2.2.2 k h)
  go_wp2_with fail
  go_ret
  exact ⟨rfl, hfx5, hrow5, o5⟩
end Go.Proofs.Ytnhmbpeicgnjaaa
