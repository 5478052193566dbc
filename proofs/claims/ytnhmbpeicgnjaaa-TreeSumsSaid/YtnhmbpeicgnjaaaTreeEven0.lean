/- tree.even: a contract. -/
import Derived.Test.YtnhmbpeicgnjaaaTreeTurn
namespace Go.Proofs.Ytnhmbpeicgnjaaa
open Go.RowKit
set_option linter.unusedVariables false
set_option linter.unusedSimpArgs false

theorem height_q (T : AV) (u : Option Addr) (x : Int) (w : World) (h : InT NODE w T) (hu : T.ptr = .pointer u) (hx : T.hgt = x) (n : Nat) :
    Calls Try.prog 28 #[.pointer u] (w.drewN n) fun e w'' => e = .returned (.int .i64 x) ∧ ∃ m, w'' = w.drewN m := by
  subst hx
  rw [← hu]
  exact Calls.quiet_of_same (height_eq T _ (h.drewN n))
theorem count_q (T : AV) (u : Option Addr) (x : Int) (w : World) (h : InT NODE w T) (hu : T.ptr = .pointer u) (hx : T.cnt = x) (n : Nat) :
    Calls Try.prog 23 #[.pointer u] (w.drewN n) fun e w'' => e = .returned (.int .i64 x) ∧ ∃ m, w'' = w.drewN m := by
  subst hx
  rw [← hu]
  exact Calls.quiet_of_same (count_eq T _ (h.drewN n))
theorem width_q (T : AV) (u : Option Addr) (x : Int) (w : World) (h : InT NODE w T) (hu : T.ptr = .pointer u) (hx : T.wid = x) (n : Nat) :
    Calls Try.prog 22 #[.pointer u] (w.drewN n) fun e w'' => e = .returned (.int .i64 x) ∧ ∃ m, w'' = w.drewN m := by
  subst hx
  rw [← hu]
  exact Calls.quiet_of_same (width_eq T _ (h.drewN n))

/-- What evening gives: the tree, in memory; the row; nothing else turned. -/
def TPost (w : World) (br : Nat) (p : Value) (S : List Nat) (T : AV) (e : Ending) (w' : World) : Prop :=
  e = .returned T.ptr ∧ InT NODE w' T ∧ RowAt w' br p ∧ Only (· ∈ br :: S) w w'

theorem Only.of_drew {S : Nat → Prop} {w w' : World} {n : Nat} (h : Only S (w.drewN n) w') : Only S w w' := ⟨h.os, h.tape, h.output, h.size, h.block⟩
theorem height_qs (T : AV) (u : Option Addr) (x : Int) (w : World) (h : InT NODE w T) (hu : T.ptr = .pointer u) (hx : T.hgt = x) (n : Nat) :
    Calls Try.prog 28 #[.pointer u] (w.drewN n) fun e w'' => e = .returned (.int .i64 x) ∧ w'' = w.drewN n := by
  subst hx
  rw [← hu]
  exact height_eq T _ (h.drewN n)

theorem turnR_tree (br : Nat) (p : Value) (b : Nat) (l r : AV) (th wd hi mn al : Int) (w : World) (hrow : RowAt w br p) (hT : InT NODE w (AV.node b l th wd hi mn al r)) (nd : (br :: (AV.node b l th wd hi mn al r).blocks).Nodup)
    (hl : l.Con) (hr : r.Con) (w0 : 0 ≤ wd) (w1 : wd ≤ 1000000) (hc : 1 + l.cnt + r.cnt ≤ 100000) (hp : 0 < l.hgt) :
    Calls Try.prog 32 #[.pointer (some ⟨br, 0, none⟩), .pointer (some ⟨b, 0, none⟩)] w (TPost w br p (b :: (l.blocks ++ r.blocks)) (AV.turnR b l th wd r)) := by
  obtain ⟨lb, ll, lth, lwd, lhi, lmn, lal, lr, rfl⟩ := AV.hgt_pos hl hp
  exact turnR_any br p b lb ll lr r lth lwd lhi lmn lal th wd hi mn al w hrow hT nd hl hr w0 w1 hc

theorem turnL_tree (br : Nat) (p : Value) (b : Nat) (l r : AV) (th wd hi mn al : Int) (w : World) (hrow : RowAt w br p) (hT : InT NODE w (AV.node b l th wd hi mn al r)) (nd : (br :: (AV.node b l th wd hi mn al r).blocks).Nodup)
    (hl : l.Con) (hr : r.Con) (w0 : 0 ≤ wd) (w1 : wd ≤ 1000000) (hc : 1 + l.cnt + r.cnt ≤ 100000) (hp : 0 < r.hgt) :
    Calls Try.prog 31 #[.pointer (some ⟨br, 0, none⟩), .pointer (some ⟨b, 0, none⟩)] w (TPost w br p (b :: (l.blocks ++ r.blocks)) (AV.turnL b l th wd r)) := by
  obtain ⟨lb, ll, lth, lwd, lhi, lmn, lal, lr, rfl⟩ := AV.hgt_pos hr hp
  exact turnL_any br p b lb ll lr l lth lwd lhi lmn lal th wd hi mn al w hrow hT nd hr hl w0 w1 (by have h : 1 + l.cnt + lmn ≤ 100000 := hc; omega)

set_option maxRecDepth 100000 in
set_option maxHeartbeats 2000000 in
theorem even_fix (br : Nat) (p : Value) (b : Nat) (l r : AV) (th wd hi mn al : Int) (w : World) (hrow : RowAt w br p)
    (hT : InT NODE w (.node b l th wd hi mn al r)) (nd : (br :: (AV.node b l th wd hi mn al r).blocks).Nodup) (hl : l.Con) (hr : r.Con) (w0 : 0 ≤ wd) (w1 : wd ≤ 1000000) (hc : 1 + l.cnt + r.cnt ≤ 100000)
    (h1 : ¬ l.hgt - r.hgt > 1) (h2 : ¬ l.hgt - r.hgt < -1) :
    Calls Try.prog 27 #[.pointer (some ⟨br, 0, none⟩), .pointer (some ⟨b, 0, none⟩)] w (TPost w br p (b :: (l.blocks ++ r.blocks)) (AV.fixV b l th wd r)) := by
  have k1 := hl.cnt; have k3 := hr.cnt
  have f1 := Fits.of hl (by omega)
  have f3 := Fits.of hr (by omega)
  obtain ⟨hb, hll, hrr⟩ := hT
  simp only [AV.blocks, List.nodup_cons, List.mem_cons, List.mem_append, List.nodup_append, not_or] at nd
  obtain ⟨⟨n1, n2, n3⟩, ⟨n4, n5⟩, -⟩ := nd
  obtain ⟨u, hu⟩ := AV.ptr_pointer l
  obtain ⟨v, hv⟩ := AV.ptr_pointer r
  obtain ⟨x, hx⟩ : ∃ x, l.hgt = x := ⟨_, rfl⟩
  obtain ⟨y, hy⟩ : ∃ y, r.hgt = y := ⟨_, rfl⟩
  have b1 := f1.h0; have b2 := f1.h1; have b3 := f3.h0; have b4 := f3.h1
  rw [hx] at h1 b1 b2
  rw [hy] at h1 h2 b3 b4
  rw [hx] at h2
  have d1 : decide (1 < x - y) = false := by simp; omega
  have d2 : decide (x - y < -1) = false := by simp; omega
  have HF := Lib.hid (And.intro f1 f3)
  have HX := Lib.hid hx; have HY := Lib.hid hy; have HU := Lib.hid hu; have HV := Lib.hid hv
  have n1' : b ≠ br := fun e => n1 e.symm
  have HN := Lib.hid n1
  clear f1 f3 hx hy hu hv k1 k3 h1 h2 hl hr hc n1
  go_enter Try.func27, Try.ntmps27
  go_wp2_with fail
  refine (look_any br p _ hrow).mono ?_
  rintro e v1 ⟨rfl, hrow1, ho1⟩
  have hb1 := hb.only ho1 n1'
  have hll1 := hll.only ho1 (fun z hz e => n2 (by rw [← e]; exact hz))
  have hrr1 := hrr.only ho1 (fun z hz e => n3 (by rw [← e]; exact hz))
  have c0 : v1.cell? ⟨b, 0, none⟩ = some (.pointer u) := by rw [← HU.out]; exact hb1.cell 0
  have c1 : v1.cell? ⟨b, 1, none⟩ = some (.pointer v) := by rw [← HV.out]; exact hb1.cell 1
  have ho1' := ho1.mono (T := fun k => k = br ∨ k = b) (fun k _ h => .inl h)
  clear hb hll hrr hrow ho1
  go_wp2_with fail
  go_quiet ((first
    | (go_at_call 28; exact height_q l u x _ hll1 HU.out HX.out _)
    | (go_at_call 28; exact height_q r v y _ hrr1 HV.out HY.out _)))
  go_wp2_with fail
  refine (fix_any b l r th wd hi mn al _ (by exact hb1) (by exact hll1.drewN _) (by exact hrr1.drewN _) n4 n5 HF.out.1 HF.out.2 w0 w1).mono ?_
  rintro e v2 ⟨rfl, hf2, ho2'⟩
  have ho2 := Only.of_drew ho2'
  have hrow2 := hrow1.only ho2 HN.out
  go_wp2_with fail
  go_ret
  exact ⟨rfl, hf2, hrow2, (ho1'.trans (ho2.mono (fun k _ h => .inr h))).mono (fun k _ h => by rcases h with h | h <;> simp [h])⟩

end Go.Proofs.Ytnhmbpeicgnjaaa
