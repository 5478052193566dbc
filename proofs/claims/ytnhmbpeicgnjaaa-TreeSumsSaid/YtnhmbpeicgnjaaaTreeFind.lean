/- tree.way, Get, Find, Ahead: contracts. -/
import Derived.Test.YtnhmbpeicgnjaaaTreeRow
import Derived.OwnWalk
namespace Go.Proofs.Ytnhmbpeicgnjaaa
open Go.RowKit
set_option linter.unusedVariables false
set_option linter.unusedSimpArgs false

/-- How many things the tree below a pointer has. -/
def cntAt (w : World) (v : Value) : Nat := match v with
  | .pointer (some a) => match w.cell? ⟨a.block, 5, none⟩ with | some (.int .i64 n) => n.toNat | _ => 0
  | _ => 0
theorem cntAt_of {w : World} {T : AV} (h : InT NODE w T) : cntAt w T.ptr = T.cnt.toNat := by
  cases T with
  | nil => rfl
  | node b l th wd hi mn al r =>
    have := h.1.cell 5
    simp only [List.getElem?_toArray, List.getElem?_cons_succ, List.getElem?_cons_zero] at this
    simp only [cntAt, AV.ptr, this, AV.cnt]

theorem get1_any (x : Value) (w : World) : Calls Try.prog 25 #[x] w fun e w' => e = .returned (.tuple #[]) ∧ w = w' := by
  go_enter Try.func25, Try.ntmps25
  go_wp2
  go_end0
  exact ⟨rfl, rfl⟩

/-- What the way down gives: the node of the thing at an index. -/
def WayPost (w : World) (br : Nat) (p : Value) (T : AV) (k : Nat) (e : Ending) (w' : World) : Prop :=
  ∃ (bf : Nat) (th wd : Int), e = .returned (.pointer (some ⟨bf, 0, none⟩)) ∧ T.seq[k]? = some (th, wd) ∧ bf ≠ br ∧ w'.cell? ⟨bf, 2, none⟩ = some (.int .i64 th) ∧ w'.cell? ⟨bf, 3, none⟩ = some (.int .i64 wd) ∧ RowAt w' br p ∧ Only (· = br) w w'

theorem RowT.upd {B : Nat} {w w' : World} {br : Nat} {T : AV} (h : RowT B w br T) (hrow : RowAt w' br T.ptr) (ho : Only (· = br) w w') : RowT B w' br T :=
  ⟨hrow, h.tree.only ho (fun q hq e => (List.nodup_cons.1 h.nd).1 (by rw [← e]; exact hq)), h.nd, h.con, h.low, h.size⟩

abbrev CL : Value := (.func (.func 25) #[] #[])

set_option maxRecDepth 100000 in
set_option maxHeartbeats 2000000 in
theorem way_any (br : Nat) (p : Value) : ∀ (T : AV) (k : Nat) (u : Option Addr) (w : World), T.ptr = .pointer u → RowAt w br p → InT NODE w T → br ∉ T.blocks → T.Con → (k : Int) < T.cnt → T.cnt ≤ 100000 →
    Calls Try.prog 24 #[.pointer (some ⟨br, 0, none⟩), .pointer u, .int .i64 k, CL] w (WayPost w br p T k) := by
  intro T
  induction T with
  | nil => intro k u w hu hrow hT nbr hc h0 h1; simp only [AV.cnt] at h0; omega
  | node b l th wd hi mn al r ihl ihr =>
    intro k u w hu hrow hT nbr hc h0 h1
    obtain rfl : u = some ⟨b, 0, none⟩ := by unfold AV.ptr at hu; injection hu with hu; exact hu.symm
    obtain ⟨g1, g2, g3, g4, g5, g6, g7⟩ := hc
    have k1 := g1.cnt; have k2 := g2.cnt
    have h0' : (k : Int) < mn := h0
    have h1' : mn ≤ 100000 := h1
    obtain ⟨pl, hpl⟩ := AV.ptr_pointer l
    obtain ⟨pr, hpr⟩ := AV.ptr_pointer r
    obtain ⟨x, hx⟩ : ∃ x, l.cnt = x := ⟨_, rfl⟩
    have nbl : br ∉ l.blocks := fun h => nbr (by simp [AV.blocks, h])
    have nbr' : br ∉ r.blocks := fun h => nbr (by simp [AV.blocks, h])
    have nb : b ≠ br := fun h => nbr (by simp [AV.blocks, h])
    have x0 : 0 ≤ x := by omega
    have x1 : x ≤ 100000 := by omega
    have HL := Lib.hid (fun (v1 : World) (a : RowAt v1 br p) (c : InT NODE v1 l) (d : (k : Int) < x) => ihl k pl v1 hpl a c nbl g1 (by omega) (by omega))
    have HR := Lib.hid (fun (v1 : World) (a : RowAt v1 br p) (c : InT NODE v1 r) (j : Nat) (d : (k : Int) = x + 1 + j) => ihr j pr v1 hpr a c nbr' g2 (by omega) (by omega))
    have HS := Lib.hid (show (∀ y, (k : Int) < x → l.seq[k]? = y → (AV.node b l th wd hi mn al r).seq[k]? = y) ∧ (∀ (j : Nat) y, (k : Int) = x + 1 + j → r.seq[j]? = y → (AV.node b l th wd hi mn al r).seq[k]? = y) ∧ ((k : Int) = x → (AV.node b l th wd hi mn al r).seq[k]? = some (th, wd)) from by
      refine ⟨fun y hk hy => ?_, fun j y hk hy => ?_, fun hk => ?_⟩
      · simp only [AV.seq]; rw [List.getElem?_append_left (by omega)]; exact hy
      · simp only [AV.seq]; rw [List.getElem?_append_right (by omega), show k - l.seq.length = j + 1 from by omega, List.getElem?_cons_succ]; exact hy
      · simp only [AV.seq]; rw [List.getElem?_append_right (by omega), show k - l.seq.length = 0 from by omega, List.getElem?_cons_zero])
    have HP := Lib.hid (And.intro hpl (And.intro hpr hx))
    clear ihl ihr hu g1 g2 g3 g4 g5 k1 k2 h0 h1 hpl hpr hx nbl nbr'
    have hkx : (k : Int) < x ∨ (k : Int) = x ∨ x < (k : Int) := by omega
    rcases hkx with hkx | hkx | hkx
    · have d1 : decide ((k : Int) < x) = true := by simpa using hkx
      go_enter Try.func24, Try.ntmps24
      go_wp2_with fail
      refine (look_any br p _ hrow).mono ?_
      rintro e v1 ⟨rfl, hrow1, ho1⟩
      have hT1 := hT.only ho1 (fun q hq e => nbr (by rw [← e]; exact hq))
      have c0 : v1.cell? ⟨b, 0, none⟩ = some (.pointer pl) := by rw [← HP.out.1]; exact hT1.1.cell 0
      have HC := Lib.hid (show Calls Try.prog 23 #[.pointer pl] v1 fun e w' => e = .returned (.int .i64 x) ∧ v1 = w' from by rw [← HP.out.1, ← HP.out.2.2]; exact count_any l v1 hT1.2.1)
      have HT1 := Lib.hid hT1
      clear hT hT1
      go_wp2_with fail
      refine HC.out.mono ?_
      rintro e w' ⟨rfl, rfl⟩
      go_wp2_with fail
      refine (HL.out v1 hrow1 HT1.out.2.1 hkx).mono ?_
      rintro e v2 ⟨bf, th', wd', rfl, hs, hne, c2, c3, hrow2, ho2⟩
      have HSS := Lib.hid hs; clear hs
      go_wp2_with fail
      refine (get1_any _ _).mono ?_
      rintro e w' ⟨rfl, rfl⟩
      go_wp2_with fail
      go_ret
      exact ⟨bf, th', wd', rfl, HS.out.1 _ hkx HSS.out, hne, c2, c3, hrow2, ho1.trans ho2⟩
    · have d1 : decide ((k : Int) < x) = false := by simp; omega
      have d2 : decide (x < (k : Int)) = false := by simp; omega
      have HKX := Lib.hid hkx; clear hkx
      go_enter Try.func24, Try.ntmps24
      go_wp2_with fail
      refine (look_any br p _ hrow).mono ?_
      rintro e v1 ⟨rfl, hrow1, ho1⟩
      have hT1 := hT.only ho1 (fun q hq e => nbr (by rw [← e]; exact hq))
      have c0 : v1.cell? ⟨b, 0, none⟩ = some (.pointer pl) := by rw [← HP.out.1]; exact hT1.1.cell 0
      have HC := Lib.hid (show Calls Try.prog 23 #[.pointer pl] v1 fun e w' => e = .returned (.int .i64 x) ∧ v1 = w' from by rw [← HP.out.1, ← HP.out.2.2]; exact count_any l v1 hT1.2.1)
      have HT1 := Lib.hid hT1
      clear hT hT1
      go_wp2_with fail
      refine HC.out.mono ?_
      rintro e w' ⟨rfl, rfl⟩
      go_wp2_with fail
      refine (get1_any _ _).mono ?_
      rintro e w' ⟨rfl, rfl⟩
      go_wp2_with fail
      go_ret
      exact ⟨b, th, wd, rfl, HS.out.2.2 HKX.out, nb, HT1.out.1.cell 2, HT1.out.1.cell 3, hrow1, ho1⟩
    · have d1 : decide ((k : Int) < x) = false := by simp; omega
      have d2 : decide (x < (k : Int)) = true := by simpa using hkx
      obtain ⟨j, hj⟩ : ∃ j : Nat, (k : Int) = x + 1 + j := ⟨(k - x - 1).toNat, by omega⟩
      have hj' : (k : Int) - x - 1 = j := by omega
      have HJ := Lib.hid (And.intro hj hj')
      have kb : (k : Int) ≤ 100000 := by omega
      clear hj hj'
      go_enter Try.func24, Try.ntmps24
      go_wp2_with fail
      refine (look_any br p _ hrow).mono ?_
      rintro e v1 ⟨rfl, hrow1, ho1⟩
      have hT1 := hT.only ho1 (fun q hq e => nbr (by rw [← e]; exact hq))
      have c0 : v1.cell? ⟨b, 0, none⟩ = some (.pointer pl) := by rw [← HP.out.1]; exact hT1.1.cell 0
      have c1 : v1.cell? ⟨b, 1, none⟩ = some (.pointer pr) := by rw [← HP.out.2.1]; exact hT1.1.cell 1
      have HC := Lib.hid (show Calls Try.prog 23 #[.pointer pl] v1 fun e w' => e = .returned (.int .i64 x) ∧ v1 = w' from by rw [← HP.out.1, ← HP.out.2.2]; exact count_any l v1 hT1.2.1)
      have HT1 := Lib.hid hT1
      clear hT hT1
      go_wp2_with fail
      refine HC.out.mono ?_
      rintro e w' ⟨rfl, rfl⟩
      go_wp2_with fail
      rw [HJ.out.2]
      refine (HR.out v1 hrow1 HT1.out.2.2 j HJ.out.1).mono ?_
      rintro e v2 ⟨bf, th', wd', rfl, hs, hne, c2, c3, hrow2, ho2⟩
      have HSS := Lib.hid hs; clear hs
      go_wp2_with fail
      refine (get1_any _ _).mono ?_
      rintro e w' ⟨rfl, rfl⟩
      go_wp2_with fail
      go_ret
      exact ⟨bf, th', wd', rfl, HS.out.2.1 j _ HJ.out.1 HSS.out, hne, c2, c3, hrow2, ho1.trans ho2⟩

set_option maxRecDepth 100000 in
set_option maxHeartbeats 2000000 in
theorem Get_any (B : Nat) (br : Nat) (T : AV) (k : Nat) (th wd : Int) (w : World) (h : RowT B w br T) (hs : T.seq[k]? = some (th, wd)) :
    Calls Try.prog 14 #[.pointer (some ⟨br, 0, none⟩), .int .i64 k] w fun e w' => e = .returned (.tuple #[.int .i64 th, .int .i64 wd, .nilIface]) ∧ RowT B w' br T ∧ Only (· = br) w w' := by
  have hcnt := h.con.cnt
  have hlt := (List.getElem?_eq_some_iff.1 hs).1
  have h0 : (k : Int) < T.cnt := by omega
  have hsz := h.size
  have nbr := (List.nodup_cons.1 h.nd).1
  obtain ⟨x, hx⟩ : ∃ x, T.cnt = x := ⟨_, rfl⟩
  have HLEN := Lib.hid (show Calls Try.prog 12 #[.pointer (some ⟨br, 0, none⟩)] w fun e w' => e = .returned (.int .i64 x) ∧ w = w' from by rw [← hx]; exact len_any br T w h)
  obtain ⟨kk, hk⟩ := h.row
  obtain ⟨u, hu⟩ := AV.ptr_pointer T
  have c0 : w.cell? ⟨br, 0, none⟩ = some (.pointer u) := by rw [← hu]; exact hk.cell 0
  have HW := Lib.hid (way_any br T.ptr T k u w hu h.row h.tree nbr h.con h0 hsz)
  have HH := Lib.hid (And.intro h (And.intro hs nbr))
  have d0 : decide (x ≤ (k : Int)) = false := by simp; omega
  have d1 : decide ((k : Int) < 0) = false := by simp
  clear hcnt hlt h0 hsz hk hu hs h hx nbr
  go_enter Try.func14, Try.ntmps14
  go_wp2_with fail
  refine HLEN.out.mono ?_
  rintro e w' ⟨rfl, rfl⟩
  go_wp2_with fail
  refine HW.out.mono ?_
  rintro e v2 ⟨bf, th', wd', rfl, hs, hne, c2, c3, hrow2, ho2⟩
  have hss := hs.symm.trans HH.out.2.1
  injection hss with hss
  injection hss with e1 e2
  subst e1; subst e2
  have HSS := Lib.hid hs; clear hs
  go_wp2_with fail
  go_quiet (fail)
  go_wp2_with fail
  go_ret3
  exact ⟨rfl, HH.out.1.upd hrow2 (ho2.drewN _), ho2.drewN _⟩

/-- The widths of a row. -/
theorem AV.Con.wides {T : AV} (h : T.Con) : ∀ x ∈ T.seq, 0 ≤ x.2 ∧ x.2 ≤ 1000000 := by
  induction T with
  | nil => intro x hx; simp [AV.seq] at hx
  | node b l th wd hi mn al r ihl ihr =>
    obtain ⟨h1, h2, _, _, _, h6, h7⟩ := h
    intro x hx
    simp only [AV.seq, List.mem_append, List.mem_cons] at hx
    rcases hx with hx | rfl | hx
    · exact ihl h1 x hx
    · exact ⟨h6, h7⟩
    · exact ihr h2 x hx
theorem sumW_nn : ∀ (l : List (Int × Int)), (∀ x ∈ l, 0 ≤ x.2 ∧ x.2 ≤ 1000000) → 0 ≤ AV.sumW l ∧ AV.sumW l ≤ 1000000 * l.length
  | [], _ => by simp [AV.sumW]
  | x :: l, h => by
    have a := h x (by simp)
    have c := sumW_nn l (fun y hy => h y (by simp [hy]))
    simp only [AV.sumW, List.length_cons]
    omega
theorem sumW_take_nn {T : AV} (h : T.Con) (j : Nat) : 0 ≤ AV.sumW (T.seq.take j) ∧ AV.sumW (T.seq.take j) ≤ 1000000 * T.seq.length := by
  have a := sumW_nn (T.seq.take j) (fun x hx => h.wides x (List.mem_of_mem_take hx))
  have : (T.seq.take j).length ≤ T.seq.length := by rw [List.length_take]; omega
  omega

set_option maxRecDepth 100000 in
set_option maxHeartbeats 2000000 in
theorem Ahead_any (B : Nat) (br : Nat) (T : AV) (k : Nat) (w : World) (h : RowT B w br T) (h0 : (k : Int) ≤ T.cnt) :
    Calls Try.prog 13 #[.pointer (some ⟨br, 0, none⟩), .int .i64 k] w fun e w' => e = .returned (.tuple #[.int .i64 (AV.sumW (T.seq.take k)), .nilIface]) ∧ RowT B w' br T ∧ Only (· = br) w w' := by
  have hcnt := h.con.cnt
  have hsz := h.size
  have nbr := (List.nodup_cons.1 h.nd).1
  obtain ⟨x, hx⟩ : ∃ x, T.cnt = x := ⟨_, rfl⟩
  have HLEN := Lib.hid (show Calls Try.prog 12 #[.pointer (some ⟨br, 0, none⟩)] w fun e w' => e = .returned (.int .i64 x) ∧ w = w' from by rw [← hx]; exact len_any br T w h)
  obtain ⟨kk, hk⟩ := h.row
  obtain ⟨u, hu⟩ := AV.ptr_pointer T
  have c0 : w.cell? ⟨br, 0, none⟩ = some (.pointer u) := by rw [← hu]; exact hk.cell 0
  have d0 : decide (x < (k : Int)) = false := by simp; omega
  have d1 : decide ((k : Int) < 0) = false := by simp
  obtain ⟨tot, htot⟩ : ∃ tot, AV.sumW (T.seq.take k) = tot := ⟨_, rfl⟩
  have ht := sumW_take_nn h.con k
  rw [htot] at ht
  have t1 : tot ≤ 100000000000 := by omega
  have hk1 : (k : Int) ≤ 100000 := by omega
  rw [htot]
  have HH := Lib.hid (And.intro h (And.intro nbr (And.intro htot (And.intro hu (And.intro hx h0)))))
  clear hcnt h0 hsz hk hu h hx nbr htot ht
  go_enter Try.func13, Try.ntmps13
  go_wp2_with fail
  refine HLEN.out.mono ?_
  rintro e w' ⟨rfl, rfl⟩
  go_wp2_with fail
  go_loopw [1, 6, 7] (fun at_ s n wr => ∃ (U : AV) (j : Nat) (sv : Int), at_ = .int .i64 j ∧ s = .int .i64 sv ∧ n = U.ptr ∧ (j : Int) ≤ U.cnt ∧ U.Con ∧ InT NODE wr U ∧ br ∉ U.blocks ∧ RowAt wr br T.ptr ∧ Only (· = br) w wr ∧ U.cnt ≤ 100000 ∧ 0 ≤ sv ∧ sv + AV.sumW (U.seq.take j) = tot)
    (fun _ _ n wr => cntAt wr n)
  case atStart => exact ⟨T, k, 0, rfl, rfl, HH.out.2.2.2.1.symm, by have := HH.out.2.2.2.2; omega, HH.out.1.con, HH.out.1.tree, HH.out.2.1, HH.out.1.row, Only.refl _ _, HH.out.1.size, by omega, by have := HH.out.2.2.1; omega⟩
  case round =>
    obtain ⟨U, j, sv, rfl, rfl, rfl, hj, hcon, hin, nb, hrow, ho, hcU, hsv, heq⟩ := hrel
    cases U with
    | nil =>
      have hsv2 : sv = tot := by simpa [AV.seq, AV.sumW] using heq
      subst hsv2
      have HO := Lib.hid (And.intro hrow ho)
      clear heq hin hcon hj hcU nb hrow ho
      unfold AV.ptr
      go_wp2_with fail
      go_ret2
      exact ⟨rfl, HH.out.1.upd HO.out.1 HO.out.2, HO.out.2⟩
    | node b l th wd hi mn al r =>
      obtain ⟨g1, g2, g3, g4, g5, g6, g7⟩ := hcon
      have k1 := g1.cnt; have k2 := g2.cnt
      have hj' : (j : Int) ≤ mn := hj
      have hmn : mn ≤ 100000 := hcU
      obtain ⟨pl, hpl⟩ := AV.ptr_pointer l
      obtain ⟨pr, hpr⟩ := AV.ptr_pointer r
      obtain ⟨y, hy⟩ : ∃ y, l.wid = y := ⟨_, rfl⟩
      obtain ⟨q, hq⟩ : ∃ q, l.cnt = q := ⟨_, rfl⟩
      have nbl : br ∉ l.blocks := fun h => nb (by simp [AV.blocks, h])
      have nbr' : br ∉ r.blocks := fun h => nb (by simp [AV.blocks, h])
      have q0 : 0 ≤ q := by omega
      have q1 : q ≤ 100000 := by omega
      have hyw := g1.wid_nn
      have y0 : 0 ≤ y := by omega
      have y1 : y ≤ 100000000000 := by omega
      have hws : y = AV.sumW l.seq := by rw [← hy]; exact g1.wid
      have hme : cntAt wr (AV.node b l th wd hi mn al r).ptr = mn.toNat := cntAt_of hin
      by_cases hjq : (j : Int) ≤ q
      · have heq2 : sv + AV.sumW (l.seq.take j) = tot := by
          rw [← heq]; simp only [AV.seq]; rw [List.take_append_of_le_length (by omega)]
        have hm : q.toNat < mn.toNat := by omega
        have dj : decide ((j : Int) ≤ q) = true := by simpa using hjq
        have HG := Lib.hid (And.intro hpl (And.intro hpr (And.intro hy (And.intro hq (And.intro g1 (And.intro nbl (And.intro heq2 (And.intro hme hm))))))))
        have HO := Lib.hid ho
        have HIN := Lib.hid hin
        have HNB := Lib.hid nb
        clear hpl hpr hy hq g1 g2 g3 g4 g5 nbl nbr' heq heq2 hme hm hyw hws ho k1 k2 hj hcU hin nb
        unfold AV.ptr
        go_wp2_with fail
        refine (look_any br T.ptr _ hrow).mono ?_
        rintro e v1 ⟨rfl, hrow1, ho1⟩
        have hT1 := HIN.out.only ho1 (fun z hz e => HNB.out (by rw [← e]; exact hz))
        have c0 : v1.cell? ⟨b, 0, none⟩ = some (.pointer pl) := by rw [← HG.out.1]; exact hT1.1.cell 0
        have HC := Lib.hid (show Calls Try.prog 23 #[.pointer pl] v1 fun e w' => e = .returned (.int .i64 q) ∧ v1 = w' from by rw [← HG.out.1, ← HG.out.2.2.2.1]; exact count_any l v1 hT1.2.1)
        have HT1 := Lib.hid hT1
        have ho2 := HO.out.trans ho1
        have HO2 := Lib.hid ho2
        clear hT1 ho1 ho2
        go_wp2_with fail
        refine HC.out.mono ?_
        rintro e w' ⟨rfl, rfl⟩
        go_wp2_with fail
        go_roundw
        case rel => exact ⟨l, j, sv, rfl, rfl, HG.out.1.symm, by rw [HG.out.2.2.2.1]; exact hjq, HG.out.2.2.2.2.1, HT1.out.2.1, HG.out.2.2.2.2.2.1, hrow1, HO2.out, by rw [HG.out.2.2.2.1]; exact q1, hsv, HG.out.2.2.2.2.2.2.1⟩
        case measure =>
          have a := cntAt_of HT1.out.2.1
          rw [HG.out.1, HG.out.2.2.2.1] at a
          have c := HG.out.2.2.2.2.2.2.2
          simp only [AV.ptr] at c
          rw [a, c.1]; exact c.2
      · obtain ⟨i, hi'⟩ : ∃ i : Nat, (j : Int) = q + 1 + i := ⟨(j - q - 1).toNat, by omega⟩
        have heq2 : sv + (y + wd) + AV.sumW (r.seq.take i) = tot := by
          rw [← heq, hws]; simp only [AV.seq]
          rw [show j = l.seq.length + (i + 1) from by omega, List.take_append, List.take_of_length_le (l := l.seq) (by omega), show l.seq.length + (i + 1) - l.seq.length = i + 1 from by omega, List.take_succ_cons, AV.sumW_append, AV.sumW]
          simp only; omega
        have hnn := sumW_take_nn g2 i
        have sb : sv + (y + wd) ≤ tot := by omega
        have hm : r.cnt.toNat < mn.toNat := by omega
        have dj : decide ((j : Int) ≤ q) = false := by simpa using hjq
        have hji : (j : Int) - (q + 1) = i := by omega
        have hic : (i : Int) ≤ r.cnt := by omega
        have hrc : r.cnt ≤ 100000 := by omega
        have HG := Lib.hid (And.intro hpl (And.intro hpr (And.intro hy (And.intro hq (And.intro g2 (And.intro nbr' (And.intro heq2 (And.intro hme (And.intro hm (And.intro hji (And.intro hic hrc)))))))))))
        have HO := Lib.hid ho
        have HIN := Lib.hid hin
        have HNB := Lib.hid nb
        clear hpl hpr hy hq g1 g2 g3 g4 g5 nbl nbr' heq heq2 hme hm hyw hws ho k1 k2 hj hcU hin nb hji hnn hi' hic hrc
        unfold AV.ptr
        go_wp2_with fail
        refine (look_any br T.ptr _ hrow).mono ?_
        rintro e v1 ⟨rfl, hrow1, ho1⟩
        have hT1 := HIN.out.only ho1 (fun z hz e => HNB.out (by rw [← e]; exact hz))
        have c0 : v1.cell? ⟨b, 0, none⟩ = some (.pointer pl) := by rw [← HG.out.1]; exact hT1.1.cell 0
        have c1 : v1.cell? ⟨b, 1, none⟩ = some (.pointer pr) := by rw [← HG.out.2.1]; exact hT1.1.cell 1
        have c3 : v1.cell? ⟨b, 3, none⟩ = some (.int .i64 wd) := hT1.1.cell 3
        have HC := Lib.hid (show Calls Try.prog 23 #[.pointer pl] v1 fun e w' => e = .returned (.int .i64 q) ∧ v1 = w' from by rw [← HG.out.1, ← HG.out.2.2.2.1]; exact count_any l v1 hT1.2.1)
        have HT1 := Lib.hid hT1
        have ho2 := HO.out.trans ho1
        have HO2 := Lib.hid ho2
        clear hT1 ho1 ho2
        go_wp2_with fail
        refine HC.out.mono ?_
        rintro e w' ⟨rfl, rfl⟩
        go_wp2_with fail
        go_quiet ((go_at_call 22; exact width_q l pl y _ HT1.out.2.1 HG.out.1 HG.out.2.2.1 _))
        go_wp2_with fail
        go_roundw
        case rel => exact ⟨r, i, sv + (y + wd), by first | rw [HG.out.2.2.2.2.2.2.2.2.2.1] | (simp only [← HG.out.2.2.2.2.2.2.2.2.2.1]), by go_num, HG.out.2.1.symm, HG.out.2.2.2.2.2.2.2.2.2.2.1, HG.out.2.2.2.2.1, HT1.out.2.2.drewN _, HG.out.2.2.2.2.2.1, hrow1, HO2.out.drewN _, HG.out.2.2.2.2.2.2.2.2.2.2.2, by omega, HG.out.2.2.2.2.2.2.1⟩
        case measure =>
          have a := cntAt_of (HT1.out.2.2.drewN nq)
          rw [HG.out.2.1] at a
          have c := HG.out.2.2.2.2.2.2.2
          simp only [AV.ptr] at c
          rw [a, c.1]; exact c.2.1

theorem sumW_mid {l : List (Int × Int)} {i : Nat} {th wd : Int} (h : l[i]? = some (th, wd)) : AV.sumW l = AV.sumW (l.take i) + wd + AV.sumW (l.drop (i + 1)) := by
  have hlt := (List.getElem?_eq_some_iff.1 h)
  have e : l = l.take i ++ (th, wd) :: l.drop (i + 1) := by
    rw [← hlt.2, ← List.drop_eq_getElem_cons hlt.1, List.take_append_drop]
  have := congrArg AV.sumW e
  rw [AV.sumW_append, AV.sumW] at this
  simp only at this
  omega

/-- What Find's loop holds. -/
def FindRel (w : World) (br : Nat) (p : Value) (k : Nat) (th wd j : Int) (wr : World) (U : AV) (i : Nat) (P a : Int) : Prop :=
  P = AV.sumW (U.seq.take i) + j ∧ a + i = k ∧ 0 ≤ a ∧ U.seq[i]? = some (th, wd) ∧ U.Con ∧ InT NODE wr U ∧ br ∉ U.blocks ∧ RowAt wr br p ∧ Only (· = br) w wr ∧ U.cnt ≤ 100000

set_option maxRecDepth 100000 in
set_option maxHeartbeats 2000000 in
theorem Find_any (B : Nat) (br : Nat) (T : AV) (k : Nat) (th wd : Int) (j : Int) (w : World) (h : RowT B w br T) (hs : T.seq[k]? = some (th, wd)) (j0 : 0 ≤ j) (j1 : j < wd) :
    Calls Try.prog 11 #[.pointer (some ⟨br, 0, none⟩), .int .i64 (AV.sumW (T.seq.take k) + j)] w fun e w' => e = .returned (.tuple #[.int .i64 k, .int .i64 j, .nilIface]) ∧ RowT B w' br T ∧ Only (· = br) w w' := by
  have hcnt := h.con.cnt
  have hsz := h.size
  have hlt := (List.getElem?_eq_some_iff.1 hs).1
  have nbr := (List.nodup_cons.1 h.nd).1
  have hwn := h.con.wid_nn
  have hmid := sumW_mid hs
  have hd := sumW_nn (T.seq.drop (k + 1)) (fun x hx => h.con.wides x (List.mem_of_mem_drop hx))
  have ht := sumW_take_nn h.con k
  have hw := h.con.wid
  obtain ⟨P0, hP⟩ : ∃ P0, AV.sumW (T.seq.take k) + j = P0 := ⟨_, rfl⟩
  obtain ⟨x, hx⟩ : ∃ x, T.wid = x := ⟨_, rfl⟩
  have HLEN := Lib.hid (show Calls Try.prog 15 #[.pointer (some ⟨br, 0, none⟩)] w fun e w' => e = .returned (.int .i64 x) ∧ w = w' from by rw [← hx]; exact wideRow_any br T w h)
  obtain ⟨kk, hk⟩ := h.row
  obtain ⟨u, hu⟩ := AV.ptr_pointer T
  have c0 : w.cell? ⟨br, 0, none⟩ = some (.pointer u) := by rw [← hu]; exact hk.cell 0
  have d0 : decide (x ≤ P0) = false := by simp; omega
  have d1 : decide (P0 < 0) = false := by simp; omega
  have wdb := (h.con.wides _ (List.mem_of_getElem? hs)).2
  simp only at wdb
  rw [hP]
  have HH := Lib.hid (And.intro h (And.intro nbr (And.intro hP (And.intro hu hs))))
  have kb : (k : Int) ≤ 100000 := by omega
  clear hcnt hlt hk hu h hx nbr hs hwn hmid hd ht hw hsz hP
  go_enter Try.func11, Try.ntmps11
  go_wp2_with fail
  refine HLEN.out.mono ?_
  rintro e w' ⟨rfl, rfl⟩
  go_wp2_with fail
  go_loopw [1, 4, 7] (fun pv av n wr => ∃ (U : AV) (i : Nat) (P a : Int), pv = .int .i64 P ∧ av = .int .i64 a ∧ n = U.ptr ∧ FindRel w br T.ptr k th wd j wr U i P a)
    (fun _ _ n wr => cntAt wr n)
  case atStart => exact ⟨T, k, P0, 0, rfl, rfl, HH.out.2.2.2.1.symm, HH.out.2.2.1.symm, by omega, by omega, HH.out.2.2.2.2, HH.out.1.con, HH.out.1.tree, HH.out.2.1, HH.out.1.row, Only.refl _ _, HH.out.1.size⟩
  case round =>
    obtain ⟨U, i, P, a, rfl, rfl, rfl, hP, ha, ha0, hs, hcon, hin, nb, hrow, ho, hcU⟩ := hrel
    cases U with
    | nil => simp [AV.seq] at hs
    | node b l th' wd' hi mn al r =>
      obtain ⟨g1, g2, g3, g4, g5, g6, g7⟩ := hcon
      have k1 := g1.cnt; have k2 := g2.cnt
      have hmn : mn ≤ 100000 := hcU
      obtain ⟨pl, hpl⟩ := AV.ptr_pointer l
      obtain ⟨pr, hpr⟩ := AV.ptr_pointer r
      obtain ⟨y, hy⟩ : ∃ y, l.wid = y := ⟨_, rfl⟩
      obtain ⟨q, hq⟩ : ∃ q, l.cnt = q := ⟨_, rfl⟩
      have nbl : br ∉ l.blocks := fun h => nb (by simp [AV.blocks, h])
      have nbr' : br ∉ r.blocks := fun h => nb (by simp [AV.blocks, h])
      have q0 : 0 ≤ q := by omega
      have q1 : q ≤ 100000 := by omega
      have hyw := g1.wid_nn
      have y0 : 0 ≤ y := by omega
      have y1 : y ≤ 100000000000 := by omega
      have hws : y = AV.sumW l.seq := by rw [← hy]; exact g1.wid
      have hme : cntAt wr (AV.node b l th' wd' hi mn al r).ptr = mn.toNat := cntAt_of hin
      have hiq : (i : Int) < q ∨ (i : Int) = q ∨ q < (i : Int) := by omega
      rcases hiq with hiq | hiq | hiq
      · have hsl : l.seq[i]? = some (th, wd) := by simp only [AV.seq] at hs; rwa [List.getElem?_append_left (by omega)] at hs
        have hPl : P = AV.sumW (l.seq.take i) + j := by rw [hP]; simp only [AV.seq]; rw [List.take_append_of_le_length (by omega)]
        have hmid := sumW_mid hsl
        have hd := sumW_nn (l.seq.drop (i + 1)) (fun x hx => g1.wides x (List.mem_of_mem_drop hx))
        have dj : decide (P < y) = true := by simp; omega
        have hm : q.toNat < mn.toNat := by omega
        have HG := Lib.hid (And.intro hpl (And.intro hpr (And.intro hy (And.intro hq (And.intro g1 (And.intro nbl (And.intro hme (And.intro hm (And.intro hsl (And.intro hPl ha))))))))))
        have HO := Lib.hid ho
        have HIN := Lib.hid hin
        have HNB := Lib.hid nb
        clear hpl hpr hy hq g1 g2 g3 g4 g5 nbl nbr' hme hm hyw hws ho k1 k2 hcU hin nb hsl hPl hmid hd hP hs ha hiq
        unfold AV.ptr
        go_wp2_with fail
        refine (look_any br T.ptr _ hrow).mono ?_
        rintro e v1 ⟨rfl, hrow1, ho1⟩
        have hT1 := HIN.out.only ho1 (fun z hz e => HNB.out (by rw [← e]; exact hz))
        have c0 : v1.cell? ⟨b, 0, none⟩ = some (.pointer pl) := by rw [← HG.out.1]; exact hT1.1.cell 0
        have HC := Lib.hid (show Calls Try.prog 22 #[.pointer pl] v1 fun e w' => e = .returned (.int .i64 y) ∧ v1 = w' from by rw [← HG.out.1, ← HG.out.2.2.1]; exact width_any l v1 hT1.2.1)
        have HT1 := Lib.hid hT1
        have ho2 := HO.out.trans ho1
        have HO2 := Lib.hid ho2
        clear hT1 ho1 ho2
        go_wp2_with fail
        refine HC.out.mono ?_
        rintro e w' ⟨rfl, rfl⟩
        go_wp2_with fail
        go_roundw
        case rel => exact ⟨l, i, P, a, rfl, rfl, HG.out.1.symm, HG.out.2.2.2.2.2.2.2.2.2.1, HG.out.2.2.2.2.2.2.2.2.2.2, ha0, HG.out.2.2.2.2.2.2.2.2.1, HG.out.2.2.2.2.1, HT1.out.2.1, HG.out.2.2.2.2.2.1, hrow1, HO2.out, by rw [HG.out.2.2.2.1]; exact q1⟩
        case measure =>
          have a := cntAt_of HT1.out.2.1
          rw [HG.out.1, HG.out.2.2.2.1] at a
          have c := HG.out.2.2.2.2.2.2
          simp only [AV.ptr] at c
          rw [a, c.1]; exact c.2.1
      · have hse : (th', wd') = (th, wd) := by
          simp only [AV.seq] at hs
          rw [List.getElem?_append_right (by omega), show i - l.seq.length = 0 from by omega, List.getElem?_cons_zero] at hs
          exact Option.some.inj hs
        injection hse with e1 e2
        subst e1; subst e2
        have hPm : P = y + j := by
          rw [hP, hws]; simp only [AV.seq]
          rw [List.take_append_of_le_length (by omega), List.take_of_length_le (by omega)]
        have dj : decide (P < y) = false := by simp; omega
        have dj2 : decide (P < y + wd') = true := by simp; omega
        have hak : a + q = k := by omega
        have hpj : P - y = j := by omega
        have pb : P ≤ 200000000000 := by omega
        have pb0 : 0 ≤ P := by omega
        have a1 : a ≤ 100000 := by omega
        have HG := Lib.hid (And.intro hpl (And.intro hpr (And.intro hy (And.intro hq (And.intro hak hpj)))))
        have HO := Lib.hid ho
        have HIN := Lib.hid hin
        have HNB := Lib.hid nb
        clear hpl hpr hy hq g1 g2 g3 g4 g5 nbl nbr' hme hyw hws ho k1 k2 hcU hin nb hP hs ha hiq hak hpj hPm
        unfold AV.ptr
        go_wp2_with fail
        refine (look_any br T.ptr _ hrow).mono ?_
        rintro e v1 ⟨rfl, hrow1, ho1⟩
        have hT1 := HIN.out.only ho1 (fun z hz e => HNB.out (by rw [← e]; exact hz))
        have c0 : v1.cell? ⟨b, 0, none⟩ = some (.pointer pl) := by rw [← HG.out.1]; exact hT1.1.cell 0
        have c3 : v1.cell? ⟨b, 3, none⟩ = some (.int .i64 wd') := hT1.1.cell 3
        have HC := Lib.hid (show Calls Try.prog 22 #[.pointer pl] v1 fun e w' => e = .returned (.int .i64 y) ∧ v1 = w' from by rw [← HG.out.1, ← HG.out.2.2.1]; exact width_any l v1 hT1.2.1)
        have HT1 := Lib.hid hT1
        have ho2 := HO.out.trans ho1
        have HO2 := Lib.hid ho2
        clear hT1 ho1 ho2
        go_wp2_with fail
        refine HC.out.mono ?_
        rintro e w' ⟨rfl, rfl⟩
        go_wp2_with fail
        refine (show Calls Try.prog 23 #[.pointer pl] _ fun e w' => e = .returned (.int .i64 q) ∧ _ = w' from by rw [← HG.out.1, ← HG.out.2.2.2.1]; exact count_any l _ HT1.out.2.1).mono ?_
        rintro e w' ⟨rfl, rfl⟩
        go_wp2_with fail
        go_ret3
        exact ⟨by simp only [← HG.out.2.2.2.2.1, ← HG.out.2.2.2.2.2]; rfl, HH.out.1.upd hrow1 HO2.out, HO2.out⟩
      · obtain ⟨i', hi'⟩ : ∃ i' : Nat, (i : Int) = q + 1 + i' := ⟨(i - q - 1).toNat, by omega⟩
        have hie : i = l.seq.length + (i' + 1) := by omega
        have hsr : r.seq[i']? = some (th, wd) := by
          simp only [AV.seq] at hs
          rwa [List.getElem?_append_right (by omega), show i - l.seq.length = i' + 1 from by omega, List.getElem?_cons_succ] at hs
        have hPr : P = y + wd' + (AV.sumW (r.seq.take i') + j) := by
          rw [hP, hws]; simp only [AV.seq]
          rw [hie, List.take_append, List.take_of_length_le (l := l.seq) (by omega), show l.seq.length + (i' + 1) - l.seq.length = i' + 1 from by omega, List.take_succ_cons, AV.sumW_append, AV.sumW]
          simp only; omega
        have hnn := sumW_take_nn g2 i'
        have dj : decide (P < y) = false := by simp; omega
        have dj2 : decide (P < y + wd') = false := by simp; omega
        have hpj : P - (y + wd') = AV.sumW (r.seq.take i') + j := by omega
        have hm : r.cnt.toNat < mn.toNat := by omega
        have pb : P ≤ 300000000000 := by omega
        have pb0 : 0 ≤ P := by omega
        have a1 : a ≤ 100000 := by omega
        have hak : a + (q + 1) + i' = k := by omega
        have hrc : r.cnt ≤ 100000 := by omega
        have HG := Lib.hid (And.intro hpl (And.intro hpr (And.intro hy (And.intro hq (And.intro hak (And.intro hpj (And.intro hsr (And.intro g2 (And.intro nbr' (And.intro hme (And.intro hm hrc)))))))))))
        have HO := Lib.hid ho
        have HIN := Lib.hid hin
        have HNB := Lib.hid nb
        clear hpl hpr hy hq g1 g2 g3 g4 g5 nbl nbr' hme hm hyw hws ho k1 k2 hcU hin nb hP hs ha hiq hak hpj hPr hsr hie hi' hnn hrc
        unfold AV.ptr
        go_wp2_with fail
        refine (look_any br T.ptr _ hrow).mono ?_
        rintro e v1 ⟨rfl, hrow1, ho1⟩
        have hT1 := HIN.out.only ho1 (fun z hz e => HNB.out (by rw [← e]; exact hz))
        have c0 : v1.cell? ⟨b, 0, none⟩ = some (.pointer pl) := by rw [← HG.out.1]; exact hT1.1.cell 0
        have c1 : v1.cell? ⟨b, 1, none⟩ = some (.pointer pr) := by rw [← HG.out.2.1]; exact hT1.1.cell 1
        have c3 : v1.cell? ⟨b, 3, none⟩ = some (.int .i64 wd') := hT1.1.cell 3
        have HC := Lib.hid (show Calls Try.prog 22 #[.pointer pl] v1 fun e w' => e = .returned (.int .i64 y) ∧ v1 = w' from by rw [← HG.out.1, ← HG.out.2.2.1]; exact width_any l v1 hT1.2.1)
        have HT1 := Lib.hid hT1
        have ho2 := HO.out.trans ho1
        have HO2 := Lib.hid ho2
        clear hT1 ho1 ho2
        go_wp2_with fail
        refine HC.out.mono ?_
        rintro e w' ⟨rfl, rfl⟩
        go_wp2_with fail
        refine (show Calls Try.prog 23 #[.pointer pl] _ fun e w' => e = .returned (.int .i64 q) ∧ _ = w' from by rw [← HG.out.1, ← HG.out.2.2.2.1]; exact count_any l _ HT1.out.2.1).mono ?_
        rintro e w' ⟨rfl, rfl⟩
        go_wp2_with fail
        go_roundw
        case rel => exact ⟨r, i', _, a + (q + 1), rfl, by go_num, HG.out.2.1.symm, HG.out.2.2.2.2.2.1, HG.out.2.2.2.2.1, by omega, HG.out.2.2.2.2.2.2.1, HG.out.2.2.2.2.2.2.2.1, HT1.out.2.2, HG.out.2.2.2.2.2.2.2.2.1, hrow1, HO2.out, HG.out.2.2.2.2.2.2.2.2.2.2.2⟩
        case measure =>
          have a := cntAt_of HT1.out.2.2
          rw [HG.out.2.1] at a
          have c := HG.out.2.2.2.2.2.2.2.2.2
          simp only [AV.ptr] at c
          rw [a, c.1]; exact c.2.1
end Go.Proofs.Ytnhmbpeicgnjaaa
