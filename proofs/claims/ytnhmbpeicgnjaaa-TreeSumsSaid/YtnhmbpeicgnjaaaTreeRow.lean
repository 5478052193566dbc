/- tree.Insert, Len, Wide, New: contracts over a row in memory. -/
import Derived.Test.YtnhmbpeicgnjaaaTreeInsert
import Derived.Deep.RegionHeld3
namespace Go.Proofs.Ytnhmbpeicgnjaaa
open Go.RowKit
set_option linter.unusedVariables false
set_option linter.unusedSimpArgs false

/-- A row in memory, all of it in blocks from B on. -/
structure RowT (B : Nat) (w : World) (br : Nat) (T : AV) : Prop where
  row : RowAt w br T.ptr
  tree : InT NODE w T
  nd : (br :: T.blocks).Nodup
  con : T.Con
  low : ∀ q ∈ br :: T.blocks, B ≤ q
  size : T.cnt ≤ 100000
theorem RowT.keep {B : Nat} {w w' : World} {br : Nat} {T : AV} (h : RowT B w br T) {S : Nat → Prop} (ho : Only S w w') (hn : ∀ q ∈ br :: T.blocks, ¬ S q) : RowT B w' br T :=
  ⟨h.row.only ho (hn br (by simp)), h.tree.only ho (fun q hq => hn q (by simp [hq])), h.nd, h.con, h.low, h.size⟩

theorem len_any {B : Nat} (br : Nat) (T : AV) (w : World) (h : RowT B w br T) : Calls Try.prog 12 #[.pointer (some ⟨br, 0, none⟩)] w fun e w' => e = .returned (.int .i64 T.cnt) ∧ w = w' := by
  obtain ⟨k, hk⟩ := h.row
  obtain ⟨u, hu⟩ := AV.ptr_pointer T
  have c0 : w.cell? ⟨br, 0, none⟩ = some (.pointer u) := by rw [← hu]; exact hk.cell 0
  have HC := Lib.hid (show Calls Try.prog 23 #[.pointer u] w fun e w' => e = .returned (.int .i64 T.cnt) ∧ w = w' from by rw [← hu]; exact count_any T w h.tree)
  clear hk hu h
  go_enter Try.func12, Try.ntmps12
  go_wp2_with fail
  refine HC.out.mono ?_
  rintro e w' ⟨rfl, rfl⟩
  go_wp2
  go_ret
  exact ⟨rfl, rfl⟩
theorem wideRow_any {B : Nat} (br : Nat) (T : AV) (w : World) (h : RowT B w br T) : Calls Try.prog 15 #[.pointer (some ⟨br, 0, none⟩)] w fun e w' => e = .returned (.int .i64 T.wid) ∧ w = w' := by
  obtain ⟨k, hk⟩ := h.row
  obtain ⟨u, hu⟩ := AV.ptr_pointer T
  have c0 : w.cell? ⟨br, 0, none⟩ = some (.pointer u) := by rw [← hu]; exact hk.cell 0
  have HC := Lib.hid (show Calls Try.prog 22 #[.pointer u] w fun e w' => e = .returned (.int .i64 T.wid) ∧ w = w' from by rw [← hu]; exact width_any T w h.tree)
  clear hk hu h
  go_enter Try.func15, Try.ntmps15
  go_wp2_with fail
  refine HC.out.mono ?_
  rintro e w' ⟨rfl, rfl⟩
  go_wp2
  go_ret
  exact ⟨rfl, rfl⟩

theorem new_any (w : World) : Calls Try.prog 9 #[] w fun e w' => e = .returned (.pointer (some ⟨w.heap.size, 0, none⟩)) ∧ RowT w.heap.size w' w.heap.size .nil ∧ Below w.heap.size w w' := by
  go_enter Try.func9, Try.ntmps9
  go_wp2
  go_ret
  refine ⟨rfl, ⟨⟨0, ?_⟩, trivial, by simp [AV.blocks], trivial, by simp [AV.blocks], by simp [AV.cnt]⟩, (Below.refl _ _).alloc (Nat.le_refl _) _⟩
  show (w.heap.push _)[w.heap.size]? = _
  simp [AV.ptr]

theorem widthOk_any (n : Int) (w : World) : Calls Try.prog 18 #[.int .i64 n] w fun e w' => e = .returned (.bool (decide (0 ≤ n) && decide (n ≤ 1000000))) ∧ w = w' := by
  by_cases h1 : 0 ≤ n
  · go_enter Try.func18, Try.ntmps18
    go_wp2
    go_ret
    exact ⟨by simp [h1], rfl⟩
  · have h2 : n < 0 := by omega
    go_enter Try.func18, Try.ntmps18
    go_wp2
    go_ret
    exact ⟨by rw [decide_eq_false (by omega : ¬ 0 ≤ n)]; rfl, rfl⟩

/-- What Insert gives. -/
def InsPost (B : Nat) (w : World) (br : Nat) (T : AV) (at_ th wd : Int) (e : Ending) (w' : World) : Prop :=
  Below B w w' ∧ w.heap.size ≤ w'.heap.size ∧
  ((¬ (0 ≤ wd ∧ wd ≤ 1000000) ∧ e = .returned (.iface 48 (.int .i64 1))) ∨
   ((0 ≤ wd ∧ wd ≤ 1000000) ∧ e = .returned .nilIface ∧ ∃ T', RowT B w' br T' ∧ T'.seq = AV.insL T.seq at_.toNat (th, wd)))

set_option maxRecDepth 100000 in
set_option maxHeartbeats 2000000 in
theorem Insert_any (B : Nat) (br : Nat) (T : AV) (at_ th wd : Int) (w : World) (h : RowT B w br T) (hB : B ≤ w.heap.size) (h0 : 0 ≤ at_) (h1 : at_ ≤ T.cnt) (h2 : T.cnt < 1000) :
    Calls Try.prog 10 #[.pointer (some ⟨br, 0, none⟩), .int .i64 at_, .int .i64 th, .int .i64 wd] w (InsPost B w br T at_ th wd) := by
  have hc := h.con.cnt
  obtain ⟨n, hn⟩ : ∃ n, T.cnt = n := ⟨_, rfl⟩
  have HLEN := Lib.hid (fun (w' : World) (hw : RowT B w' br T) => by have := len_any br T w' hw; rw [hn] at this; exact this : ∀ w', RowT B w' br T → Calls Try.prog 12 #[.pointer (some ⟨br, 0, none⟩)] w' fun e w'' => e = .returned (.int .i64 n) ∧ w' = w'')
  rw [hn] at h1 h2 hc
  have d0 : decide (at_ < 0) = false := by simpa using h0
  have d1 : decide (n < at_) = false := by simpa using h1
  have d2 : decide (100000 ≤ n) = false := by simp; omega
  have n0 : 0 ≤ n := by omega
  have HN := Lib.hid hn; clear hn hc
  cases hw : (decide (0 ≤ wd) && decide (wd ≤ 1000000)) with
  | false =>
    go_enter Try.func10, Try.ntmps10
    go_wp2_with fail
    refine (HLEN.out _ h).mono ?_
    rintro e w' ⟨rfl, rfl⟩
    go_wp2_with fail
    refine (widthOk_any wd _).mono ?_
    rintro e w' ⟨rfl, rfl⟩
    rw [hw]
    go_wp2_with fail
    go_ret
    refine ⟨Below.refl _ _, Nat.le_refl _, .inl ⟨?_, rfl⟩⟩
    rintro ⟨g1, g2⟩
    rw [decide_eq_true g1, decide_eq_true g2] at hw
    exact absurd hw (by decide)
  | true =>
    have hww : 0 ≤ wd ∧ wd ≤ 1000000 := by simpa using hw
    obtain ⟨ww0, ww1⟩ := hww
    obtain ⟨krow, hrow⟩ := h.row
    obtain ⟨u, hu⟩ := AV.ptr_pointer T
    have c0 : w.cell? ⟨br, 0, none⟩ = some (.pointer u) := by rw [← hu]; exact hrow.cell 0
    have HU := Lib.hid hu
    have HW := Lib.hid h
    clear hu hrow
    go_enter Try.func10, Try.ntmps10
    go_wp2_with fail
    refine (HLEN.out _ h).mono ?_
    rintro e w' ⟨rfl, rfl⟩
    go_wp2_with fail
    refine (widthOk_any wd _).mono ?_
    rintro e w' ⟨rfl, rfl⟩
    rw [hw]
    go_wp2_with fail
    refine (HLEN.out _ h).mono ?_
    rintro e w' ⟨rfl, rfl⟩
    clear h
    go_wp2_with fail
    refine wp_at (fun v1 => Blk v1 w.heap.size NODE #[.pointer none, .pointer none, .int .i64 th, .int .i64 wd, .int .i64 0, .int .i64 0, .int .i64 0] ∧ RowT B v1 br T ∧ v1.cell? ⟨br, 0, none⟩ = some (.pointer u) ∧ Below B w v1) ?_ ?_
    · refine ⟨by show (w.heap.push _)[w.heap.size]? = _; simp, HW.out.keep (S := fun _ => False) ((Only.refl _ w).alloc _) (fun _ _ h => h), ?_, (Below.refl _ _).alloc hB _⟩
      have := HW.out.row
      obtain ⟨k, hk⟩ := this
      have hk2 := hk.only ((Only.refl (fun _ => False) w).alloc (.cells #[.pointer none, .pointer none, .int .i64 th, .int .i64 wd, .int .i64 0, .int .i64 0, .int .i64 0] 55)) (fun h => h)
      rw [← HU.out]; exact hk2.cell 0
    rintro v1 ⟨hx1, hr1, hc1, hb1⟩
    clear c0
    have HX := Lib.hid (And.intro hx1 (And.intro hr1 hb1))
    clear hx1 hr1 hb1
    have HQ := Lib.hid (show ∀ q ∈ br :: T.blocks, q ≠ w.heap.size from by
      intro q hq
      rcases List.mem_cons.1 hq with rfl | hq
      · obtain ⟨k, hk⟩ := HW.out.row; exact Nat.ne_of_lt hk.lt
      · exact Nat.ne_of_lt (HW.out.tree.lt q hq))
    obtain ⟨pu, hpu⟩ := AV.ptr_pointer (T.insV at_ (AV.fixV w.heap.size .nil th wd .nil))
    have HPU := Lib.hid hpu; clear hpu
    have HI := Lib.hid (fun v2 (a1 : RowAt v2 br T.ptr) (a2 : InT NODE v2 T) (a3 : InT NODE v2 (AV.fixV w.heap.size .nil th wd .nil)) =>
      insert_any br T.ptr (AV.fixV w.heap.size .nil th wd .nil) (some ⟨w.heap.size, 0, none⟩) rfl (AV.fixV_con trivial trivial ww0 ww1) (th, wd) rfl T at_ u v2 HU.out a1 a2 a3
        (by
          have nd := HW.out.nd
          have hq := HQ.out
          simp only [AV.fixV, AV.blocks, List.nil_append, List.cons_append, List.nodup_cons, List.mem_cons] at nd hq ⊢
          refine ⟨fun h => ?_, fun h => hq _ (.inr h) rfl, nd.2⟩
          rcases h with h | h
          · exact hq br (.inl rfl) h
          · exact nd.1 h) HW.out.con h0 (by rw [HN.out]; exact h1) (by rw [HN.out]; omega))
    go_region_with ((first
      | (go_at_call 20; refine (fix_any w.heap.size .nil .nil th wd 0 0 0 _ (by exact HX.out.1) trivial trivial (by simp [AV.blocks]) (by simp [AV.blocks]) ⟨by decide, by decide, by decide, by decide, by decide, by decide⟩ ⟨by decide, by decide, by decide, by decide, by decide, by decide⟩ ww0 ww1).mono ?_; rintro e v2 ⟨rfl, hx2, ho2'⟩; have ho2 := Only.of_drew ho2'; have hr2 := HX.out.2.1.keep ho2 HQ.out; have hb2 := HX.out.2.2.trans (ho2.below (by have := HX.out.2.2.size; omega) (fun k hk e => by omega)); obtain ⟨kk2, hk2⟩ := hr2.row; have hc2 : v2.cell? ⟨br, 0, none⟩ = some (.pointer u) := (by rw [← HU.out]; exact hk2.cell 0); have HY := Lib.hid (And.intro hx2 (And.intro hr2 hb2)); clear hx2 ho2' ho2 hr2 hb2 hk2)
      | (go_at_call 19; refine (HI.out _ HY.out.2.1.row HY.out.2.1.tree HY.out.1).mono ?_; rintro e v3 ⟨rfl, hI3, hrow3, ho3⟩; rw [HPU.out]; obtain ⟨kk3, hk3⟩ := hrow3; have z3 := hk3.frozen 0; have hc3 : v3.cell? ⟨br, 0, none⟩ = some (.pointer u) := (by rw [← HU.out]; exact hk3.cell 0))))
    all_goals
      go_wp2_with fail
      go_ret
      have like := AV.insV_like HW.out.con (AV.fixV_con (b := w.heap.size) (th := th) (l := .nil) (r := .nil) trivial trivial ww0 ww1) (p := (th, wd)) rfl at_ h0 (by rw [HN.out]; exact h1)
      have mem : ∀ q, q ∈ (T.insV at_ (AV.fixV w.heap.size .nil th wd .nil)).blocks ↔ q ∈ w.heap.size :: T.blocks := fun q => (AV.perm_of like.2.2).mem_iff
      have lowS : ∀ q, q ∈ br :: ((AV.fixV w.heap.size .nil th wd .nil).blocks ++ T.blocks) → B ≤ q := by
        intro q hq
        simp only [AV.fixV, AV.blocks, List.nil_append, List.cons_append, List.mem_cons] at hq
        rcases hq with rfl | rfl | hq
        · exact HW.out.low q (by simp)
        · exact hB
        · exact HW.out.low q (by simp [hq])
      have nbr : br ∉ (T.insV at_ (AV.fixV w.heap.size .nil th wd .nil)).blocks := fun h => by
        rcases List.mem_cons.1 ((mem br).1 h) with h | h
        · exact HQ.out br (by simp) h
        · exact (List.nodup_cons.1 HW.out.nd).1 h
      have o4 := (Only.refl (· = br) v3).setCell (p := ⟨br, 0, none⟩) rfl (.pointer pu)
      have hbr : B ≤ br := HW.out.low br (by simp)
      have sz2 := HY.out.2.2.size
      have sz3 := ho3.size
      have sz4 := o4.size
      refine ⟨(HY.out.2.2.trans (ho3.below (by omega) (fun k hk e => by have := lowS k e; omega))).trans (o4.below (by omega) (fun k hk e => by omega)), by omega, .inr ⟨⟨ww0, ww1⟩, rfl, T.insV at_ (AV.fixV w.heap.size .nil th wd .nil), ⟨⟨kk3, ?_⟩, ?_, ?_, like.1, ?_, ?_⟩, like.2.1⟩⟩
      · rw [HPU.out]; exact hk3.set_ 0 _
      · exact hI3.only o4 (fun q hq e => nbr (by rw [← e]; exact hq))
      · refine List.nodup_cons.2 ⟨nbr, ?_⟩
        refine (AV.perm_of like.2.2).nodup_iff.2 ?_
        refine List.nodup_cons.2 ⟨fun h => HQ.out _ (List.mem_cons_of_mem _ h) rfl, (List.nodup_cons.1 HW.out.nd).2⟩
      · intro q hq
        rcases List.mem_cons.1 hq with rfl | hq
        · exact hbr
        · rcases List.mem_cons.1 ((mem q).1 hq) with rfl | hq
          · exact hB
          · exact HW.out.low q (by simp [hq])
      · have a := like.1.cnt; have c := HW.out.con.cnt; have d := HN.out
        rw [like.2.1] at a
        simp only [AV.insL, List.length_append, List.length_take, List.length_cons, List.length_drop] at a
        omega
end Go.Proofs.Ytnhmbpeicgnjaaa
