/- commonbookbig: Mul, Add, Lsh, Set at numbers that are none below nought: contracts. -/
import Derived.Test.YtfnigdbnkdofiaaDoorNumDiv
import Derived.Deep.RegionHeld3
namespace Go.Proofs.YtfnigdbnkdofiaaDoor
open Go.RowKit
set_option linter.unusedVariables false
set_option linter.unusedSimpArgs false

/-- Block g holds the number x, none below nought. -/
def IsN (w : World) (g : Nat) (x : Nat) : Prop := ∃ A n c, Blk w g 69 #[.bool false, .slice A n c] ∧ NW w (.slice A n c) x
/-- Block z holds some number. -/
def IsZ (w : World) (z : Nat) : Prop := ∃ p B m k, Blk w z 69 #[.bool p, .slice B m k]
theorem IsN.z {w : World} {g x : Nat} (h : IsN w g x) : IsZ w g := by
  obtain ⟨A, n, c, h1, _⟩ := h
  exact ⟨_, _, _, _, h1⟩
theorem IsZ.below {w w' : World} {z : Nat} (h : IsZ w z) (hb : Below w.heap.size w w') : IsZ w' z := by
  obtain ⟨p, B, m, k, h⟩ := h
  exact ⟨p, B, m, k, h.below hb h.lt⟩
theorem IsZ.new (w : World) : IsZ (w.alloc (.cells #[.bool false, .slice none 0 0] 69)) w.heap.size := ⟨_, _, _, _, Blk.new w _ _⟩
theorem IsN.of {w : World} {g : Nat} {n : Nat} (h : IsI w g (n : Int)) : IsN w g n := by
  obtain ⟨neg, v, m, h1, h2, h3, h4⟩ := h
  obtain ⟨A, c, l, rfl, h5⟩ := h2
  cases neg with
  | false =>
    have : m = n := by have := h3; simp at this; omega
    subst this
    exact ⟨A, l.length, c, h1, A, c, l, rfl, h5⟩
  | true =>
    exfalso
    have := h4 rfl
    simp at h3
    omega
theorem IsN.lt {w : World} {g x : Nat} (h : IsN w g x) : g < w.heap.size := by
  obtain ⟨_, _, _, hb, _⟩ := h
  exact hb.lt
theorem IsN.below {w w' : World} {g x : Nat} (h : IsN w g x) (hb : Below w.heap.size w w') : IsN w' g x := by
  obtain ⟨A, n, c, h1, h2⟩ := h
  exact ⟨A, n, c, h1.below hb h1.lt, h2.below hb⟩
/-- Another number's block has turned. -/
theorem IsN.only {w w' : World} {g z x : Nat} (h : IsN w g x) (hz : IsZ w z) (ho : Only (fun k => k = z) w w') (hn : g ≠ z) : IsN w' g x := by
  obtain ⟨A, n, c, h1, h2⟩ := h
  obtain ⟨p, B, m, k, hz⟩ := hz
  exact ⟨A, n, c, h1.only ho (fun e => hn e), h2.other hz ho⟩
/-- What an operation gives: the number at z; nothing else has turned. -/
def OpQ (w : World) (z x : Nat) (e : Ending) (w' : World) : Prop := e = .returned (.pointer (some ⟨z, 0, none⟩)) ∧ IsN w' z x ∧ Only (fun k => k = z) w w'
def GivQ (w : World) (z x : Nat) (e : Ending) (w' : World) : Prop := e = .returned (.pointer (some ⟨z, 0, none⟩)) ∧ IsN w' z x ∧ Only (fun k => k = z) w w'
/-- give, at a number that is none below nought. -/
theorem give_pos (z : Nat) (v : Value) (x : Nat) (w : World) (h : IsZ w z) (hv : NW w v x) :
    Calls Tryd.prog 49 #[.pointer (some ⟨z, 0, none⟩), .bool false, v] w (GivQ w z x) := by
  obtain ⟨p, B, m, k, h⟩ := h
  obtain ⟨A, c, l, rfl, h5⟩ := hv
  refine (give_any z _ _ false A l.length c w h).mono ?_
  rintro e w' ⟨rfl, hb', ho⟩
  exact ⟨rfl, ⟨A, l.length, c, by simpa using hb', NW.other ⟨A, c, l, rfl, h5⟩ h ho⟩, ho⟩

theorem after_give {w1 w2 : World} {z g x : Nat} {A : Option Addr} {n c : Nat} (hN : IsN w2 z x) (hO : Only (fun k => k = z) w1 w2) (hb : Blk w1 g 69 #[.bool false, .slice A n c]) :
    w2.cell? ⟨g, 0, none⟩ = some (.bool false) := by
  by_cases h : g = z
  · subst h
    obtain ⟨A', n', c', hb', _⟩ := hN
    exact hb'.cell 0
  · exact (hb.only hO (fun e => h e)).cell 0

set_option maxRecDepth 100000 in
set_option maxHeartbeats 2000000 in
theorem mulop (z gx gy x y : Nat) (w : World) (hz : IsZ w z) (hx : IsN w gx x) (hy : IsN w gy y) (hx2 : x < 4294967296 ^ 8) (hy2 : y < 4294967296 ^ 8) :
    Calls Tryd.prog 27 #[.pointer (some ⟨z, 0, none⟩), .pointer (some ⟨gx, 0, none⟩), .pointer (some ⟨gy, 0, none⟩)] w (OpQ w z (x * y)) := by
  obtain ⟨Ax, nx, cx, bx, vx⟩ := hx
  obtain ⟨Ay, ny, cy, byy, vy⟩ := hy
  have x0 : w.cell? ⟨gx, 0, none⟩ = some (.bool false) := bx.cell 0
  have x1 : w.cell? ⟨gx, 1, none⟩ = some (.slice Ax nx cx) := bx.cell 1
  have y0 : w.cell? ⟨gy, 0, none⟩ = some (.bool false) := byy.cell 0
  have y1 : w.cell? ⟨gy, 1, none⟩ = some (.slice Ay ny cy) := byy.cell 1
  have HM := Lib.hid (mul_any _ _ x y w.drew (vx.below (Below.refl _ _).drew) (vy.below (Below.refl _ _).drew) hx2 hy2)
  have HZ := Lib.hid (And.intro hz (And.intro bx byy))
  clear hz bx byy vx vy hx2 hy2
  go_enter Tryd.func27, Tryd.ntmps27
  go_wp2_with fail
  refine wp_region_held_drew (S := fun w' => w'.cell? ⟨gx, 0, none⟩ = some (.bool false) ∧ w'.cell? ⟨gy, 0, none⟩ = some (.bool false)) (by kernel_rfl) (by first | (with_reducible exact ⟨x0, y0⟩) | go_keep) (fun hHeld => ?_)
  refine wpAnyH_take (i := 0) (oi := _) (v := .pointer (some ⟨z, 0, none⟩)) rfl (by kernel_rfl) (by kernel_rfl) (by kernel_rfl) (fun _ _ _ h => h) (Or.inl ⟨by rfl, fun w' hSw => by ((try dsimp only at hSw); go_simp)⟩) hHeld ?_
  (try simp only [Act.put, List.setIfInBounds_toArray, List.set_cons_zero, List.set_cons_succ])
  refine wpAnyH_take (i := 1) (oi := _) (v := .pointer (some ⟨gx, 0, none⟩)) rfl (by kernel_rfl) (by kernel_rfl) (by kernel_rfl) (fun _ _ _ h => h) (Or.inl ⟨by rfl, fun w' hSw => by ((try dsimp only at hSw); go_simp)⟩) hHeld ?_
  (try simp only [Act.put, List.setIfInBounds_toArray, List.set_cons_zero, List.set_cons_succ])
  refine wpAnyH_take (i := 2) (oi := _) (v := .pointer (some ⟨gx, 0, none⟩)) rfl (by kernel_rfl) (by kernel_rfl) (by kernel_rfl) (fun _ _ _ h => h) (Or.inl ⟨by rfl, fun w' hSw => by ((try dsimp only at hSw); go_simp)⟩) hHeld ?_
  (try simp only [Act.put, List.setIfInBounds_toArray, List.set_cons_zero, List.set_cons_succ])
  refine wpAnyH_take (i := 3) (oi := _) (v := .pointer (some ⟨gx, 0, none⟩)) rfl (by kernel_rfl) (by kernel_rfl) (by kernel_rfl) (fun _ _ _ h => h) (Or.inl ⟨by rfl, fun w' hSw => by ((try dsimp only at hSw); go_simp)⟩) hHeld ?_
  (try simp only [Act.put, List.setIfInBounds_toArray, List.set_cons_zero, List.set_cons_succ])
  refine wpAnyH_take (i := 4) (oi := _) (v := .bool false) rfl (by kernel_rfl) (by kernel_rfl) (by kernel_rfl) (fun _ _ _ h => h) (Or.inl ⟨by rfl, fun w' hSw => by ((try dsimp only at hSw); go_simp)⟩) hHeld ?_
  (try simp only [Act.put, List.setIfInBounds_toArray, List.set_cons_zero, List.set_cons_succ])
  refine wpAnyH_take (i := 5) (oi := _) (v := .pointer (some ⟨gy, 0, none⟩)) rfl (by kernel_rfl) (by kernel_rfl) (by kernel_rfl) (fun _ _ _ h => h) (Or.inl ⟨by rfl, fun w' hSw => by ((try dsimp only at hSw); go_simp)⟩) hHeld ?_
  (try simp only [Act.put, List.setIfInBounds_toArray, List.set_cons_zero, List.set_cons_succ])
  refine wpAnyH_take (i := 6) (oi := _) (v := .pointer (some ⟨gy, 0, none⟩)) rfl (by kernel_rfl) (by kernel_rfl) (by kernel_rfl) (fun _ _ _ h => h) (Or.inl ⟨by rfl, fun w' hSw => by ((try dsimp only at hSw); go_simp)⟩) hHeld ?_
  (try simp only [Act.put, List.setIfInBounds_toArray, List.set_cons_zero, List.set_cons_succ])
  refine wpAnyH_take (i := 7) (oi := _) (v := .pointer (some ⟨gy, 0, none⟩)) rfl (by kernel_rfl) (by kernel_rfl) (by kernel_rfl) (fun _ _ _ h => h) (Or.inl ⟨by rfl, fun w' hSw => by ((try dsimp only at hSw); go_simp)⟩) hHeld ?_
  (try simp only [Act.put, List.setIfInBounds_toArray, List.set_cons_zero, List.set_cons_succ])
  refine wpAnyH_take (i := 8) (oi := _) (v := .bool false) rfl (by kernel_rfl) (by kernel_rfl) (by kernel_rfl) (fun _ _ _ h => h) (Or.inl ⟨by rfl, fun w' hSw => by ((try dsimp only at hSw); go_simp)⟩) hHeld ?_
  (try simp only [Act.put, List.setIfInBounds_toArray, List.set_cons_zero, List.set_cons_succ])
  refine wpAnyH_take (i := 9) (oi := _) (v := .bool false) rfl (by kernel_rfl) (by kernel_rfl) (by kernel_rfl) (fun _ _ _ h => h) (Or.inl ⟨by rfl, fun w' hSw => by ((try dsimp only at hSw); go_simp)⟩) hHeld ?_
  (try simp only [Act.put, List.setIfInBounds_toArray, List.set_cons_zero, List.set_cons_succ])
  refine wpAnyH_take (i := 10) (oi := _) (v := .pointer (some ⟨gx, 0, none⟩)) rfl (by kernel_rfl) (by kernel_rfl) (by kernel_rfl) (fun _ _ _ h => h) (Or.inl ⟨by rfl, fun w' hSw => by ((try dsimp only at hSw); go_simp)⟩) hHeld ?_
  (try simp only [Act.put, List.setIfInBounds_toArray, List.set_cons_zero, List.set_cons_succ])
  refine wpAnyH_take (i := 11) (oi := _) (v := .pointer (some ⟨gx, 0, none⟩)) rfl (by kernel_rfl) (by kernel_rfl) (by kernel_rfl) (fun _ _ _ h => h) (Or.inl ⟨by rfl, fun w' hSw => by ((try dsimp only at hSw); go_simp)⟩) hHeld ?_
  (try simp only [Act.put, List.setIfInBounds_toArray, List.set_cons_zero, List.set_cons_succ])
  refine wpAnyH_take (i := 12) (oi := _) (v := .pointer (some ⟨gx, 1, none⟩)) rfl (by kernel_rfl) (by kernel_rfl) (by kernel_rfl) (fun _ _ _ h => h) (Or.inl ⟨by rfl, fun w' hSw => by ((try dsimp only at hSw); go_simp)⟩) hHeld ?_
  (try simp only [Act.put, List.setIfInBounds_toArray, List.set_cons_zero, List.set_cons_succ])
  refine wpAnyH_take (i := 14) (oi := _) (v := .pointer (some ⟨gy, 0, none⟩)) rfl (by kernel_rfl) (by kernel_rfl) (by kernel_rfl) (fun _ _ _ h => h) (Or.inl ⟨by rfl, fun w' hSw => by ((try dsimp only at hSw); go_simp)⟩) hHeld ?_
  (try simp only [Act.put, List.setIfInBounds_toArray, List.set_cons_zero, List.set_cons_succ])
  refine wpAnyH_take (i := 15) (oi := _) (v := .pointer (some ⟨gy, 0, none⟩)) rfl (by kernel_rfl) (by kernel_rfl) (by kernel_rfl) (fun _ _ _ h => h) (Or.inl ⟨by rfl, fun w' hSw => by ((try dsimp only at hSw); go_simp)⟩) hHeld ?_
  (try simp only [Act.put, List.setIfInBounds_toArray, List.set_cons_zero, List.set_cons_succ])
  refine wpAnyH_take (i := 16) (oi := _) (v := .pointer (some ⟨gy, 1, none⟩)) rfl (by kernel_rfl) (by kernel_rfl) (by kernel_rfl) (fun _ _ _ h => h) (Or.inl ⟨by rfl, fun w' hSw => by ((try dsimp only at hSw); go_simp)⟩) hHeld ?_
  (try simp only [Act.put, List.setIfInBounds_toArray, List.set_cons_zero, List.set_cons_succ])
  refine wpAnyH_ready (rs := [13, 17]) (by kernel_rfl) (by simp) ?_
  refine AllReadyH.cons (i := 13) (o := _) rfl (fun K hK => ?_) ?_
  · go_simp
    refine hK.out _ _ (by (first | (with_reducible exact ⟨x0, y0⟩) | go_keep)) (fun hHeld => ?_)
    clear hK K
    (try simp only [Act.put, List.setIfInBounds_toArray, List.set_cons_zero, List.set_cons_succ])
    refine wpAnyH_ready (rs := [17]) (by kernel_rfl) (by simp) ?_
    refine AllReadyH.cons (i := 17) (o := _) rfl (fun K hK => ?_) ?_
    · go_simp
      refine hK.out _ _ (by (first | (with_reducible exact ⟨x0, y0⟩) | go_keep)) (fun hHeld => ?_)
      clear hK K
      (try simp only [Act.put, List.setIfInBounds_toArray, List.set_cons_zero, List.set_cons_succ])
      refine wpAnyH_ready (rs := [18]) (by kernel_rfl) (by simp) ?_
      refine AllReadyH.cons (i := 18) (o := _) rfl (fun K hK => ?_) ?_
      · go_simp
        with_reducible refine HM.out.mono ?_
        rintro e W1 ⟨v1, rfl, hn1, hb1⟩
        have hbw : Below w.heap.size w W1 := (Below.refl w.heap.size w).drew.trans hb1
        have HQQ := Lib.hid (And.intro (cell_below hbw x0) (cell_below hbw y0))
        have HG := Lib.hid (And.intro (give_pos z v1 (x * y) W1 (HZ.out.1.below hbw) hn1) (And.intro (HZ.out.2.1.below hbw HZ.out.2.1.lt) (HZ.out.2.2.below hbw HZ.out.2.2.lt)))
        have HBW := Lib.hid hbw
        clear hn1 hb1 hbw
        try go_simp
        refine hK.out _ _ (by (with_reducible exact HQQ.out)) (fun hHeld => ?_)
        clear hK K
        (try simp only [Act.put, List.setIfInBounds_toArray, List.set_cons_zero, List.set_cons_succ])
        refine wpAnyH_ready (rs := [19]) (by kernel_rfl) (by simp) ?_
        refine AllReadyH.cons (i := 19) (o := _) rfl (fun K hK => ?_) ?_
        · go_simp
          with_reducible refine HG.out.1.mono ?_
          rintro e W2 ⟨rfl, hN, hO⟩
          have HSS := Lib.hid (And.intro (after_give hN hO HG.out.2.1) (after_give hN hO HG.out.2.2))
          have HE := Lib.hid (And.intro hN hO)
          clear hN hO
          try go_simp
          refine hK.out _ _ (by (with_reducible exact HSS.out)) (fun hHeld => ?_)
          clear hK K
          (try simp only [Act.put, List.setIfInBounds_toArray, List.set_cons_zero, List.set_cons_succ])
          refine wpAnyH_ready (rs := [20]) (by kernel_rfl) (by simp) ?_
          refine AllReadyH.cons (i := 20) (o := _) rfl (fun K hK => ?_) ?_
          · go_simp
            refine hK.out _ _ (by (with_reducible exact HSS.out)) (fun hHeld => ?_)
            clear hK K
            (try simp only [Act.put, List.setIfInBounds_toArray, List.set_cons_zero, List.set_cons_succ])
            refine wpAnyH_done (by kernel_rfl) ?_ _
            go_wp2_with fail
            go_ret
            exact ⟨rfl, HE.out.1, (Only.of_below HBW.out).trans HE.out.2⟩
          exact AllReadyH.nil
        exact AllReadyH.nil
      exact AllReadyH.nil
    exact AllReadyH.nil
  refine AllReadyH.cons (i := 17) (o := _) rfl (fun K hK => ?_) ?_
  · go_simp
    refine hK.out _ _ (by (first | (with_reducible exact ⟨x0, y0⟩) | go_keep)) (fun hHeld => ?_)
    clear hK K
    (try simp only [Act.put, List.setIfInBounds_toArray, List.set_cons_zero, List.set_cons_succ])
    refine wpAnyH_ready (rs := [13]) (by kernel_rfl) (by simp) ?_
    refine AllReadyH.cons (i := 13) (o := _) rfl (fun K hK => ?_) ?_
    · go_simp
      refine hK.out _ _ (by (first | (with_reducible exact ⟨x0, y0⟩) | go_keep)) (fun hHeld => ?_)
      clear hK K
      (try simp only [Act.put, List.setIfInBounds_toArray, List.set_cons_zero, List.set_cons_succ])
      refine wpAnyH_ready (rs := [18]) (by kernel_rfl) (by simp) ?_
      refine AllReadyH.cons (i := 18) (o := _) rfl (fun K hK => ?_) ?_
      · go_simp
        with_reducible refine HM.out.mono ?_
        rintro e W1 ⟨v1, rfl, hn1, hb1⟩
        have hbw : Below w.heap.size w W1 := (Below.refl w.heap.size w).drew.trans hb1
        have HQQ := Lib.hid (And.intro (cell_below hbw x0) (cell_below hbw y0))
        have HG := Lib.hid (And.intro (give_pos z v1 (x * y) W1 (HZ.out.1.below hbw) hn1) (And.intro (HZ.out.2.1.below hbw HZ.out.2.1.lt) (HZ.out.2.2.below hbw HZ.out.2.2.lt)))
        have HBW := Lib.hid hbw
        clear hn1 hb1 hbw
        try go_simp
        refine hK.out _ _ (by (with_reducible exact HQQ.out)) (fun hHeld => ?_)
        clear hK K
        (try simp only [Act.put, List.setIfInBounds_toArray, List.set_cons_zero, List.set_cons_succ])
        refine wpAnyH_ready (rs := [19]) (by kernel_rfl) (by simp) ?_
        refine AllReadyH.cons (i := 19) (o := _) rfl (fun K hK => ?_) ?_
        · go_simp
          with_reducible refine HG.out.1.mono ?_
          rintro e W2 ⟨rfl, hN, hO⟩
          have HSS := Lib.hid (And.intro (after_give hN hO HG.out.2.1) (after_give hN hO HG.out.2.2))
          have HE := Lib.hid (And.intro hN hO)
          clear hN hO
          try go_simp
          refine hK.out _ _ (by (with_reducible exact HSS.out)) (fun hHeld => ?_)
          clear hK K
          (try simp only [Act.put, List.setIfInBounds_toArray, List.set_cons_zero, List.set_cons_succ])
          refine wpAnyH_ready (rs := [20]) (by kernel_rfl) (by simp) ?_
          refine AllReadyH.cons (i := 20) (o := _) rfl (fun K hK => ?_) ?_
          · go_simp
            refine hK.out _ _ (by (with_reducible exact HSS.out)) (fun hHeld => ?_)
            clear hK K
            (try simp only [Act.put, List.setIfInBounds_toArray, List.set_cons_zero, List.set_cons_succ])
            refine wpAnyH_done (by kernel_rfl) ?_ _
            go_wp2_with fail
            go_ret
            exact ⟨rfl, HE.out.1, (Only.of_below HBW.out).trans HE.out.2⟩
          exact AllReadyH.nil
        exact AllReadyH.nil
      exact AllReadyH.nil
    exact AllReadyH.nil
  exact AllReadyH.nil
set_option maxRecDepth 100000 in
set_option maxHeartbeats 2000000 in
theorem sum_pos (v1 v2 : Value) (x y : Nat) (w : World) (h1 : NW w v1 x) (h2 : NW w v2 y) (hx2 : x < 4294967296 ^ 8) (hy2 : y < 4294967296 ^ 8) :
    Calls Tryd.prog 53 #[.bool false, v1, .bool false, v2] w fun e w' => ∃ v', e = .returned (.tuple #[.bool false, v']) ∧ NW w' v' (x + y) ∧ Below w.heap.size w w' := by
  have HA := Lib.hid (add_any v1 v2 x y w h1 h2 hx2 hy2)
  clear h1 h2 hx2 hy2
  go_enter Tryd.func53, Tryd.ntmps53
  go_wp2_with (first
    | (go_at_call 55
       (with_reducible refine HA.out.mono ?_)
       rintro e W1 ⟨v1', rfl, hn1, hb1⟩
       have HN := Lib.hid (And.intro hn1 hb1)
       clear hn1 hb1))
  go_ret2
  exact ⟨_, rfl, HN.out.1, HN.out.2⟩
set_option maxRecDepth 100000 in
set_option maxHeartbeats 2000000 in
theorem addop (z gx gy x y : Nat) (w : World) (hz : IsZ w z) (hx : IsN w gx x) (hy : IsN w gy y) (hx2 : x < 4294967296 ^ 8) (hy2 : y < 4294967296 ^ 8) :
    Calls Tryd.prog 28 #[.pointer (some ⟨z, 0, none⟩), .pointer (some ⟨gx, 0, none⟩), .pointer (some ⟨gy, 0, none⟩)] w (OpQ w z (x + y)) := by
  obtain ⟨Ax, nx, cx, bx, vx⟩ := hx
  obtain ⟨Ay, ny, cy, byy, vy⟩ := hy
  have x0 : w.cell? ⟨gx, 0, none⟩ = some (.bool false) := bx.cell 0
  have x1 : w.cell? ⟨gx, 1, none⟩ = some (.slice Ax nx cx) := bx.cell 1
  have y0 : w.cell? ⟨gy, 0, none⟩ = some (.bool false) := byy.cell 0
  have y1 : w.cell? ⟨gy, 1, none⟩ = some (.slice Ay ny cy) := byy.cell 1
  have HM := Lib.hid (sum_pos _ _ x y w.drew (vx.below (Below.refl _ _).drew) (vy.below (Below.refl _ _).drew) hx2 hy2)
  have HZ := Lib.hid (And.intro hz (And.intro bx byy))
  clear hz bx byy vx vy hx2 hy2
  go_enter Tryd.func28, Tryd.ntmps28
  go_wp2_with fail
  refine wp_region_held_drew (S := fun w' => w'.cell? ⟨gx, 0, none⟩ = some (.bool false) ∧ w'.cell? ⟨gy, 0, none⟩ = some (.bool false)) (by kernel_rfl) (by first | (with_reducible exact ⟨x0, y0⟩) | go_keep) (fun hHeld => ?_)
  refine wpAnyH_take (i := 0) (oi := _) (v := .pointer (some ⟨z, 0, none⟩)) rfl (by kernel_rfl) (by kernel_rfl) (by kernel_rfl) (fun _ _ _ h => h) (Or.inl ⟨by rfl, fun w' hSw => by ((try dsimp only at hSw); go_simp)⟩) hHeld ?_
  (try simp only [Act.put, List.setIfInBounds_toArray, List.set_cons_zero, List.set_cons_succ])
  refine wpAnyH_take (i := 1) (oi := _) (v := .pointer (some ⟨gx, 0, none⟩)) rfl (by kernel_rfl) (by kernel_rfl) (by kernel_rfl) (fun _ _ _ h => h) (Or.inl ⟨by rfl, fun w' hSw => by ((try dsimp only at hSw); go_simp)⟩) hHeld ?_
  (try simp only [Act.put, List.setIfInBounds_toArray, List.set_cons_zero, List.set_cons_succ])
  refine wpAnyH_take (i := 2) (oi := _) (v := .pointer (some ⟨gx, 0, none⟩)) rfl (by kernel_rfl) (by kernel_rfl) (by kernel_rfl) (fun _ _ _ h => h) (Or.inl ⟨by rfl, fun w' hSw => by ((try dsimp only at hSw); go_simp)⟩) hHeld ?_
  (try simp only [Act.put, List.setIfInBounds_toArray, List.set_cons_zero, List.set_cons_succ])
  refine wpAnyH_take (i := 3) (oi := _) (v := .pointer (some ⟨gx, 0, none⟩)) rfl (by kernel_rfl) (by kernel_rfl) (by kernel_rfl) (fun _ _ _ h => h) (Or.inl ⟨by rfl, fun w' hSw => by ((try dsimp only at hSw); go_simp)⟩) hHeld ?_
  (try simp only [Act.put, List.setIfInBounds_toArray, List.set_cons_zero, List.set_cons_succ])
  refine wpAnyH_take (i := 4) (oi := _) (v := .bool false) rfl (by kernel_rfl) (by kernel_rfl) (by kernel_rfl) (fun _ _ _ h => h) (Or.inl ⟨by rfl, fun w' hSw => by ((try dsimp only at hSw); go_simp)⟩) hHeld ?_
  (try simp only [Act.put, List.setIfInBounds_toArray, List.set_cons_zero, List.set_cons_succ])
  refine wpAnyH_take (i := 5) (oi := _) (v := .pointer (some ⟨gx, 0, none⟩)) rfl (by kernel_rfl) (by kernel_rfl) (by kernel_rfl) (fun _ _ _ h => h) (Or.inl ⟨by rfl, fun w' hSw => by ((try dsimp only at hSw); go_simp)⟩) hHeld ?_
  (try simp only [Act.put, List.setIfInBounds_toArray, List.set_cons_zero, List.set_cons_succ])
  refine wpAnyH_take (i := 6) (oi := _) (v := .pointer (some ⟨gx, 0, none⟩)) rfl (by kernel_rfl) (by kernel_rfl) (by kernel_rfl) (fun _ _ _ h => h) (Or.inl ⟨by rfl, fun w' hSw => by ((try dsimp only at hSw); go_simp)⟩) hHeld ?_
  (try simp only [Act.put, List.setIfInBounds_toArray, List.set_cons_zero, List.set_cons_succ])
  refine wpAnyH_take (i := 7) (oi := _) (v := .pointer (some ⟨gx, 1, none⟩)) rfl (by kernel_rfl) (by kernel_rfl) (by kernel_rfl) (fun _ _ _ h => h) (Or.inl ⟨by rfl, fun w' hSw => by ((try dsimp only at hSw); go_simp)⟩) hHeld ?_
  (try simp only [Act.put, List.setIfInBounds_toArray, List.set_cons_zero, List.set_cons_succ])
  refine wpAnyH_take (i := 9) (oi := _) (v := .pointer (some ⟨gy, 0, none⟩)) rfl (by kernel_rfl) (by kernel_rfl) (by kernel_rfl) (fun _ _ _ h => h) (Or.inl ⟨by rfl, fun w' hSw => by ((try dsimp only at hSw); go_simp)⟩) hHeld ?_
  (try simp only [Act.put, List.setIfInBounds_toArray, List.set_cons_zero, List.set_cons_succ])
  refine wpAnyH_take (i := 10) (oi := _) (v := .pointer (some ⟨gy, 0, none⟩)) rfl (by kernel_rfl) (by kernel_rfl) (by kernel_rfl) (fun _ _ _ h => h) (Or.inl ⟨by rfl, fun w' hSw => by ((try dsimp only at hSw); go_simp)⟩) hHeld ?_
  (try simp only [Act.put, List.setIfInBounds_toArray, List.set_cons_zero, List.set_cons_succ])
  refine wpAnyH_take (i := 11) (oi := _) (v := .pointer (some ⟨gy, 0, none⟩)) rfl (by kernel_rfl) (by kernel_rfl) (by kernel_rfl) (fun _ _ _ h => h) (Or.inl ⟨by rfl, fun w' hSw => by ((try dsimp only at hSw); go_simp)⟩) hHeld ?_
  (try simp only [Act.put, List.setIfInBounds_toArray, List.set_cons_zero, List.set_cons_succ])
  refine wpAnyH_take (i := 12) (oi := _) (v := .bool false) rfl (by kernel_rfl) (by kernel_rfl) (by kernel_rfl) (fun _ _ _ h => h) (Or.inl ⟨by rfl, fun w' hSw => by ((try dsimp only at hSw); go_simp)⟩) hHeld ?_
  (try simp only [Act.put, List.setIfInBounds_toArray, List.set_cons_zero, List.set_cons_succ])
  refine wpAnyH_take (i := 13) (oi := _) (v := .pointer (some ⟨gy, 0, none⟩)) rfl (by kernel_rfl) (by kernel_rfl) (by kernel_rfl) (fun _ _ _ h => h) (Or.inl ⟨by rfl, fun w' hSw => by ((try dsimp only at hSw); go_simp)⟩) hHeld ?_
  (try simp only [Act.put, List.setIfInBounds_toArray, List.set_cons_zero, List.set_cons_succ])
  refine wpAnyH_take (i := 14) (oi := _) (v := .pointer (some ⟨gy, 0, none⟩)) rfl (by kernel_rfl) (by kernel_rfl) (by kernel_rfl) (fun _ _ _ h => h) (Or.inl ⟨by rfl, fun w' hSw => by ((try dsimp only at hSw); go_simp)⟩) hHeld ?_
  (try simp only [Act.put, List.setIfInBounds_toArray, List.set_cons_zero, List.set_cons_succ])
  refine wpAnyH_take (i := 15) (oi := _) (v := .pointer (some ⟨gy, 1, none⟩)) rfl (by kernel_rfl) (by kernel_rfl) (by kernel_rfl) (fun _ _ _ h => h) (Or.inl ⟨by rfl, fun w' hSw => by ((try dsimp only at hSw); go_simp)⟩) hHeld ?_
  (try simp only [Act.put, List.setIfInBounds_toArray, List.set_cons_zero, List.set_cons_succ])
  refine wpAnyH_ready (rs := [8, 16]) (by kernel_rfl) (by simp) ?_
  refine AllReadyH.cons (i := 8) (o := _) rfl (fun K hK => ?_) ?_
  · go_simp
    refine hK.out _ _ (by (first | (with_reducible exact ⟨x0, y0⟩) | go_keep)) (fun hHeld => ?_)
    clear hK K
    (try simp only [Act.put, List.setIfInBounds_toArray, List.set_cons_zero, List.set_cons_succ])
    refine wpAnyH_ready (rs := [16]) (by kernel_rfl) (by simp) ?_
    refine AllReadyH.cons (i := 16) (o := _) rfl (fun K hK => ?_) ?_
    · go_simp
      refine hK.out _ _ (by (first | (with_reducible exact ⟨x0, y0⟩) | go_keep)) (fun hHeld => ?_)
      clear hK K
      (try simp only [Act.put, List.setIfInBounds_toArray, List.set_cons_zero, List.set_cons_succ])
      refine wpAnyH_ready (rs := [17]) (by kernel_rfl) (by simp) ?_
      refine AllReadyH.cons (i := 17) (o := _) rfl (fun K hK => ?_) ?_
      · go_simp
        with_reducible refine HM.out.mono ?_
        rintro e W1 ⟨v1, rfl, hn1, hb1⟩
        have hbw : Below w.heap.size w W1 := (Below.refl w.heap.size w).drew.trans hb1
        have HQQ := Lib.hid (And.intro (cell_below hbw x0) (cell_below hbw y0))
        have HG := Lib.hid (And.intro (give_pos z v1 (x + y) W1 (HZ.out.1.below hbw) hn1) (And.intro (HZ.out.2.1.below hbw HZ.out.2.1.lt) (HZ.out.2.2.below hbw HZ.out.2.2.lt)))
        have HBW := Lib.hid hbw
        clear hn1 hb1 hbw
        try go_simp
        refine hK.out _ _ (by (with_reducible exact HQQ.out)) (fun hHeld => ?_)
        clear hK K
        (try simp only [Act.put, List.setIfInBounds_toArray, List.set_cons_zero, List.set_cons_succ])
        refine wpAnyH_take (i := 18) (oi := _) (v := .bool false) rfl (by kernel_rfl) (by kernel_rfl) (by kernel_rfl) (fun _ _ _ h => h) (Or.inl ⟨by rfl, fun w' hSw => by ((try dsimp only at hSw); go_simp)⟩) hHeld ?_
        (try simp only [Act.put, List.setIfInBounds_toArray, List.set_cons_zero, List.set_cons_succ])
        refine wpAnyH_take (i := 19) (oi := _) (v := v1) rfl (by kernel_rfl) (by kernel_rfl) (by kernel_rfl) (fun _ _ _ h => h) (Or.inl ⟨by rfl, fun w' hSw => by ((try dsimp only at hSw); go_simp)⟩) hHeld ?_
        (try simp only [Act.put, List.setIfInBounds_toArray, List.set_cons_zero, List.set_cons_succ])
        refine wpAnyH_ready (rs := [20]) (by kernel_rfl) (by simp) ?_
        refine AllReadyH.cons (i := 20) (o := _) rfl (fun K hK => ?_) ?_
        · go_simp
          with_reducible refine HG.out.1.mono ?_
          rintro e W2 ⟨rfl, hN, hO⟩
          have HSS := Lib.hid (And.intro (after_give hN hO HG.out.2.1) (after_give hN hO HG.out.2.2))
          have HE := Lib.hid (And.intro hN hO)
          clear hN hO
          try go_simp
          refine hK.out _ _ (by (with_reducible exact HSS.out)) (fun hHeld => ?_)
          clear hK K
          (try simp only [Act.put, List.setIfInBounds_toArray, List.set_cons_zero, List.set_cons_succ])
          refine wpAnyH_ready (rs := [21]) (by kernel_rfl) (by simp) ?_
          refine AllReadyH.cons (i := 21) (o := _) rfl (fun K hK => ?_) ?_
          · go_simp
            refine hK.out _ _ (by (with_reducible exact HSS.out)) (fun hHeld => ?_)
            clear hK K
            (try simp only [Act.put, List.setIfInBounds_toArray, List.set_cons_zero, List.set_cons_succ])
            refine wpAnyH_done (by kernel_rfl) ?_ _
            go_wp2_with fail
            go_ret
            exact ⟨rfl, HE.out.1, (Only.of_below HBW.out).trans HE.out.2⟩
          exact AllReadyH.nil
        exact AllReadyH.nil
      exact AllReadyH.nil
    exact AllReadyH.nil
  refine AllReadyH.cons (i := 16) (o := _) rfl (fun K hK => ?_) ?_
  · go_simp
    refine hK.out _ _ (by (first | (with_reducible exact ⟨x0, y0⟩) | go_keep)) (fun hHeld => ?_)
    clear hK K
    (try simp only [Act.put, List.setIfInBounds_toArray, List.set_cons_zero, List.set_cons_succ])
    refine wpAnyH_ready (rs := [8]) (by kernel_rfl) (by simp) ?_
    refine AllReadyH.cons (i := 8) (o := _) rfl (fun K hK => ?_) ?_
    · go_simp
      refine hK.out _ _ (by (first | (with_reducible exact ⟨x0, y0⟩) | go_keep)) (fun hHeld => ?_)
      clear hK K
      (try simp only [Act.put, List.setIfInBounds_toArray, List.set_cons_zero, List.set_cons_succ])
      refine wpAnyH_ready (rs := [17]) (by kernel_rfl) (by simp) ?_
      refine AllReadyH.cons (i := 17) (o := _) rfl (fun K hK => ?_) ?_
      · go_simp
        with_reducible refine HM.out.mono ?_
        rintro e W1 ⟨v1, rfl, hn1, hb1⟩
        have hbw : Below w.heap.size w W1 := (Below.refl w.heap.size w).drew.trans hb1
        have HQQ := Lib.hid (And.intro (cell_below hbw x0) (cell_below hbw y0))
        have HG := Lib.hid (And.intro (give_pos z v1 (x + y) W1 (HZ.out.1.below hbw) hn1) (And.intro (HZ.out.2.1.below hbw HZ.out.2.1.lt) (HZ.out.2.2.below hbw HZ.out.2.2.lt)))
        have HBW := Lib.hid hbw
        clear hn1 hb1 hbw
        try go_simp
        refine hK.out _ _ (by (with_reducible exact HQQ.out)) (fun hHeld => ?_)
        clear hK K
        (try simp only [Act.put, List.setIfInBounds_toArray, List.set_cons_zero, List.set_cons_succ])
        refine wpAnyH_take (i := 18) (oi := _) (v := .bool false) rfl (by kernel_rfl) (by kernel_rfl) (by kernel_rfl) (fun _ _ _ h => h) (Or.inl ⟨by rfl, fun w' hSw => by ((try dsimp only at hSw); go_simp)⟩) hHeld ?_
        (try simp only [Act.put, List.setIfInBounds_toArray, List.set_cons_zero, List.set_cons_succ])
        refine wpAnyH_take (i := 19) (oi := _) (v := v1) rfl (by kernel_rfl) (by kernel_rfl) (by kernel_rfl) (fun _ _ _ h => h) (Or.inl ⟨by rfl, fun w' hSw => by ((try dsimp only at hSw); go_simp)⟩) hHeld ?_
        (try simp only [Act.put, List.setIfInBounds_toArray, List.set_cons_zero, List.set_cons_succ])
        refine wpAnyH_ready (rs := [20]) (by kernel_rfl) (by simp) ?_
        refine AllReadyH.cons (i := 20) (o := _) rfl (fun K hK => ?_) ?_
        · go_simp
          with_reducible refine HG.out.1.mono ?_
          rintro e W2 ⟨rfl, hN, hO⟩
          have HSS := Lib.hid (And.intro (after_give hN hO HG.out.2.1) (after_give hN hO HG.out.2.2))
          have HE := Lib.hid (And.intro hN hO)
          clear hN hO
          try go_simp
          refine hK.out _ _ (by (with_reducible exact HSS.out)) (fun hHeld => ?_)
          clear hK K
          (try simp only [Act.put, List.setIfInBounds_toArray, List.set_cons_zero, List.set_cons_succ])
          refine wpAnyH_ready (rs := [21]) (by kernel_rfl) (by simp) ?_
          refine AllReadyH.cons (i := 21) (o := _) rfl (fun K hK => ?_) ?_
          · go_simp
            refine hK.out _ _ (by (with_reducible exact HSS.out)) (fun hHeld => ?_)
            clear hK K
            (try simp only [Act.put, List.setIfInBounds_toArray, List.set_cons_zero, List.set_cons_succ])
            refine wpAnyH_done (by kernel_rfl) ?_ _
            go_wp2_with fail
            go_ret
            exact ⟨rfl, HE.out.1, (Only.of_below HBW.out).trans HE.out.2⟩
          exact AllReadyH.nil
        exact AllReadyH.nil
      exact AllReadyH.nil
    exact AllReadyH.nil
  exact AllReadyH.nil
set_option maxRecDepth 100000 in
set_option maxHeartbeats 2000000 in
theorem lsh64 (z gx : Nat) (w : World) (hz : IsZ w z) (hx : IsN w gx 1) :
    Calls Tryd.prog 25 #[.pointer (some ⟨z, 0, none⟩), .pointer (some ⟨gx, 0, none⟩), .int .u64 64] w (OpQ w z 18446744073709551616) := by
  obtain ⟨Ax, nx, cx, bx, vx⟩ := hx
  have x0 : w.cell? ⟨gx, 0, none⟩ = some (.bool false) := bx.cell 0
  have x1 : w.cell? ⟨gx, 1, none⟩ = some (.slice Ax nx cx) := bx.cell 1
  have HM := Lib.hid (left64 _ w.drew (vx.below (Below.refl _ _).drew))
  have HZ := Lib.hid (And.intro hz bx)
  clear hz bx vx
  go_enter Tryd.func25, Tryd.ntmps25
  go_wp2_with fail
  refine wp_region_held_drew (S := fun w' => w'.cell? ⟨gx, 0, none⟩ = some (.bool false)) (by kernel_rfl) (by first | (with_reducible exact x0) | go_keep) (fun hHeld => ?_)
  refine wpAnyH_take (i := 0) (oi := _) (v := .pointer (some ⟨z, 0, none⟩)) rfl (by kernel_rfl) (by kernel_rfl) (by kernel_rfl) (fun _ _ _ h => h) (Or.inl ⟨by rfl, fun w' hSw => by ((try dsimp only at hSw); go_simp)⟩) hHeld ?_
  (try simp only [Act.put, List.setIfInBounds_toArray, List.set_cons_zero, List.set_cons_succ])
  refine wpAnyH_take (i := 1) (oi := _) (v := .pointer (some ⟨gx, 0, none⟩)) rfl (by kernel_rfl) (by kernel_rfl) (by kernel_rfl) (fun _ _ _ h => h) (Or.inl ⟨by rfl, fun w' hSw => by ((try dsimp only at hSw); go_simp)⟩) hHeld ?_
  (try simp only [Act.put, List.setIfInBounds_toArray, List.set_cons_zero, List.set_cons_succ])
  refine wpAnyH_take (i := 2) (oi := _) (v := .pointer (some ⟨gx, 0, none⟩)) rfl (by kernel_rfl) (by kernel_rfl) (by kernel_rfl) (fun _ _ _ h => h) (Or.inl ⟨by rfl, fun w' hSw => by ((try dsimp only at hSw); go_simp)⟩) hHeld ?_
  (try simp only [Act.put, List.setIfInBounds_toArray, List.set_cons_zero, List.set_cons_succ])
  refine wpAnyH_take (i := 3) (oi := _) (v := .pointer (some ⟨gx, 0, none⟩)) rfl (by kernel_rfl) (by kernel_rfl) (by kernel_rfl) (fun _ _ _ h => h) (Or.inl ⟨by rfl, fun w' hSw => by ((try dsimp only at hSw); go_simp)⟩) hHeld ?_
  (try simp only [Act.put, List.setIfInBounds_toArray, List.set_cons_zero, List.set_cons_succ])
  refine wpAnyH_take (i := 4) (oi := _) (v := .bool false) rfl (by kernel_rfl) (by kernel_rfl) (by kernel_rfl) (fun _ _ _ h => h) (Or.inl ⟨by rfl, fun w' hSw => by ((try dsimp only at hSw); go_simp)⟩) hHeld ?_
  (try simp only [Act.put, List.setIfInBounds_toArray, List.set_cons_zero, List.set_cons_succ])
  refine wpAnyH_take (i := 5) (oi := _) (v := .pointer (some ⟨gx, 0, none⟩)) rfl (by kernel_rfl) (by kernel_rfl) (by kernel_rfl) (fun _ _ _ h => h) (Or.inl ⟨by rfl, fun w' hSw => by ((try dsimp only at hSw); go_simp)⟩) hHeld ?_
  (try simp only [Act.put, List.setIfInBounds_toArray, List.set_cons_zero, List.set_cons_succ])
  refine wpAnyH_take (i := 6) (oi := _) (v := .pointer (some ⟨gx, 0, none⟩)) rfl (by kernel_rfl) (by kernel_rfl) (by kernel_rfl) (fun _ _ _ h => h) (Or.inl ⟨by rfl, fun w' hSw => by ((try dsimp only at hSw); go_simp)⟩) hHeld ?_
  (try simp only [Act.put, List.setIfInBounds_toArray, List.set_cons_zero, List.set_cons_succ])
  refine wpAnyH_take (i := 7) (oi := _) (v := .pointer (some ⟨gx, 1, none⟩)) rfl (by kernel_rfl) (by kernel_rfl) (by kernel_rfl) (fun _ _ _ h => h) (Or.inl ⟨by rfl, fun w' hSw => by ((try dsimp only at hSw); go_simp)⟩) hHeld ?_
  (try simp only [Act.put, List.setIfInBounds_toArray, List.set_cons_zero, List.set_cons_succ])
  refine wpAnyH_take (i := 9) (oi := _) (v := .int .u64 64) rfl (by kernel_rfl) (by kernel_rfl) (by kernel_rfl) (fun _ _ _ h => h) (Or.inl ⟨by rfl, fun w' hSw => by ((try dsimp only at hSw); go_simp)⟩) hHeld ?_
  (try simp only [Act.put, List.setIfInBounds_toArray, List.set_cons_zero, List.set_cons_succ])
  refine wpAnyH_ready (rs := [8]) (by kernel_rfl) (by simp) ?_
  refine AllReadyH.cons (i := 8) (o := _) rfl (fun K hK => ?_) ?_
  · go_simp
    refine hK.out _ _ (by (first | (with_reducible exact x0) | go_keep)) (fun hHeld => ?_)
    clear hK K
    (try simp only [Act.put, List.setIfInBounds_toArray, List.set_cons_zero, List.set_cons_succ])
    refine wpAnyH_ready (rs := [10]) (by kernel_rfl) (by simp) ?_
    refine AllReadyH.cons (i := 10) (o := _) rfl (fun K hK => ?_) ?_
    · go_simp
      with_reducible refine HM.out.mono ?_
      rintro e W1 ⟨v1, rfl, hn1, hb1⟩
      have hbw : Below w.heap.size w W1 := (Below.refl w.heap.size w).drew.trans hb1
      have HQQ := Lib.hid (cell_below hbw x0)
      have HG := Lib.hid (And.intro (give_pos z v1 18446744073709551616 W1 (HZ.out.1.below hbw) hn1) (HZ.out.2.below hbw HZ.out.2.lt))
      have HBW := Lib.hid hbw
      clear hn1 hb1 hbw
      try go_simp
      refine hK.out _ _ (by (with_reducible exact HQQ.out)) (fun hHeld => ?_)
      clear hK K
      (try simp only [Act.put, List.setIfInBounds_toArray, List.set_cons_zero, List.set_cons_succ])
      refine wpAnyH_ready (rs := [11]) (by kernel_rfl) (by simp) ?_
      refine AllReadyH.cons (i := 11) (o := _) rfl (fun K hK => ?_) ?_
      · go_simp
        with_reducible refine HG.out.1.mono ?_
        rintro e W2 ⟨rfl, hN, hO⟩
        have HSS := Lib.hid (after_give hN hO HG.out.2)
        have HE := Lib.hid (And.intro hN hO)
        clear hN hO
        try go_simp
        refine hK.out _ _ (by (with_reducible exact HSS.out)) (fun hHeld => ?_)
        clear hK K
        (try simp only [Act.put, List.setIfInBounds_toArray, List.set_cons_zero, List.set_cons_succ])
        refine wpAnyH_ready (rs := [12]) (by kernel_rfl) (by simp) ?_
        refine AllReadyH.cons (i := 12) (o := _) rfl (fun K hK => ?_) ?_
        · go_simp
          refine hK.out _ _ (by (with_reducible exact HSS.out)) (fun hHeld => ?_)
          clear hK K
          (try simp only [Act.put, List.setIfInBounds_toArray, List.set_cons_zero, List.set_cons_succ])
          refine wpAnyH_done (by kernel_rfl) ?_ _
          go_wp2_with fail
          go_ret
          exact ⟨rfl, HE.out.1, (Only.of_below HBW.out).trans HE.out.2⟩
        exact AllReadyH.nil
      exact AllReadyH.nil
    exact AllReadyH.nil
  exact AllReadyH.nil
set_option maxRecDepth 100000 in
set_option maxHeartbeats 2000000 in
theorem setop (z gx x : Nat) (w : World) (hz : IsZ w z) (hx : IsN w gx x) :
    Calls Tryd.prog 77 #[.pointer (some ⟨z, 0, none⟩), .pointer (some ⟨gx, 0, none⟩)] w (OpQ w z x) := by
  obtain ⟨Ax, nx, cx, bx, vx⟩ := hx
  have x0 : w.cell? ⟨gx, 0, none⟩ = some (.bool false) := bx.cell 0
  have x1 : w.cell? ⟨gx, 1, none⟩ = some (.slice Ax nx cx) := bx.cell 1
  have HM := Lib.hid (twin_any _ x w.drew (vx.below (Below.refl _ _).drew))
  have HZ := Lib.hid (And.intro hz bx)
  clear hz bx vx
  go_enter Tryd.func77, Tryd.ntmps77
  go_wp2_with fail
  refine wp_region_held_drew (S := fun w' => w'.cell? ⟨gx, 0, none⟩ = some (.bool false)) (by kernel_rfl) (by first | (with_reducible exact x0) | go_keep) (fun hHeld => ?_)
  refine wpAnyH_take (i := 0) (oi := _) (v := .pointer (some ⟨z, 0, none⟩)) rfl (by kernel_rfl) (by kernel_rfl) (by kernel_rfl) (fun _ _ _ h => h) (Or.inl ⟨by rfl, fun w' hSw => by ((try dsimp only at hSw); go_simp)⟩) hHeld ?_
  (try simp only [Act.put, List.setIfInBounds_toArray, List.set_cons_zero, List.set_cons_succ])
  refine wpAnyH_take (i := 1) (oi := _) (v := .pointer (some ⟨gx, 0, none⟩)) rfl (by kernel_rfl) (by kernel_rfl) (by kernel_rfl) (fun _ _ _ h => h) (Or.inl ⟨by rfl, fun w' hSw => by ((try dsimp only at hSw); go_simp)⟩) hHeld ?_
  (try simp only [Act.put, List.setIfInBounds_toArray, List.set_cons_zero, List.set_cons_succ])
  refine wpAnyH_take (i := 2) (oi := _) (v := .pointer (some ⟨gx, 0, none⟩)) rfl (by kernel_rfl) (by kernel_rfl) (by kernel_rfl) (fun _ _ _ h => h) (Or.inl ⟨by rfl, fun w' hSw => by ((try dsimp only at hSw); go_simp)⟩) hHeld ?_
  (try simp only [Act.put, List.setIfInBounds_toArray, List.set_cons_zero, List.set_cons_succ])
  refine wpAnyH_take (i := 3) (oi := _) (v := .pointer (some ⟨gx, 0, none⟩)) rfl (by kernel_rfl) (by kernel_rfl) (by kernel_rfl) (fun _ _ _ h => h) (Or.inl ⟨by rfl, fun w' hSw => by ((try dsimp only at hSw); go_simp)⟩) hHeld ?_
  (try simp only [Act.put, List.setIfInBounds_toArray, List.set_cons_zero, List.set_cons_succ])
  refine wpAnyH_take (i := 4) (oi := _) (v := .bool false) rfl (by kernel_rfl) (by kernel_rfl) (by kernel_rfl) (fun _ _ _ h => h) (Or.inl ⟨by rfl, fun w' hSw => by ((try dsimp only at hSw); go_simp)⟩) hHeld ?_
  (try simp only [Act.put, List.setIfInBounds_toArray, List.set_cons_zero, List.set_cons_succ])
  refine wpAnyH_take (i := 5) (oi := _) (v := .pointer (some ⟨gx, 0, none⟩)) rfl (by kernel_rfl) (by kernel_rfl) (by kernel_rfl) (fun _ _ _ h => h) (Or.inl ⟨by rfl, fun w' hSw => by ((try dsimp only at hSw); go_simp)⟩) hHeld ?_
  (try simp only [Act.put, List.setIfInBounds_toArray, List.set_cons_zero, List.set_cons_succ])
  refine wpAnyH_take (i := 6) (oi := _) (v := .pointer (some ⟨gx, 0, none⟩)) rfl (by kernel_rfl) (by kernel_rfl) (by kernel_rfl) (fun _ _ _ h => h) (Or.inl ⟨by rfl, fun w' hSw => by ((try dsimp only at hSw); go_simp)⟩) hHeld ?_
  (try simp only [Act.put, List.setIfInBounds_toArray, List.set_cons_zero, List.set_cons_succ])
  refine wpAnyH_take (i := 7) (oi := _) (v := .pointer (some ⟨gx, 1, none⟩)) rfl (by kernel_rfl) (by kernel_rfl) (by kernel_rfl) (fun _ _ _ h => h) (Or.inl ⟨by rfl, fun w' hSw => by ((try dsimp only at hSw); go_simp)⟩) hHeld ?_
  (try simp only [Act.put, List.setIfInBounds_toArray, List.set_cons_zero, List.set_cons_succ])
  refine wpAnyH_ready (rs := [8]) (by kernel_rfl) (by simp) ?_
  refine AllReadyH.cons (i := 8) (o := _) rfl (fun K hK => ?_) ?_
  · go_simp
    refine hK.out _ _ (by (first | (with_reducible exact x0) | go_keep)) (fun hHeld => ?_)
    clear hK K
    (try simp only [Act.put, List.setIfInBounds_toArray, List.set_cons_zero, List.set_cons_succ])
    refine wpAnyH_ready (rs := [9]) (by kernel_rfl) (by simp) ?_
    refine AllReadyH.cons (i := 9) (o := _) rfl (fun K hK => ?_) ?_
    · go_simp
      with_reducible refine HM.out.mono ?_
      rintro e W1 ⟨v1, rfl, hn1, hb1⟩
      have hbw : Below w.heap.size w W1 := (Below.refl w.heap.size w).drew.trans hb1
      have HQQ := Lib.hid (cell_below hbw x0)
      have HG := Lib.hid (And.intro (give_pos z v1 x W1 (HZ.out.1.below hbw) hn1) (HZ.out.2.below hbw HZ.out.2.lt))
      have HBW := Lib.hid hbw
      clear hn1 hb1 hbw
      try go_simp
      refine hK.out _ _ (by (with_reducible exact HQQ.out)) (fun hHeld => ?_)
      clear hK K
      (try simp only [Act.put, List.setIfInBounds_toArray, List.set_cons_zero, List.set_cons_succ])
      refine wpAnyH_ready (rs := [10]) (by kernel_rfl) (by simp) ?_
      refine AllReadyH.cons (i := 10) (o := _) rfl (fun K hK => ?_) ?_
      · go_simp
        with_reducible refine HG.out.1.mono ?_
        rintro e W2 ⟨rfl, hN, hO⟩
        have HSS := Lib.hid (after_give hN hO HG.out.2)
        have HE := Lib.hid (And.intro hN hO)
        clear hN hO
        try go_simp
        refine hK.out _ _ (by (with_reducible exact HSS.out)) (fun hHeld => ?_)
        clear hK K
        (try simp only [Act.put, List.setIfInBounds_toArray, List.set_cons_zero, List.set_cons_succ])
        refine wpAnyH_ready (rs := [11]) (by kernel_rfl) (by simp) ?_
        refine AllReadyH.cons (i := 11) (o := _) rfl (fun K hK => ?_) ?_
        · go_simp
          refine hK.out _ _ (by (with_reducible exact HSS.out)) (fun hHeld => ?_)
          clear hK K
          (try simp only [Act.put, List.setIfInBounds_toArray, List.set_cons_zero, List.set_cons_succ])
          refine wpAnyH_done (by kernel_rfl) ?_ _
          go_wp2_with fail
          go_ret
          exact ⟨rfl, HE.out.1, (Only.of_below HBW.out).trans HE.out.2⟩
        exact AllReadyH.nil
      exact AllReadyH.nil
    exact AllReadyH.nil
  exact AllReadyH.nil
end Go.Proofs.YtfnigdbnkdofiaaDoor
