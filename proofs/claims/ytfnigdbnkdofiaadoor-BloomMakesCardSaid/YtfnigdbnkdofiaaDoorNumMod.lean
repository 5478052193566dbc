/- commonbookbig: QuoRem, DivMod, Mod at numbers that are none below nought. -/
import Derived.Test.YtfnigdbnkdofiaaDoorNumOps
namespace Go.Proofs.YtfnigdbnkdofiaaDoor
open Go.RowKit
set_option linter.unusedVariables false
set_option linter.unusedSimpArgs false

/-- div's contract at x and y; where F, the rest lies in a row of its own. -/
def DivOk (F : Prop) (x y : Nat) : Prop := ∀ (v1 v2 : Value) (w : World), NW w v1 x → NW w v2 y → Calls Tryd.prog 90 #[v1, v2] w fun e w' => ∃ A n c v', e = .returned (.tuple #[.slice A n c, v']) ∧ NW w' v' (x % y) ∧ Below w.heap.size w w' ∧ (F → ∀ k, v'.ownBlock = some k → w.heap.size ≤ k)
theorem DivOk.p64 {x : Nat} (hx : x < 4294967296 ^ 4) : DivOk True x 18446744073709551616 := fun v1 v2 w h1 h2 => (div64 v1 v2 x w h1 h2 hx).mono (fun e w' ⟨A, n, c, v', h1, h2, h3, h4⟩ => ⟨A, n, c, v', h1, h2, h3, fun _ => h4⟩)
theorem DivOk.small {x y : Nat} (hx : x < 18446744073709551616) (hy : y < 18446744073709551616) (hy0 : 0 < y) : DivOk False x y := fun v1 v2 w h1 h2 => (div_small v1 v2 x y w h1 h2 hx hy hy0).mono (fun e w' ⟨A, n, c, v', h1, h2, h3⟩ => ⟨A, n, c, v', h1, h2, h3, fun h => h.elim⟩)
/-- The words of the number at r lie behind block n. -/
def Own (F : Prop) (n : Nat) (w : World) (r : Nat) : Prop := F → ∀ A m c, w.cell? ⟨r, 1, none⟩ = some (.slice A m c) → ∀ a, A = some a → n ≤ a.block

/-- A block that is given some number: others stand. -/
theorem IsZ.only {w w' : World} {z r : Nat} (h : IsZ w r) (ho : Only (fun k => k = z) w w') (hn : r ≠ z) : IsZ w' r := by
  obtain ⟨p, B, m, k, h⟩ := h
  exact ⟨p, B, m, k, h.only ho (fun e => hn e)⟩
theorem IsZ.lt {w : World} {z : Nat} (h : IsZ w z) : z < w.heap.size := by
  obtain ⟨p, B, m, k, h⟩ := h
  exact h.lt
theorem NW.onlyZ {w w' : World} {z x : Nat} {v : Value} (h : NW w v x) (hz : IsZ w z) (ho : Only (fun k => k = z) w w') : NW w' v x := by
  obtain ⟨p, B, m, k, hz⟩ := hz
  exact h.other hz ho
theorem give_raw (z : Nat) (A : Option Addr) (n c : Nat) (w : World) (h : IsZ w z) :
    Calls Tryd.prog 49 #[.pointer (some ⟨z, 0, none⟩), .bool false, .slice A n c] w fun e w' => e = .returned (.pointer (some ⟨z, 0, none⟩)) ∧ IsZ w' z ∧ Only (fun k => k = z) w w' := by
  obtain ⟨p, B, m, k, h⟩ := h
  refine (give_any z _ _ false A n c w h).mono ?_
  rintro e w' ⟨rfl, hb', ho⟩
  exact ⟨rfl, ⟨_, _, _, _, hb'⟩, ho⟩

theorem give_own (z : Nat) (v : Value) (x : Nat) (w : World) (h : IsZ w z) (hv : NW w v x) (F : Prop) (n0 : Nat) (hf : F → ∀ k, v.ownBlock = some k → n0 ≤ k) :
    Calls Tryd.prog 49 #[.pointer (some ⟨z, 0, none⟩), .bool false, v] w fun e w' => GivQ w z x e w' ∧ Own F n0 w' z := by
  obtain ⟨p, B, m, k, h⟩ := h
  obtain ⟨A, c, l, rfl, h5⟩ := hv
  refine (give_any z _ _ false A l.length c w h).mono ?_
  rintro e w' ⟨rfl, hb', ho⟩
  refine ⟨⟨rfl, ⟨A, l.length, c, by simpa using hb', NW.other ⟨A, c, l, rfl, h5⟩ h ho⟩, ho⟩, ?_⟩
  intro hF A' m' c' hc a ha
  rw [hb'.cell 1] at hc
  injection hc with hc
  injection hc with e1 e2 e3
  exact hf hF a.block (by rw [e1, ha]; rfl)

def QuoQ (F : Prop) (w : World) (z r x : Nat) (e : Ending) (w' : World) : Prop := e = .returned (.tuple #[.pointer (some ⟨z, 0, none⟩), .pointer (some ⟨r, 0, none⟩)]) ∧ IsN w' r x ∧ Only (fun k => k = z ∨ k = r) w w' ∧ Own F w.heap.size w' r

set_option maxRecDepth 100000 in
set_option maxHeartbeats 2000000 in
theorem quorem (z gx gy r x y : Nat) (w : World) (F : Prop) (hd : DivOk F x y) (hz : IsZ w z) (hr : IsZ w r) (hzr : r ≠ z) (hx : IsN w gx x) (hy : IsN w gy y) :
    Calls Tryd.prog 78 #[.pointer (some ⟨z, 0, none⟩), .pointer (some ⟨gx, 0, none⟩), .pointer (some ⟨gy, 0, none⟩), .pointer (some ⟨r, 0, none⟩)] w (QuoQ F w z r (x % y)) := by
  obtain ⟨Ax, nx, cx, bx, vx⟩ := hx
  obtain ⟨Ay, ny, cy, byy, vy⟩ := hy
  have x0 : w.cell? ⟨gx, 0, none⟩ = some (.bool false) := bx.cell 0
  have x1 : w.cell? ⟨gx, 1, none⟩ = some (.slice Ax nx cx) := bx.cell 1
  have y0 : w.cell? ⟨gy, 0, none⟩ = some (.bool false) := byy.cell 0
  have y1 : w.cell? ⟨gy, 1, none⟩ = some (.slice Ay ny cy) := byy.cell 1
  have HF : ∀ w' : World, Below w.heap.size w w' → w'.cell? ⟨gx, 1, none⟩ = some (.slice Ax nx cx) ∧ w'.cell? ⟨gy, 1, none⟩ = some (.slice Ay ny cy) := fun w' h => ⟨cell_below h x1, cell_below h y1⟩
  have HV := Lib.hid (And.intro vx vy)
  have HD := Lib.hid (hd (.slice Ax nx cx) (.slice Ay ny cy) w.drew.drew (vx.below (((Below.refl w.heap.size w).drew).drew)) (vy.below (((Below.refl w.heap.size w).drew).drew)))
  have HZ := Lib.hid (And.intro hz (And.intro hr hzr))
  have HF2 := Lib.hid HF
  clear hz bx byy vx vy hd HF hr hzr
  go_enter Tryd.func78, Tryd.ntmps78
  go_wp2_with fail
  go_region_held3 (fun W => W.cell? ⟨gx, 0, none⟩ = some (.bool false) ∧ W.cell? ⟨gy, 0, none⟩ = some (.bool false)) (first | (with_reducible exact ⟨x0, y0⟩) | go_keep) (fail)
  go_wp2_with fail
  go_region_held3 (fun W => W.cell? ⟨gx, 1, none⟩ = some (.slice Ax nx cx) ∧ W.cell? ⟨gy, 1, none⟩ = some (.slice Ay ny cy)) (first | (with_reducible exact ⟨x1, y1⟩) | (with_reducible exact HQQ.out) | go_keep) (first
    | (go_simp
       go_at_call 90
       (with_reducible refine HD.out.mono ?_)
       rintro e W1 ⟨A, n, c, v1, rfl, hn1, hb1, hfr⟩
       have hbw : Below w.heap.size w W1 := (((Below.refl w.heap.size w).drew).drew).trans hb1
       have HQQ := Lib.hid (HF2.out W1 hbw)
       have HG := Lib.hid (And.intro (give_raw z A n c W1 (HZ.out.1.below hbw)) (And.intro (HZ.out.1.below hbw) (And.intro (HZ.out.2.1.below hbw) (And.intro hn1 hfr))))
       have HBW := Lib.hid hbw
       clear hn1 hb1 hbw hfr))
  go_wp2_with (first
    | (go_at_call 49
       (with_reducible refine HG.out.1.mono ?_)
       rintro e W2 ⟨rfl, hz2, hO⟩
       have HG2 := Lib.hid (give_own r v1 (x % y) W2 (HG.out.2.2.1.only hO HZ.out.2.2) (HG.out.2.2.2.1.onlyZ HG.out.2.1 hO) F w.heap.size HG.out.2.2.2.2)
       have HO := Lib.hid hO
       clear hz2 hO)
    | (go_at_call 49
       (with_reducible refine HG2.out.mono ?_)
       rintro e W3 ⟨⟨rfl, hN3, hO3⟩, hw3⟩
       have HE := Lib.hid (And.intro hN3 (And.intro hO3 hw3))
       clear hN3 hO3 hw3))
  go_ret2
  exact ⟨rfl, HE.out.1, (Only.of_below HBW.out).trans ((HO.out.mono (fun k _ h => Or.inl h)).trans (HE.out.2.1.mono (fun k _ h => Or.inr h))), HE.out.2.2⟩

set_option maxRecDepth 100000 in
set_option maxHeartbeats 2000000 in
theorem divmod (z gx gy r x y : Nat) (w : World) (F : Prop) (hd : DivOk F x y) (hz : IsZ w z) (hr : IsZ w r) (hzr : r ≠ z) (hx : IsN w gx x) (hy : IsN w gy y) :
    Calls Tryd.prog 54 #[.pointer (some ⟨z, 0, none⟩), .pointer (some ⟨gx, 0, none⟩), .pointer (some ⟨gy, 0, none⟩), .pointer (some ⟨r, 0, none⟩)] w (QuoQ F w z r (x % y)) := by
  have hB : Below w.heap.size w (w.alloc (.cells #[.bool false, .slice none 0 0] 69)) := (Below.refl _ _).alloc (Nat.le_refl _) _
  have HS := Lib.hid (setop w.heap.size gy y _ (IsZ.new w) (hy.below hB))
  have HL := Lib.hid (And.intro hB (And.intro hz (And.intro hr (And.intro hx hy))))
  have hzl := hz.lt
  have hrl := hr.lt
  have hxl := hx.lt
  have hyl := hy.lt
  have HLT := Lib.hid (And.intro (And.intro hzl hrl) (And.intro hxl (And.intro hyl (And.intro hd hzr))))
  clear hB hz hr hx hy hd hzl hrl hxl hyl hzr
  go_enter Tryd.func54, Tryd.ntmps54
  go_wp2_with (first
    | (go_at_call 77
       (with_reducible refine HS.out.mono ?_)
       rintro e W1 ⟨rfl, hN1, hO1⟩
       have hbw : Below w.heap.size w W1 := HL.out.1.trans (hO1.below HL.out.1.size (fun k hk he => Nat.lt_irrefl _ (he ▸ hk)))
       have HQ := Lib.hid (quorem z gx gy r x y W1 F HLT.out.2.2.2.1 (HL.out.2.1.below hbw) (HL.out.2.2.1.below hbw) HLT.out.2.2.2.2 (HL.out.2.2.2.1.below hbw) (HL.out.2.2.2.2.below hbw))
       have HBW := Lib.hid hbw
       have hd0 : W1.cell? ⟨w.heap.size, 0, none⟩ = some (.bool false) := by obtain ⟨_, _, _, h, _⟩ := hN1; exact h.cell 0
       clear hN1 hO1 hbw)
    | (go_at_call 78
       (with_reducible refine HQ.out.mono ?_)
       rintro e W2 ⟨rfl, hN2, hO2, hw2⟩
       have hr0 : W2.cell? ⟨r, 0, none⟩ = some (.bool false) := by obtain ⟨_, _, _, h, _⟩ := hN2; exact h.cell 0
       have HE := Lib.hid (And.intro hN2 (And.intro hO2 hw2))
       clear hN2 hO2 hw2))
  go_ret2
  exact ⟨rfl, HE.out.1, (Only.of_below HBW.out).trans HE.out.2.1, fun hF A m c hc a ha => Nat.le_trans HBW.out.size (HE.out.2.2 hF A m c hc a ha)⟩

set_option maxRecDepth 100000 in
set_option maxHeartbeats 2000000 in
theorem modop (z gx gy x y : Nat) (w : World) (F : Prop) (hd : DivOk F x y) (hz : IsZ w z) (hx : IsN w gx x) (hy : IsN w gy y) :
    Calls Tryd.prog 29 #[.pointer (some ⟨z, 0, none⟩), .pointer (some ⟨gx, 0, none⟩), .pointer (some ⟨gy, 0, none⟩)] w fun e w' => OpQ w z (x % y) e w' ∧ Own F w.heap.size w' z := by
  have hB : Below w.heap.size w (w.alloc (.cells #[.bool false, .slice none 0 0] 69)) := (Below.refl _ _).alloc (Nat.le_refl _) _
  have HQ := Lib.hid (divmod w.heap.size gx gy z x y _ F hd (IsZ.new w) (hz.below hB) (by have := hz.lt; omega) (hx.below hB) (hy.below hB))
  have HL := Lib.hid hB
  clear hB hz hx hy hd
  go_enter Tryd.func29, Tryd.ntmps29
  go_wp2_with (first
    | (go_at_call 54
       (with_reducible refine HQ.out.mono ?_)
       rintro e W2 ⟨rfl, hN2, hO2, hw2⟩
       have HE := Lib.hid (And.intro hN2 (And.intro hO2 hw2))
       clear hN2 hO2 hw2))
  go_ret
  have h2 := HE.out.2.1
  have h1 := HL.out
  refine ⟨⟨rfl, HE.out.1, ?_⟩, fun hF A m c hc a ha => Nat.le_trans h1.size (HE.out.2.2 hF A m c hc a ha)⟩
  exact ⟨h2.os.trans h1.os, h2.tape.trans h1.tape, h2.output.trans h1.output, Nat.le_trans h1.size h2.size, fun k hk hn => (h2.block k (Nat.lt_of_lt_of_le hk h1.size) (fun he => he.elim (fun h => by omega) hn)).trans (h1.block k hk)⟩
end Go.Proofs.YtfnigdbnkdofiaaDoor
