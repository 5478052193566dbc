/- booklaw6.DiskNames: the walk. -/
import Derived.Test.YtphkebalgbnjbaaDoorDiskKeepsWalk
namespace Go.Proofs.YtphkebalgbnjbaaDoor
open Go.RowKit Go.Maps
set_option linter.unusedVariables false
set_option linter.unusedSimpArgs false

/-- What is done to one file leaves another one. -/
theorem Fl.beside {w w' : World} {f g : Nat} {A B : Option Addr} {c c' : Nat} {xs ys : List Int} {s s' : Int} (hf : Fl w f A c xs s) (hg : Fl w g B c' ys s') {d bn bs : Nat} {N S : DataW Nat} {steps stop : Int} (hd : Dk w d bn bs N S steps stop) (hfg : f ≠ g) (hAB : ∀ a b, A = some a → B = some b → a.block ≠ b.block)
    (ho : Only (fun k => k = d ∨ k = g ∨ ∃ b, B = some b ∧ k = b.block) w w') : Fl w' f A c xs s := by
  refine hf.only ho ?_ ?_
  · rintro (e | e | ⟨b, hb, e⟩)
    · subst e; exact absurd (hd.blk.same_type hf.blk) (by decide)
    · exact hfg e
    · exact hg.ne_blk hf.blk (by decide) b hb e.symm
  · rintro a ha (e | e | ⟨b, hb, e⟩)
    · exact hf.ne_blk hd.blk (by decide) a ha e
    · exact hf.ne_blk hg.blk (by decide) a ha e
    · exact hAB a b ha hb e
theorem Fl.row_lt {w : World} {f : Nat} {A : Option Addr} {c : Nat} {xs : List Int} {s : Int} (h : Fl w f A c xs s) : ∀ a, A = some a → a.block < w.heap.size := by
  intro a ha
  obtain ⟨cur, e, hg⟩ := h.cellsf a.block (.inr ⟨a, ha, rfl⟩)
  exact (Array.getElem?_eq_some_iff.1 hg).1
def nAB (f g : Nat) : DataW Nat := (nA f).put kB (.held g)
def nBA (f g : Nat) : DataW Nat := ((nAB f g).del kB).put kA (.held g)
theorem nAB_b (f g : Nat) : (nAB f g).atKey kB .nil = ptrD (some g) := atKey_put_same (k := kB) (isMap_empty.put _ _) trivial _ _
theorem nBA_a (f g : Nat) : (nBA f g).atKey kA .nil = ptrD (some g) := atKey_put_same (k := kA) (((isMap_empty.put _ _).put _ _).del _) trivial _ _
theorem kept_all (l : List Int) : kept 0 (l, l.length) = l := by
  unfold kept
  rw [List.take_of_length_le (by show l.length ≤ l.length + _; omega)]

set_option maxRecDepth 100000 in
set_option maxHeartbeats 4000000 in
theorem diskNames_walk (w : World) (va : Value) (la : List Int) (ha : IsBytes w va la) (vb : Value) (lb : List Int) (hb : IsBytes w vb lb) :
    Calls Tryd.prog 5 #[va, vb] w fun e w' => e = .returned (.bool true) ∧ Below w.heap.size w w' := by
  obtain ⟨Aa, ca, rfl, hSa, hra, hca, hcam⟩ := ha
  obtain ⟨Ab, cb, rfl, hSb, hrb, hcb, hcbm⟩ := hb
  have HA := Lib.hid (And.intro hSa (And.intro hca hcam))
  have HB := Lib.hid (And.intro hSb (And.intro hcb hcbm))
  have hami : (la.length : Int) ≤ 9223372036854775807 := by simp only [maxLen] at hcam; omega
  have hbmi : (lb.length : Int) ≤ 9223372036854775807 := by simp only [maxLen] at hcbm; omega
  clear hSa hra hca hcam hSb hrb hcb hcbm
  go_enter Tryd.func5, Tryd.ntmps5
  go_wp2_with fail
  refine (new_some w).mono ?_
  rintro e w1 ⟨d, bn, bs, rfl, hD1, hb1, hd0, hn0, hs0⟩
  have H1 := Lib.hid (And.intro hD1 (And.intro hb1 (And.intro hd0 hn0)))
  clear hD1 hb1 hd0 hn0 hs0
  go_wp2_with fail
  refine (st_create w w1 d bn bs _ _ 0 ⟨#[97]⟩ H1.out.1 H1.out.2.1 H1.out.2.2 (by omega) (by decide) goodA rfl (by decide)).mono ?_
  rintro e w2 ⟨rfl, f, hS2, _⟩
  have H2 := Lib.hid (show StA w w2 d bn bs (nA f) (.map []) 1 f none 0 [] 0 from hS2)
  clear hS2
  go_wp2_with fail
  refine (st_append w w2 d bn bs (nA f) _ 1 f none 0 [] 0 ⟨#[97]⟩ Aa la ca H2.out (by omega) (by decide) goodA (one_at kA trivial f) (by simp) HA.out.1 (by have := HA.out.2; omega)).mono ?_
  rintro e w3 ⟨e2, st3, A3, c3, xs3, rfl, hS3, hx3, hst3, hw3, _, _⟩
  have H3 := Lib.hid (And.intro hS3 (And.intro hx3 (And.intro hst3 hw3)))
  clear hS3 hx3 hst3 hw3
  go_wp2_with fail
  refine (st_sync w w3 d bn bs (nA f) _ st3 f A3 c3 xs3 0 ⟨#[97]⟩ H3.out.1 (by have := H3.out.2.2.1; omega) (by decide) goodA (one_at kA trivial f)).mono ?_
  rintro e w4 ⟨rfl, hS4, _⟩
  have H4 := Lib.hid hS4
  clear hS4
  go_wp2_with fail
  refine (st_names w w4 d bn bs (nA f) _ (st3 + 1) f A3 c3 xs3 xs3.length H4.out (by have := H3.out.2.2.1; omega) (by show (1 : Nat) < maxLen; decide)).mono ?_
  rintro e w5 ⟨rfl, bs5, hS5⟩
  have H5 := Lib.hid hS5
  clear hS5
  go_wp2_with fail
  refine (st_other w w5 d bn bs5 (nA f) _ (st3 + 1 + 1) f A3 c3 _ _ ⟨#[98]⟩ H5.out (by have := H3.out.2.2.1; omega) (by decide) goodBB (one_other kA kB (by intro e; injection e with e; injection e with e; cases e) f) (by show (1 : Nat) < maxLen; decide)).mono ?_
  rintro e w6 ⟨rfl, g, hS6, hG6, hg6⟩
  have H6 := Lib.hid (And.intro (show StA w w6 d bn bs5 (nAB f g) (nA f) (st3 + 1 + 1 + 1) f A3 c3 xs3 xs3.length from hS6) (And.intro (show StA w w6 d bn bs5 (nAB f g) (nA f) (st3 + 1 + 1 + 1) g none 0 [] 0 from hG6) (show f ≠ g by have := H5.out.fl.blk.lt; omega)))
  clear hS6 hG6 hg6
  go_wp2_with fail
  refine (st_append w w6 d bn bs5 (nAB f g) _ _ g none 0 [] 0 ⟨#[98]⟩ Ab lb cb H6.out.2.1 (by have := H3.out.2.2.1; omega) (by decide) goodBB (nAB_b f g) (by simp) HB.out.1 (by have := HB.out.2; omega)).mono ?_
  rintro e w7 ⟨e7, st7, B7, c7, ys7, rfl, hG7, hy7, hst7, hw7, hB7, ho7⟩
  have hF7 := H6.out.1.fl.beside H6.out.2.1.fl H6.out.2.1.dk H6.out.2.2 (by intro a b _ h; cases h) ho7
  have hAB7 : ∀ a b, A3 = some a → B7 = some b → a.block ≠ b.block := by
    intro a b ha hb
    rcases hB7 with h | ⟨q, h, h2⟩
    · rw [h] at hb; cases hb
    · rw [h] at hb
      injection hb with hb
      subst hb
      have := H6.out.1.fl.row_lt a ha
      omega
  have H7 := Lib.hid (And.intro hG7 (And.intro hF7 (And.intro hAB7 (And.intro hy7 (And.intro hst7 hw7)))))
  clear hG7 hy7 hst7 hw7 hB7 ho7 hF7 hAB7
  go_wp2_with fail
  refine (st_sync w w7 d bn bs5 (nAB f g) _ st7 g B7 c7 ys7 0 ⟨#[98]⟩ H7.out.1 (by have := H3.out.2.2.1; have := H7.out.2.2.2.2.1; omega) (by decide) goodBB (nAB_b f g)).mono ?_
  rintro e w8 ⟨rfl, hG8, ho8⟩
  have hF8 := H7.out.2.1.beside H7.out.1.fl H7.out.1.dk H6.out.2.2 H7.out.2.2.1 (ho8.mono (fun k _ h => h.imp id .inl))
  have H8 := Lib.hid (And.intro hG8 hF8)
  clear hG8 hF8 ho8
  go_wp2_with fail
  refine (rename_ok d bn bs5 (nAB f g) (nA f) (st7 + 1) (-1) ⟨#[98]⟩ ⟨#[97]⟩ g w8 H8.out.1.dk (goes_no _) H8.out.1.st.1 (by have := H8.out.1.st.2; omega) (by decide) goodBB (by decide) goodA (nAB_b f g) (by show (2 : Nat) < maxLen; decide)).mono ?_
  rintro e w9 ⟨rfl, hD9, ho9⟩
  have hnw := H8.out.1.nw
  have hb9 : Below w.heap.size w w9 := turned_new H8.out.1.bel ho9 (by rintro q (rfl | rfl) <;> omega)
  have H9 := Lib.hid (And.intro (show Dk w9 d bn bs5 (nBA f g) (nA f) (st7 + 1 + 1) (-1) from hD9) (And.intro (H8.out.1.fl.dk H8.out.1.dk ho9) (And.intro (H8.out.2.dk H8.out.1.dk ho9) (And.intro hb9 hnw))))
  clear hD9 ho9 hnw hb9
  go_wp2_with fail
  refine (read_ok d bn bs5 (nBA f g) (nA f) _ (-1) ⟨#[97]⟩ g B7 c7 ys7 _ w9 H9.out.1 (by decide) goodA (nBA_a f g) H9.out.2.1 H7.out.2.2.2.1).mono ?_
  rintro e w10 ⟨A10, c10, rfl, hs10, hb10⟩
  have H10 := Lib.hid (And.intro hs10 (And.intro (H9.out.1.below hb10) (And.intro (H9.out.2.2.1.below hb10) (And.intro (H9.out.2.2.2.1.trans (hb10.mono H9.out.2.2.2.1.size)) H9.out.2.2.2.2))))
  clear hs10 hb10
  by_cases hA : la.length ≤ 50000
  · by_cases hB : lb.length ≤ 50000
    · have d1 : decide ((50000 : Int) < (la.length : Int)) = false := by simp; omega
      have d2 : decide ((50000 : Int) < (lb.length : Int)) = false := by simp; omega
      obtain ⟨rfl, hxs⟩ := H3.out.2.2.2 (by simp; omega)
      obtain ⟨rfl, hys⟩ := H7.out.2.2.2.2.2 (by simp; omega)
      rw [List.nil_append] at hxs hys
      subst hxs hys
      have q1 : (convert 23 9 (.slice A10 ys7.length c10)).run Tryd.prog w10 = .ok (.string (strOfNums ys7)) w10 := conv_bytes _ A10 c10 ys7 H10.out.1
      have q2 : (convert 23 9 (.slice Ab ys7.length cb)).run Tryd.prog w10 = .ok (.string (strOfNums ys7)) w10 := conv_bytes _ Ab cb ys7 (HB.out.1.below H10.out.2.2.2.1)
      obtain ⟨sY, hsY⟩ : ∃ s, strOfNums ys7 = s := ⟨_, rfl⟩
      rw [hsY] at q1 q2
      clear hsY
      go_wp2_with fail
      clear q1 q2
      have hsafe : SafeF w10 (nA f) (fun _ => (xs3, xs3.length)) := by
        intro k hk
        have e : Lit.string k = kA := (one_has kA _ trivial f).1 hk
        refine ⟨f, A3, c3, ?_, H10.out.2.2.1, Nat.le_refl _, H3.out.2.1⟩
        rw [e]
        exact one_at kA trivial f
      refine (crash_any d bn bs5 _ (nA f) _ 0 _ _ w10 H10.out.2.1 hsafe (by show (1 : Nat) < maxLen; decide)).mono ?_
      rintro e w11 ⟨rfl, ⟨bn8, bs8, N8, hD8, hH8, hF8, hbn8, hbs8, hz8⟩, ho8⟩
      have hb8 : Below w.heap.size w w11 := turned_new H10.out.2.2.2.1 ho8 (by rintro q rfl; exact H10.out.2.2.2.2.1)
      have hsz8 : Maps.size N8 = 1 := by
        have h1 : Maps.has N8 kA = true := by rw [hH8]; exact (one_has kA _ trivial f).2 rfl
        have h2 := has_size h1
        have h3 : Maps.size N8 ≤ 1 := hz8
        omega
      obtain ⟨f8, A8, c8, hat8, _, hfl8, _⟩ := hF8 [97] ((one_has kA _ trivial f).2 rfl)
      rw [kept_all] at hfl8
      have H11 := Lib.hid (And.intro hD8 (And.intro hb8 (And.intro hsz8 (And.intro hat8 hfl8))))
      clear hD8 hH8 hF8 hbn8 hbs8 hz8 ho8 hb8 hsz8 hat8 hfl8 hsafe
      go_wp2_with fail
      refine (read_ok d bn8 bs8 N8 N8 0 (-1) ⟨#[97]⟩ f8 A8 c8 _ _ w11 H11.out.1 (by decide) goodA H11.out.2.2.2.1 H11.out.2.2.2.2 H3.out.2.1).mono ?_
      rintro e w12 ⟨A12, c12, rfl, hs12, hb12⟩
      have H12 := Lib.hid (And.intro hs12 (And.intro (H11.out.2.1.trans (hb12.mono H11.out.2.1.size)) (H11.out.1.below hb12)))
      clear hs12 hb12
      go_wp2_with fail
      refine (names_any d bn8 bs8 N8 N8 0 (-1) w12 H12.out.2.2 (by rw [H11.out.2.2.1]; exact Nat.le_refl _) (by rw [H11.out.2.2.1]; decide)).mono ?_
      rintro e w13 ⟨⟨A13, c13, rfl, _⟩, hb13⟩
      have H13 := Lib.hid (And.intro (H12.out.1.below hb13) (H12.out.2.1.trans (hb13.mono H12.out.2.1.size)))
      have hz := H11.out.2.2.1
      rw [hz]
      clear hb13 hz
      have q1 : (convert 23 9 (.slice A12 xs3.length c12)).run Tryd.prog w13 = .ok (.string (strOfNums xs3)) w13 := conv_bytes _ A12 c12 xs3 H13.out.1
      have q2 : (convert 23 9 (.slice Aa xs3.length ca)).run Tryd.prog w13 = .ok (.string (strOfNums xs3)) w13 := conv_bytes _ Aa ca xs3 (HA.out.1.below H13.out.2)
      obtain ⟨sX, hsX⟩ : ∃ s, strOfNums xs3 = s := ⟨_, rfl⟩
      rw [hsX] at q1 q2
      clear hsX
      go_wp2_with fail
      go_ret
      exact ⟨by simp, H13.out.2⟩
    · have d1 : decide ((50000 : Int) < (la.length : Int)) = false := by simp; omega
      have d2 : decide ((50000 : Int) < (lb.length : Int)) = true := by simp; omega
      go_wp2_with fail
      go_ret
      exact ⟨rfl, H10.out.2.2.2.1⟩
  · have d1 : decide ((50000 : Int) < (la.length : Int)) = true := by simp; omega
    go_wp2_with fail
    go_ret
    exact ⟨rfl, H10.out.2.2.2.1⟩
end Go.Proofs.YtphkebalgbnjbaaDoor
