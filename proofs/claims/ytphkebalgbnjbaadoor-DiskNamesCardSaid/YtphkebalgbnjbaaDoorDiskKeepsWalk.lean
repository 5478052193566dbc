/- booklaw3.DiskKeeps: the walk. -/
import Derived.Test.YtphkebalgbnjbaaDoorDiskSt
namespace Go.Proofs.YtphkebalgbnjbaaDoor
open Go.RowKit Go.Maps
set_option linter.unusedVariables false
set_option linter.unusedSimpArgs false

def kA : Lit := .string [97]
def kB : Lit := .string [98]
def nA (f : Nat) : DataW Nat := (DataW.map []).put kA (.held f)

set_option maxRecDepth 100000 in
set_option maxHeartbeats 4000000 in
theorem diskKeeps_walk (w : World) (va : Value) (la : List Int) (ha : IsBytes w va la) (vb : Value) (lb : List Int) (hb : IsBytes w vb lb) (keep : Int) (hk : (Lit.int .i64 keep).wf = true) :
    Calls Tryd.prog 4 #[va, vb, .int .i64 keep] w fun e w' => e = .returned (.bool true) ∧ Below w.heap.size w w' := by
  obtain ⟨Aa, ca, rfl, hSa, hra, hca, hcam⟩ := ha
  obtain ⟨Ab, cb, rfl, hSb, hrb, hcb, hcbm⟩ := hb
  have HA := Lib.hid (And.intro hSa (And.intro hca hcam))
  have HB := Lib.hid (And.intro hSb (And.intro hcb hcbm))
  have hami : (la.length : Int) ≤ 9223372036854775807 := by simp only [maxLen] at hcam; omega
  have hbmi : (lb.length : Int) ≤ 9223372036854775807 := by simp only [maxLen] at hcbm; omega
  clear hk hSa hra hca hcam hSb hrb hcb hcbm
  go_enter Tryd.func4, Tryd.ntmps4
  go_wp2_with fail
  refine (new_some w).mono ?_
  rintro e w1 ⟨d, bn, bs, rfl, hD1, hb1, hd0, hn0, hs0⟩
  have H1 := Lib.hid (And.intro hD1 (And.intro hb1 (And.intro hd0 hn0)))
  clear hD1 hb1 hd0 hn0 hs0
  go_wp2_with fail
  refine (st_create w w1 d bn bs _ _ 0 ⟨#[97]⟩ H1.out.1 H1.out.2.1 H1.out.2.2 (by omega) (by decide) goodA rfl (by decide)).mono ?_
  rintro e w2 ⟨rfl, f, hS2, _⟩
  have H2 := Lib.hid (show StA w w2 d bn bs (nA f) (.map []) 1 f none 0 [] 0 from hS2)
  clear hS2
  go_wp2_with fail
  refine (st_append w w2 d bn bs (nA f) _ 1 f none 0 [] 0 ⟨#[97]⟩ Aa la ca H2.out (by omega) (by decide) goodA (one_at kA trivial f) (by simp) HA.out.1 (by have := HA.out.2; omega)).mono ?_
  rintro e w3 ⟨e2, st3, A3, c3, xs3, rfl, hS3, hx3, hst3, hw3, _, _⟩
  have H3 := Lib.hid (And.intro hS3 (And.intro hx3 (And.intro hst3 hw3)))
  clear hS3 hx3 hst3 hw3
  go_wp2_with fail
  refine (st_sync w w3 d bn bs (nA f) _ st3 f A3 c3 xs3 0 ⟨#[97]⟩ H3.out.1 (by have := H3.out.2.2.1; omega) (by decide) goodA (one_at kA trivial f)).mono ?_
  rintro e w4 ⟨rfl, hS4, _⟩
  have H4 := Lib.hid hS4
  clear hS4
  go_wp2_with fail
  refine (st_names w w4 d bn bs (nA f) _ (st3 + 1) f A3 c3 xs3 xs3.length H4.out (by have := H3.out.2.2.1; omega) (by show (1 : Nat) < maxLen; decide)).mono ?_
  rintro e w5 ⟨rfl, bs5, hS5⟩
  have H5 := Lib.hid hS5
  clear hS5
  by_cases hA : la.length ≤ 30000
  · by_cases hB : lb.length ≤ 30000
    · have d1 : decide ((30000 : Int) < (la.length : Int)) = false := by simp; omega
      have d2 : decide ((30000 : Int) < (lb.length : Int)) = false := by simp; omega
      obtain ⟨rfl, hxs⟩ := H3.out.2.2.2 (by simp; omega)
      rw [List.nil_append] at hxs
      subst hxs
      go_wp2_with fail
      refine (st_append w w5 d bn bs5 (nA f) _ (st3 + 1 + 1) f A3 c3 xs3 xs3.length ⟨#[97]⟩ Ab lb cb H5.out (by have := H3.out.2.2.1; omega) (by decide) goodA (one_at kA trivial f) (by omega) HB.out.1 (by have := HB.out.2; omega)).mono ?_
      rintro e w6 ⟨e5, st6, A6, c6, xs6, rfl, hS6, hx6, hst6, hw6, _, _⟩
      obtain ⟨rfl, rfl⟩ := hw6 (by omega)
      have H6 := Lib.hid (And.intro hS6 (And.intro hst6 hx6))
      clear hS6 hx6 hst6 hw6
      go_wp2_with fail
      refine (st_other w w6 d bn bs5 (nA f) _ st6 f A6 c6 _ _ ⟨#[98]⟩ H6.out.1 (by have := H6.out.2.1; have := H3.out.2.2.1; omega) (by decide) goodBB (one_other kA kB (by intro e; injection e with e; injection e with e; cases e) f) (by show (1 : Nat) < maxLen; decide)).mono ?_
      rintro e w7 ⟨rfl, g, hS7, _, _⟩
      have H7 := Lib.hid hS7
      clear hS7
      go_wp2_with fail
      have hsafe : SafeF w7 (nA f) (fun _ => (xs3 ++ lb, xs3.length)) := by
        intro k hk
        have e : Lit.string k = kA := (one_has kA _ trivial f).1 hk
        refine ⟨f, A6, c6, ?_, H7.out.fl, by simp, by rw [List.length_append]; omega⟩
        rw [e]
        exact one_at kA trivial f
      refine (crash_any d bn bs5 _ (nA f) _ keep _ _ w7 H7.out.dk hsafe (by show (1 : Nat) < maxLen; decide)).mono ?_
      rintro e w8 ⟨rfl, ⟨bn8, bs8, N8, hD8, hH8, hF8, hbn8, hbs8, hz8⟩, ho8⟩
      have hb8 : Below w.heap.size w w8 := turned_new H7.out.bel ho8 (by rintro q rfl; exact H7.out.nw.1)
      have hsz8 : Maps.size N8 = 1 := by
        have h1 : Maps.has N8 kA = true := by rw [hH8]; exact (one_has kA _ trivial f).2 rfl
        have h2 := has_size h1
        have h3 : Maps.size N8 ≤ 1 := hz8
        omega
      obtain ⟨f8, A8, c8, hat8, _, hfl8, _⟩ := hF8 [97] ((one_has kA _ trivial f).2 rfl)
      rw [kept_is] at hfl8
      obtain ⟨ys, hys⟩ : ∃ ys, xs3 ++ lb.take (min keep.toNat lb.length) = ys := ⟨_, rfl⟩
      rw [hys] at hfl8
      have hyl : ys.length ≤ 60000 := by rw [← hys, List.length_append, List.length_take]; omega
      have HY := Lib.hid hys.symm
      clear hys
      have H8 := Lib.hid (And.intro hD8 (And.intro hb8 (And.intro hsz8 (And.intro hat8 hfl8))))
      clear hD8 hH8 hF8 hbn8 hbs8 hz8 ho8 hb8 hsz8 hat8 hfl8 hsafe
      go_wp2_with fail
      refine (read_ok d bn8 bs8 N8 N8 0 (-1) ⟨#[97]⟩ f8 A8 c8 _ _ w8 H8.out.1 (by decide) goodA H8.out.2.2.2.1 H8.out.2.2.2.2 hyl).mono ?_
      rintro e w9 ⟨A9, c9, rfl, hs9, hb9⟩
      have H9 := Lib.hid (And.intro hs9 (And.intro (H8.out.2.1.trans (hb9.mono H8.out.2.1.size)) (H8.out.1.below hb9)))
      clear hs9 hb9
      go_wp2_with fail
      refine (names_any d bn8 bs8 N8 N8 0 (-1) w9 H9.out.2.2 (by rw [H8.out.2.2.1]; exact Nat.le_refl _) (by rw [H8.out.2.2.1]; decide)).mono ?_
      rintro e w10 ⟨⟨A10, c10, rfl, _⟩, hb10⟩
      have hs10 := H9.out.1.below hb10
      have H10 := Lib.hid (And.intro hs10 (H9.out.2.1.trans (hb10.mono H9.out.2.1.size)))
      have hz := H8.out.2.2.1
      rw [hz]
      clear hs10 hb10 hz
      have hbc := HB.out.2.1
      have hcm := HB.out.2.2
      by_cases k0 : keep < 0
      · have hmc : 0 ≤ cb := Nat.zero_le _
        have hmk : min keep.toNat lb.length = 0 := by omega
        have k1 : ¬ (lb.length : Int) < 0 := by omega
        have q3 : ∀ W, (Instr.slice 23 (.slice Ab lb.length cb) none (some (.int .i64 0)) none).run Tryd.prog W = .ok (.slice Ab (0) cb) W := fun W => run_slice_to W Ab lb.length cb (0) hmc
        have hQ1 : ∀ n, (convert 23 9 (.slice A9 ys.length c9)).run Tryd.prog (w10.drewN n) = .ok (.string (strOfNums ys)) (w10.drewN n) := fun n => conv_bytes _ A9 c9 ys (H10.out.1.drewN n)
        have hQ2 : ∀ n, (convert 23 9 (.slice Aa xs3.length ca)).run Tryd.prog (w10.drewN n) = .ok (.string (strOfNums xs3)) (w10.drewN n) := fun n => conv_bytes _ Aa ca xs3 ((HA.out.1.below H10.out.2).drewN n)
        have hQ4 : ∀ n, (convert 23 9 (.slice Ab (0) cb)).run Tryd.prog (w10.drewN n) = .ok (.string (strOfNums (lb.take (0)))) (w10.drewN n) := fun n => by
          have hl : (lb.take (0)).length = 0 := by rw [List.length_take]; omega
          have := conv_bytes (w10.drewN n) Ab cb (lb.take (0)) (by
            refine SlAt.drewN ?_ n
            have hS := HB.out.1.below H10.out.2
            rcases hS with h0 | ⟨b, off, hA, hc⟩
            · have : lb = [] := by simpa [u8s] using h0
              subst this
              exact .inl (by simp [u8s])
            · refine .inr ⟨b, off, hA, fun j u hu => hc j u ?_⟩
              simp only [u8s, List.map_take] at hu ⊢
              rw [List.getElem?_take] at hu
              split at hu
              · exact hu
              · cases hu)
          rwa [hl] at this
        have hE : strOfNums ys = strOfNums xs3 ++ strOfNums (lb.take (0)) := by rw [← strOfNums_append, HY.out, hmk]
        have hadd : ¬ 9223372036854775807 < (strOfNums xs3).size + (strOfNums (lb.take (0))).size := by rw [strOfNums_size, strOfNums_size, List.length_take]; omega
        obtain ⟨sA, hsA⟩ : ∃ s, strOfNums xs3 = s := ⟨_, rfl⟩
        obtain ⟨sB, hsB⟩ : ∃ s, strOfNums (lb.take (0)) = s := ⟨_, rfl⟩
        obtain ⟨sY, hsY⟩ : ∃ s, strOfNums ys = s := ⟨_, rfl⟩
        rw [hsA] at hQ2 hE hadd
        rw [hsB] at hQ4 hE hadd
        rw [hsY] at hQ1 hE
        have HE := Lib.hid hE
        clear hE hmk hsA hsB hsY
        go_wp2_with fail
        go_quiet ((fail))
        go_wp2_with fail
        go_ret
        refine ⟨?_, belowN H10.out.2 _⟩
        have e := HE.out
        subst e
        simp
      · by_cases k2 : (lb.length : Int) < keep
        · have hmc : lb.length ≤ cb := hbc
          have hmk : min keep.toNat lb.length = lb.length := by omega
          have k1 : ¬ keep < 0 := k0
          have q3 : ∀ W, (Instr.slice 23 (.slice Ab lb.length cb) none (some (.int .i64 (lb.length : Nat))) none).run Tryd.prog W = .ok (.slice Ab (lb.length) cb) W := fun W => run_slice_to W Ab lb.length cb (lb.length) hmc
          have hQ1 : ∀ n, (convert 23 9 (.slice A9 ys.length c9)).run Tryd.prog (w10.drewN n) = .ok (.string (strOfNums ys)) (w10.drewN n) := fun n => conv_bytes _ A9 c9 ys (H10.out.1.drewN n)
          have hQ2 : ∀ n, (convert 23 9 (.slice Aa xs3.length ca)).run Tryd.prog (w10.drewN n) = .ok (.string (strOfNums xs3)) (w10.drewN n) := fun n => conv_bytes _ Aa ca xs3 ((HA.out.1.below H10.out.2).drewN n)
          have hQ4 : ∀ n, (convert 23 9 (.slice Ab (lb.length) cb)).run Tryd.prog (w10.drewN n) = .ok (.string (strOfNums (lb.take (lb.length)))) (w10.drewN n) := fun n => by
            have hl : (lb.take (lb.length)).length = lb.length := by rw [List.length_take]; omega
            have := conv_bytes (w10.drewN n) Ab cb (lb.take (lb.length)) (by
              refine SlAt.drewN ?_ n
              have hS := HB.out.1.below H10.out.2
              rcases hS with h0 | ⟨b, off, hA, hc⟩
              · have : lb = [] := by simpa [u8s] using h0
                subst this
                exact .inl (by simp [u8s])
              · refine .inr ⟨b, off, hA, fun j u hu => hc j u ?_⟩
                simp only [u8s, List.map_take] at hu ⊢
                rw [List.getElem?_take] at hu
                split at hu
                · exact hu
                · cases hu)
            rwa [hl] at this
          have hE : strOfNums ys = strOfNums xs3 ++ strOfNums (lb.take (lb.length)) := by rw [← strOfNums_append, HY.out, hmk]
          have hadd : ¬ 9223372036854775807 < (strOfNums xs3).size + (strOfNums (lb.take (lb.length))).size := by rw [strOfNums_size, strOfNums_size, List.length_take]; omega
          obtain ⟨sA, hsA⟩ : ∃ s, strOfNums xs3 = s := ⟨_, rfl⟩
          obtain ⟨sB, hsB⟩ : ∃ s, strOfNums (lb.take (lb.length)) = s := ⟨_, rfl⟩
          obtain ⟨sY, hsY⟩ : ∃ s, strOfNums ys = s := ⟨_, rfl⟩
          rw [hsA] at hQ2 hE hadd
          rw [hsB] at hQ4 hE hadd
          rw [hsY] at hQ1 hE
          have HE := Lib.hid hE
          clear hE hmk hsA hsB hsY
          go_wp2_with fail
          go_quiet ((fail))
          go_wp2_with fail
          go_ret
          refine ⟨?_, belowN H10.out.2 _⟩
          have e := HE.out
          subst e
          simp
        · obtain ⟨m, rfl⟩ : ∃ m : Nat, keep = m := ⟨keep.toNat, by omega⟩
          have hmc : m ≤ cb := by omega
          have hmk : min (m : Int).toNat lb.length = m := by omega
          have q3 : ∀ W, (Instr.slice 23 (.slice Ab lb.length cb) none (some (.int .i64 (m : Nat))) none).run Tryd.prog W = .ok (.slice Ab (m) cb) W := fun W => run_slice_to W Ab lb.length cb (m) hmc
          have hQ1 : ∀ n, (convert 23 9 (.slice A9 ys.length c9)).run Tryd.prog (w10.drewN n) = .ok (.string (strOfNums ys)) (w10.drewN n) := fun n => conv_bytes _ A9 c9 ys (H10.out.1.drewN n)
          have hQ2 : ∀ n, (convert 23 9 (.slice Aa xs3.length ca)).run Tryd.prog (w10.drewN n) = .ok (.string (strOfNums xs3)) (w10.drewN n) := fun n => conv_bytes _ Aa ca xs3 ((HA.out.1.below H10.out.2).drewN n)
          have hQ4 : ∀ n, (convert 23 9 (.slice Ab (m) cb)).run Tryd.prog (w10.drewN n) = .ok (.string (strOfNums (lb.take (m)))) (w10.drewN n) := fun n => by
            have hl : (lb.take (m)).length = m := by rw [List.length_take]; omega
            have := conv_bytes (w10.drewN n) Ab cb (lb.take (m)) (by
              refine SlAt.drewN ?_ n
              have hS := HB.out.1.below H10.out.2
              rcases hS with h0 | ⟨b, off, hA, hc⟩
              · have : lb = [] := by simpa [u8s] using h0
                subst this
                exact .inl (by simp [u8s])
              · refine .inr ⟨b, off, hA, fun j u hu => hc j u ?_⟩
                simp only [u8s, List.map_take] at hu ⊢
                rw [List.getElem?_take] at hu
                split at hu
                · exact hu
                · cases hu)
            rwa [hl] at this
          have hE : strOfNums ys = strOfNums xs3 ++ strOfNums (lb.take (m)) := by rw [← strOfNums_append, HY.out, hmk]
          have hadd : ¬ 9223372036854775807 < (strOfNums xs3).size + (strOfNums (lb.take (m))).size := by rw [strOfNums_size, strOfNums_size, List.length_take]; omega
          obtain ⟨sA, hsA⟩ : ∃ s, strOfNums xs3 = s := ⟨_, rfl⟩
          obtain ⟨sB, hsB⟩ : ∃ s, strOfNums (lb.take (m)) = s := ⟨_, rfl⟩
          obtain ⟨sY, hsY⟩ : ∃ s, strOfNums ys = s := ⟨_, rfl⟩
          rw [hsA] at hQ2 hE hadd
          rw [hsB] at hQ4 hE hadd
          rw [hsY] at hQ1 hE
          have HE := Lib.hid hE
          clear hE hmk hsA hsB hsY
          go_wp2_with fail
          go_quiet ((fail))
          go_wp2_with fail
          go_ret
          refine ⟨?_, belowN H10.out.2 _⟩
          have e := HE.out
          subst e
          simp
    · have d1 : decide ((30000 : Int) < (la.length : Int)) = false := by simp; omega
      have d2 : decide ((30000 : Int) < (lb.length : Int)) = true := by simp; omega
      go_wp2_with fail
      go_ret
      exact ⟨rfl, H5.out.bel⟩
  · have d1 : decide ((30000 : Int) < (la.length : Int)) = true := by simp; omega
    go_wp2_with fail
    go_ret
    exact ⟨rfl, H5.out.bel⟩
end Go.Proofs.YtphkebalgbnjbaaDoor
