/- package disk: Append, Read, Rename: contracts. -/
import Derived.Test.YtbfmdpgghknccaaDoorDiskSync
import Derived.Test.YtbfmdpgghknccaaDoorDiskClone
namespace Go.Proofs.YtbfmdpgghknccaaDoor
open Go.RowKit Go.Maps
set_option linter.unusedVariables false
set_option linter.unusedSimpArgs false

theorem u8s_one (l : List Int) : ∀ u ∈ u8s l, u.oneCell' = true := by
  intro u hu
  obtain ⟨x, _, rfl⟩ := List.mem_map.1 hu
  rfl
theorem u8s_len (l : List Int) : (u8s l).length = l.length := by simp [u8s]
theorem u8s_append (l m : List Int) : u8s (l ++ m) = u8s l ++ u8s m := by simp [u8s]

set_option maxRecDepth 100000 in
set_option maxHeartbeats 1000000 in
theorem append_full (d bn bs : Nat) (N S : DataW Nat) (steps stop : Int) (s : ByteArray) (f : Nat) (A : Option Addr) (c : Nat) (xs : List Int) (sf : Int) (B : Option Addr) (m k : Nat) (w : World) (hd : Dk w d bn bs N S steps stop) (hgo : Goes steps stop) (hs : s.size ≤ maxLen) (hg : goodB s = true)
    (hat : N.atKey (.string s.data.toList) .nil = ptrD (some f)) (hf : Fl w f A c xs sf) (hx : xs.length ≤ 60000) (hm : m ≤ maxLen) (hfull : 60000 < xs.length + m) :
    Calls Tryd.prog 27 #[.pointer (some ⟨d, 0, none⟩), .string s, .slice B m k] w fun e w' => e = .returned (errV (some 4)) ∧ Below w.heap.size w w' := by
  have HG := Lib.hid (fun w1 h => named_any d bn (.map (some bs)) steps stop N s (some f) w1 h)
  have he : errV (namedE s (some f)) = .nilIface := by unfold namedE; rw [hg]; rfl
  rw [he] at HG
  have HK := Lib.hid (keyS s hs)
  have HD := Lib.hid (And.intro hd hf)
  have HS := Lib.hid (fun w1 h => step_err d (.map (some bn)) (.map (some bs)) steps stop 4 w1 h hgo)
  have HA := Lib.hid (And.intro hat hs)
  have hmi : (m : Int) ≤ 9223372036854775807 := by simp only [maxLen] at hm; omega
  have hxi : (xs.length : Int) ≤ 60000 := by omega
  have hfi : decide ((60000 : Int) - (xs.length : Int) < (m : Int)) = true := by simp; omega
  clear hd hgo hs hg hat hf he hm hx hfull
  go_enter Tryd.func27, Tryd.ntmps27
  go_wp2_with fail
  refine (HG.out _ HD.out.1.blk HD.out.1.nm HA.out.2 HA.out.1).mono ?_
  rintro e w1 ⟨rfl, hb1⟩
  have hD1 := HD.out.1.below hb1
  have hF1 := HD.out.2.below hb1
  have c0 := hD1.c0
  have hn1 := hD1.nm.tight
  have f0 : w1.cell? ⟨f, 0, none⟩ = some (.slice A xs.length c) := hF1.blk.cell 0
  have H1 := Lib.hid (And.intro hb1 hD1)
  clear hb1 hD1 hF1
  have hr1 : (Instr.lookup 78 (.map (some bn)) (.string s) false).run Tryd.prog w1 = .ok (.pointer (some ⟨f, 0, none⟩)) w1 := run_lookup_ptr lawS Tryd.underlying78 (zeroF _) hn1 HK.out (some f) HA.out.1
  clear hn1
  go_wp2_with fail
  refine (HS.out _ H1.out.2.blk).mono ?_
  rintro e w2 ⟨rfl, hb2⟩
  unfold errV
  go_wp2_with fail
  go_ret
  exact ⟨rfl, H1.out.1.trans (hb2.mono H1.out.1.size)⟩

/-- What Append leaves: the file's bytes, and the new ones behind them; in its own row, or a new one. -/
def AppQ (w : World) (d bn bs : Nat) (N S : DataW Nat) (steps stop : Int) (f : Nat) (A : Option Addr) (xs ys : List Int) (sf : Int) (e : Ending) (w' : World) : Prop :=
  e = .returned .nilIface ∧ Dk w' d bn bs N S (steps + 1) stop ∧ (∃ A' c', Fl w' f A' c' (xs ++ ys) sf ∧ (A' = A ∨ ∃ a, A' = some a ∧ w.heap.size ≤ a.block)) ∧ Only (fun k => k = d ∨ k = f ∨ ∃ a, A = some a ∧ k = a.block) w w'

set_option maxRecDepth 100000 in
set_option maxHeartbeats 1000000 in
theorem append_ok (d bn bs : Nat) (N S : DataW Nat) (steps stop : Int) (s : ByteArray) (f : Nat) (A : Option Addr) (c : Nat) (xs : List Int) (sf : Int) (B : Option Addr) (ys : List Int) (k : Nat) (w : World) (hd : Dk w d bn bs N S steps stop) (hgo : Goes steps stop) (h0 : 0 ≤ steps) (hk : steps ≤ 1000000000000) (hs : s.size ≤ maxLen) (hg : goodB s = true)
    (hat : N.atKey (.string s.data.toList) .nil = ptrD (some f)) (hf : Fl w f A c xs sf) (hB : SlAt w B (u8s ys)) (hBd : ys ≠ [] → ∀ a, B = some a → a.block ≠ d) (hfull : xs.length + ys.length ≤ 60000) :
    Calls Tryd.prog 27 #[.pointer (some ⟨d, 0, none⟩), .string s, .slice B ys.length k] w (AppQ w d bn bs N S steps stop f A xs ys sf) := by
  have HG := Lib.hid (fun w1 h => named_any d bn (.map (some bs)) steps stop N s (some f) w1 h)
  have he : errV (namedE s (some f)) = .nilIface := by unfold namedE; rw [hg]; rfl
  rw [he] at HG
  have HK := Lib.hid (keyS s hs)
  have HD := Lib.hid (And.intro hd (And.intro hf (And.intro hB hBd)))
  have HS := Lib.hid (fun w1 h => dkstep_ok d bn bs N S steps stop w1 h hgo h0 hk)
  have HA := Lib.hid (And.intro hat (And.intro hs hfull))
  have hmi : (ys.length : Int) ≤ 60000 := by omega
  have hxi : (xs.length : Int) ≤ 60000 := by omega
  have hfi : decide ((60000 : Int) - (xs.length : Int) < (ys.length : Int)) = false := by simp; omega
  clear hd hgo h0 hk hs hg hat hf he hB hBd hfull
  go_enter Tryd.func27, Tryd.ntmps27
  go_wp2_with fail
  refine (HG.out _ HD.out.1.blk HD.out.1.nm HA.out.2.1 HA.out.1).mono ?_
  rintro e w1 ⟨rfl, hb1⟩
  have hD1 := HD.out.1.below hb1
  have hF1 := HD.out.2.1.below hb1
  have hB1 := HD.out.2.2.1.below hb1
  have c0 := hD1.c0
  have hn1 := hD1.nm.tight
  have f0 : w1.cell? ⟨f, 0, none⟩ = some (.slice A xs.length c) := hF1.blk.cell 0
  have H1 := Lib.hid (And.intro hb1 (And.intro hD1 (And.intro hF1 hB1)))
  clear hb1 hD1 hF1 hB1
  have hr1 : (Instr.lookup 78 (.map (some bn)) (.string s) false).run Tryd.prog w1 = .ok (.pointer (some ⟨f, 0, none⟩)) w1 := run_lookup_ptr lawS Tryd.underlying78 (zeroF _) hn1 HK.out (some f) HA.out.1
  clear hn1
  go_wp2_with fail
  clear c0 f0 hr1
  refine (HS.out _ H1.out.2.1).mono ?_
  rintro e w2 ⟨rfl, hD2, ho2⟩
  have hfd : ¬ f = d := fun e => by subst e; exact absurd (H1.out.2.1.blk.same_type H1.out.2.2.1.blk) (by decide)
  have hF2 := H1.out.2.2.1.only ho2 hfd (H1.out.2.2.1.ne_blk H1.out.2.1.blk (by decide))
  have hB2 : SlAt w2 B (u8s ys) := by
    by_cases hy : ys = []
    · subst hy; exact .inl rfl
    · exact H1.out.2.2.2.only ho2 (fun b off sp hb e => HD.out.2.2.2 hy _ hb e)
  have c0 := hD2.c0
  have hn2 := hD2.nm.tight
  have hlen : (u8s ys).length = ys.length * 1 := by rw [u8s_len, Nat.mul_one]
  obtain ⟨A', c', w3, hrun, hrow, hg3, hA'⟩ := run_append_sl (P := Tryd.prog) w2 40 40 5 Tryd.underlying40 infoU8 rfl (by decide) A xs.length c (u8s xs) hF2.row B ys.length k (u8s ys) hlen hB2 (u8s_one ys) (by have := HA.out.2.2; unfold maxLen; omega) (by have := HA.out.2.2; omega)
  have hrun' : ∀ ty, (Builtin.append_ #[40, 40] ty #[.slice A xs.length c, .slice B ys.length k]).run Tryd.prog w2 = .ok (.slice A' (xs.length + ys.length) c') w3 := fun _ => hrun
  have ho3 : Only (fun k => ∃ a, A = some a ∧ k = a.block) w2 w3 := ⟨hg3.os, hg3.tape, hg3.output, hg3.size, fun k hk hn => hg3.block k hk (fun e => by
    cases A with
    | none => cases e
    | some a => exact hn ⟨a, rfl, Option.some.inj e⟩)⟩
  have hfr : ¬ ∃ a, A = some a ∧ f = a.block := fun ⟨a, ha, e⟩ => hF2.apart a ha e.symm
  have hdr : ¬ ∃ a, A = some a ∧ d = a.block := fun ⟨a, ha, e⟩ => hF2.ne_blk hD2.blk (by decide) a ha e.symm
  have hmr : ∀ b D, MapIs w2 b D → ¬ ∃ a, A = some a ∧ b = a.block := fun b D hm ⟨a, ha, e⟩ => by
    rcases hF2.row.2 with ⟨hv, _⟩ | ⟨g, cap, cur, hv, _, hgg, _⟩
    · injection hv with h1 _ _; rw [ha] at h1; cases h1
    · injection hv with h1 _ _
      rw [ha] at h1
      injection h1 with h1
      subst h1
      exact hm.ne_blk (show Blk w2 g 5 cur from hgg) e
  have hfb3 := hF2.blk.only ho3 hfr
  have hD3 : Dk w3 d bn bs N S (steps + 1) stop := hD2.only ho3 hdr (hmr _ _ hD2.nm) (hmr _ _ hD2.sf)
  have f0 : w2.cell? ⟨f, 0, none⟩ = some (.slice A xs.length c) := hF2.blk.cell 0
  have f3 : w3.cell? ⟨f, 0, none⟩ = some (.slice A xs.length c) := hfb3.cell 0
  have z3 := hfb3.frozen
  have HR := Lib.hid hrun'
  have H3 := Lib.hid (And.intro hD3 (And.intro hfb3 (And.intro hrow (And.intro hA' (And.intro ho2 (And.intro ho3 (And.intro hfd (And.intro hfr hF2))))))))
  clear hD2 ho2 hF2 hB2 hlen hrun hrun' hrow hg3 hA' ho3 hfr hdr hmr hfb3 hD3 hfd
  go_wp2_with (first | (at_lookup; refine wpList_lookup_to _ rfl _ _ 78 rfl 9 93 lawS Tryd.underlying78 (zeroF _) bn _ _ rfl hn2 _ _ rfl HK.out f HA.out.1 ?_) | (at_builtin; refine Lib.wpList_append_run _ rfl _ _ _ _ rfl _ _ rfl rfl _ _ (HR.out _) ?_) | fail)
  clear c0 hn2 f0 f3 z3
  go_ret
  obtain ⟨hD3, hfb3, hrow, hA', ho2, ho3, hfd, hfr, hF2⟩ := H3.out
  have ho4 : Only (fun k => k = f) w3 (w3.setCell ⟨f, 0, none⟩ (.slice A' (xs.length + ys.length) c')) := (Only.refl (fun k => k = f) w3).setCell (p := ⟨f, 0, none⟩) rfl _
  have hA4 : ∀ a, A' = some a → a.block ≠ f := by
    intro a ha
    rcases hA' with ⟨h, _⟩ | h
    · rw [h] at ha
      exact fun e => hfr ⟨a, ha, e.symm⟩
    · rw [h] at ha
      have := hF2.blk.lt
      injection ha with ha
      subst ha
      show w2.heap.size ≠ f
      omega
  have hsz : w.heap.size ≤ w2.heap.size := Nat.le_trans H1.out.1.size ho2.size
  refine ⟨rfl, hD3.only ho4 (fun e => hfd e.symm) (hD3.nm.ne_blk hfb3) (hD3.sf.ne_blk hfb3), ⟨A', c', ⟨?_, ?_⟩, ?_⟩, ?_⟩
  · have := hfb3.set_ 0 (.slice A' (xs.length + ys.length) c')
    rw [List.length_append]
    simpa using this
  · rw [List.length_append, u8s_append]
    refine hrow.kept (row := some f) ⟨rfl, rfl, rfl, ho4.size, fun k hk hn => ho4.block k hk (fun e => hn (by rw [e]))⟩ ?_
    cases hq : A' with
    | none => exact .inl rfl
    | some a => exact .inr (fun e => hA4 a hq (Option.some.inj e))
  · rcases hA' with ⟨h, _⟩ | h
    · exact .inl h
    · exact .inr ⟨_, h, hsz⟩
  · exact (((Only.of_below H1.out.1).trans (ho2.mono (fun k _ h => Or.inl h))).trans (ho3.mono (fun k _ h => Or.inr (Or.inr h)))).trans (ho4.mono (fun k _ h => Or.inr (Or.inl h)))

/-- What Read gives: a copy. -/
def ReadQ (w : World) (xs : List Int) (e : Ending) (w' : World) : Prop :=
  ∃ A c, e = .returned (.tuple #[.slice A xs.length c, .nilIface]) ∧ SlAt w' A (u8s xs) ∧ Below w.heap.size w w'

set_option maxRecDepth 100000 in
set_option maxHeartbeats 1000000 in
theorem read_ok (d bn bs : Nat) (N S : DataW Nat) (steps stop : Int) (s : ByteArray) (f : Nat) (A : Option Addr) (c : Nat) (xs : List Int) (sf : Int) (w : World) (hd : Dk w d bn bs N S steps stop) (hs : s.size ≤ maxLen) (hg : goodB s = true)
    (hat : N.atKey (.string s.data.toList) .nil = ptrD (some f)) (hf : Fl w f A c xs sf) (hx : xs.length ≤ 60000) :
    Calls Tryd.prog 15 #[.pointer (some ⟨d, 0, none⟩), .string s] w (ReadQ w xs) := by
  have HG := Lib.hid (fun w1 h => named_any d bn (.map (some bs)) steps stop N s (some f) w1 h)
  have he : errV (namedE s (some f)) = .nilIface := by unfold namedE; rw [hg]; rfl
  rw [he] at HG
  have HK := Lib.hid (keyS s hs)
  have HD := Lib.hid (And.intro hd hf)
  have HA := Lib.hid (And.intro hat hs)
  have HX := Lib.hid hx
  clear hd hs hg hat hf he hx
  go_enter Tryd.func15, Tryd.ntmps15
  go_wp2_with fail
  refine (HG.out _ HD.out.1.blk HD.out.1.nm HA.out.2 HA.out.1).mono ?_
  rintro e w1 ⟨rfl, hb1⟩
  have hD1 := HD.out.1.below hb1
  have hF1 := HD.out.2.below hb1
  have c0 := hD1.c0
  have hn1 := hD1.nm.tight
  have f0 : w1.cell? ⟨f, 0, none⟩ = some (.slice A xs.length c) := hF1.blk.cell 0
  have H1 := Lib.hid (And.intro hb1 (And.intro hD1 hF1))
  clear hb1 hD1 hF1
  have hr1 : (Instr.lookup 78 (.map (some bn)) (.string s) false).run Tryd.prog w1 = .ok (.pointer (some ⟨f, 0, none⟩)) w1 := run_lookup_ptr lawS Tryd.underlying78 (zeroF _) hn1 HK.out (some f) HA.out.1
  clear hn1
  go_wp2_with fail
  clear c0 f0 hr1
  refine (cloneU8_any A xs.length c (u8s xs) w1 (by rw [u8s_len, Nat.mul_one]) (SlAt.of_owns H1.out.2.2.row) (by have := HX.out; omega) (u8s_one xs)).mono ?_
  rintro e w2 ⟨A', c', rfl, hrow, hb2, hnew⟩
  have H2 := Lib.hid (And.intro hrow hb2)
  clear hrow hb2 hnew
  go_wp2_with fail
  go_ret2
  exact ⟨A', c', rfl, SlAt.of_owns H2.out.1, H1.out.1.trans (H2.out.2.mono H1.out.1.size)⟩

theorem Dk.c0_turned {w w' : World} {d bn bs : Nat} {N S : DataW Nat} {steps stop : Int} (h : Dk w d bn bs N S steps stop) (ht : w.mapTurned w' bn) : w'.cell? ⟨d, 0, none⟩ = some (.map (some bn)) := (h.blk.only (Only.of_grown ht.grown) (fun e => h.nd.1 e.symm)).cell 0

set_option maxRecDepth 100000 in
set_option maxHeartbeats 1000000 in
theorem rename_ok (d bn bs : Nat) (N S : DataW Nat) (steps stop : Int) (s u : ByteArray) (f : Nat) (w : World) (hd : Dk w d bn bs N S steps stop) (hgo : Goes steps stop) (h0 : 0 ≤ steps) (hk : steps ≤ 1000000000000) (hs : s.size ≤ maxLen) (hg : goodB s = true) (hu : u.size ≤ maxLen) (hgu : goodB u = true)
    (hat : N.atKey (.string s.data.toList) .nil = ptrD (some f)) (hsz : Maps.size N < maxLen) :
    Calls Tryd.prog 30 #[.pointer (some ⟨d, 0, none⟩), .string s, .string u] w fun e w' => e = .returned .nilIface ∧ Dk w' d bn bs ((N.del (.string s.data.toList)).put (.string u.data.toList) (.held f)) S (steps + 1) stop ∧ Only (fun k => k = d ∨ k = bn) w w' := by
  have HG := Lib.hid (fun w1 h => named_any d bn (.map (some bs)) steps stop N s (some f) w1 h)
  have he : errV (namedE s (some f)) = .nilIface := by unfold namedE; rw [hg]; rfl
  rw [he] at HG
  have HU := Lib.hid (fun w1 => good_any u w1 (Nat.le_trans hu (by decide)))
  rw [hgu] at HU
  have HK := Lib.hid (And.intro (keyS s hs) (keyS u hu))
  have HD := Lib.hid hd
  have HS := Lib.hid (fun w1 h => dkstep_ok d bn bs N S steps stop w1 h hgo h0 hk)
  have HA := Lib.hid (And.intro hat (And.intro hs hsz))
  clear hd hgo h0 hk hs hg hu hgu hat hsz he
  go_enter Tryd.func30, Tryd.ntmps30
  go_wp2_with fail
  refine (HG.out _ HD.out.blk HD.out.nm HA.out.2.1 HA.out.1).mono ?_
  rintro e w1 ⟨rfl, hb1⟩
  have H1 := Lib.hid (And.intro hb1 (HD.out.below hb1))
  clear hb1
  go_wp2_with fail
  refine (HU.out _).mono ?_
  rintro e w2 ⟨rfl, hb2⟩
  have H2 := Lib.hid (And.intro (H1.out.1.trans (hb2.mono H1.out.1.size)) (H1.out.2.below hb2))
  clear hb2
  go_wp2_with fail
  refine (HS.out _ H2.out.2).mono ?_
  rintro e w3 ⟨rfl, hD3, ho3⟩
  have c0 := hD3.c0
  have hn3 := hD3.nm.tight
  have H3 := Lib.hid (And.intro hD3 ho3)
  clear hD3 ho3
  go_wp2_with (first | (at_lookup; refine wpList_lookup_to _ rfl _ _ 78 rfl 9 93 lawS Tryd.underlying78 (zeroF _) bn _ _ rfl hn3 _ _ rfl HK.out.1 f HA.out.1 ?_) | (at_delete; refine wpList_delete_own _ rfl _ _ 78 9 rfl 93 lawS Tryd.underlying78 ptrElem bn _ _ rfl hn3 _ _ rfl HK.out.1 ?_; intro w4 hn4 ht4; have c4 := H3.out.1.c0_turned ht4) | (at_mapUpdate; refine wpList_update_ptr _ rfl _ _ _ 78 rfl 9 93 lawS Tryd.underlying78 bn _ _ rfl hn4 HA.out.2.2 _ _ rfl HK.out.2 (some f) rfl ?_; intro w5 hn5 hg5 hs5) | fail)
  clear c0 c4 hn3
  go_ret
  obtain ⟨hD3, ho3⟩ := H3.out
  have ho5 : Only (fun k => k = bn) w3 w5 := (Only.of_grown ht4.grown).trans (Only.of_grown hg5)
  refine ⟨rfl, ⟨hD3.blk.only ho5 (fun e => hD3.nd.1 e.symm), ⟨_, hn5⟩, hD3.sf.only ho5 (fun e => hD3.ne e.symm), hD3.ne⟩, ?_⟩
  exact ((Only.of_below H2.out.1).trans (ho3.mono (fun k _ h => Or.inl h))).trans (ho5.mono (fun k _ h => Or.inr h))
end Go.Proofs.YtbfmdpgghknccaaDoor
