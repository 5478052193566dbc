/- package disk: Crash: a contract. -/
import Derived.Test.YtbfmdpgghknccaaDoorDiskCrash
import Derived.Deep.RegionHeld3
namespace Go.Proofs.YtbfmdpgghknccaaDoor
open Go.RowKit Go.Maps
set_option linter.unusedVariables false
set_option linter.unusedSimpArgs false

/-- How many bytes behind the safe ones are kept; which bytes. -/
def moreN (keep : Int) (n sf : Nat) : Nat := min keep.toNat (n - sf)
def kept (keep : Int) (F : List Int × Nat) : List Int := F.1.take (F.2 + moreN keep F.1.length F.2)
/-- What stands at each name after a crash: files apart from each other, all new since B. -/
def AtAll (B : Nat) (w : World) (D : DataW Nat) (Y : List UInt8 → List Int) (fo : List UInt8 → Nat) (Ao : List UInt8 → Option Addr) (co : List UInt8 → Nat) : Prop :=
  (∀ k, Maps.has D (.string k) = true → D.atKey (.string k) .nil = ptrD (some (fo k)) ∧ B ≤ fo k ∧ Fl w (fo k) (Ao k) (co k) (Y k) (Y k).length ∧ ∀ a, Ao k = some a → B ≤ a.block) ∧
  ∀ k l, Maps.has D (.string k) = true → Maps.has D (.string l) = true → k ≠ l → fo k ≠ fo l ∧ ∀ a b, Ao k = some a → Ao l = some b → a.block ≠ b.block
/-- What a safe name must lead to. -/
def SafeF (w : World) (S : DataW Nat) (F : List UInt8 → List Int × Nat) : Prop :=
  ∀ k, Maps.has S (.string k) = true → ∃ f A c, S.atKey (.string k) .nil = ptrD (some f) ∧ Fl w f A c (F k).1 (F k).2 ∧ (F k).2 ≤ (F k).1.length ∧ (F k).1.length ≤ 60000
theorem Fl.room {w : World} {f : Nat} {A : Option Addr} {c : Nat} {xs : List Int} {safe : Int} (h : Fl w f A c xs safe) : xs.length ≤ c ∧ c ≤ maxLen := by
  rcases h.row.2 with ⟨hv, h0⟩ | ⟨g, cap, cur, hv, _, _, hn, hm, _⟩
  · injection hv with _ _ hc
    subst hc
    exact ⟨by omega, Nat.zero_le _⟩
  · injection hv with _ _ hc
    subst hc
    exact ⟨hn, hm⟩
theorem min_is (keep : Int) (n sf : Nat) (h : sf ≤ n) : min (max 0 keep) ((n : Int) - (sf : Int)) = ((moreN keep n sf : Nat) : Int) := by
  unfold moreN
  omega
theorem run_slice_to (W : World) (A : Option Addr) (n c h : Nat) (hh : h ≤ c) : (Instr.slice 40 (.slice A n c) none (some (.int .i64 (h : Int))) none).run Tryd.prog W = .ok (.slice A h c) W := by
  have hs : ∀ w, (Go.sizeOf 5).run Tryd.prog w = .ok 1 w := by intro w; kernel_rfl
  have he : Tryd.prog.elem 40 = 5 := by simp [Program.elem, Tryd.underlying40]
  rw [run_slice_h W 40 A n c (by rw [he]; exact Tryd.underlying40) .i64 h (by omega) (by omega), he, hs]
  cases A with
  | none => simp [Result.andThen, sliced]
  | some a => simp [Result.andThen, sliced, Addr.add]
theorem SafeF.only {w w' : World} {S : DataW Nat} {F : List UInt8 → List Int × Nat} (h : SafeF w S F) {X : Nat → Prop} (ho : Only X w w') (hX : ∀ f A c xs sf, Fl w f A c xs sf → ¬ X f ∧ ∀ a, A = some a → ¬ X a.block) : SafeF w' S F := by
  intro k hk
  obtain ⟨f, A, c, h1, h2, h3⟩ := h k hk
  exact ⟨f, A, c, h1, h2.only ho (hX f A c _ _ h2).1 (hX f A c _ _ h2).2, h3⟩

theorem has_step {Dout S : DataW Nat} {left : Lit → Bool} {kl : Lit} (d : DataW Nat) (hm : IsMap Dout) (hk : WideAt.IsKeyLit kl) (hS : Maps.has S kl = true) (hH : ∀ k, Maps.has Dout k = (Maps.has S k && !left k)) :
    ∀ k, Maps.has (Dout.put kl d) k = (Maps.has S k && !(left k && !k.sameKey kl)) := by
  intro k
  by_cases e : k = kl
  · subst e
    rw [has_put_same hm hk, hS, WideAt.sameKey_self hk]
    simp
  · rw [has_put_other e, hH k, sameKey_ne e]
    simp
theorem Fl.cellsf {w : World} {f : Nat} {A : Option Addr} {c : Nat} {xs : List Int} {safe : Int} (h : Fl w f A c xs safe) : ∀ g, (g = f ∨ ∃ a, A = some a ∧ g = a.block) → ∃ cur e, w.heap[g]? = some (.cells cur e (0, 0)) := by
  rintro g (rfl | ⟨a, ha, rfl⟩)
  · exact ⟨_, _, h.blk⟩
  · rcases h.row.2 with ⟨hv, _⟩ | ⟨g, cap, cur, hv, _, hgg, _⟩
    · injection hv with h1 _ _; rw [ha] at h1; cases h1
    · injection hv with h1 _ _
      rw [ha] at h1
      injection h1 with h1
      subst h1
      exact ⟨cur, _, hgg⟩
theorem AtAll.only {B : Nat} {w w' : World} {D : DataW Nat} {Y : List UInt8 → List Int} {fo : List UInt8 → Nat} {Ao : List UInt8 → Option Addr} {co : List UInt8 → Nat} (h : AtAll B w D Y fo Ao co) {X : Nat → Prop} (ho : Only X w w') (hX : ∀ g cur e, w.heap[g]? = some (.cells cur e (0, 0)) → ¬ X g) : AtAll B w' D Y fo Ao co := by
  refine ⟨fun k hk => ?_, h.2⟩
  obtain ⟨h1, h2, h3, h4⟩ := h.1 k hk
  refine ⟨h1, h2, h3.only ho ?_ ?_, h4⟩
  · obtain ⟨cur, e, hg⟩ := h3.cellsf _ (.inl rfl)
    exact hX _ _ _ hg
  · intro a ha
    obtain ⟨cur, e, hg⟩ := h3.cellsf a.block (.inr ⟨a, ha, rfl⟩)
    exact hX _ _ _ hg
theorem AtAll.low {B : Nat} {w w' : World} {D : DataW Nat} {Y : List UInt8 → List Int} {fo : List UInt8 → Nat} {Ao : List UInt8 → Option Addr} {co : List UInt8 → Nat} (h : AtAll B w D Y fo Ao co) {X : Nat → Prop} (ho : Only X w w') (hX : ∀ g, B ≤ g → ¬ X g) : AtAll B w' D Y fo Ao co := by
  refine ⟨fun k hk => ?_, h.2⟩
  obtain ⟨h1, h2, h3, h4⟩ := h.1 k hk
  exact ⟨h1, h2, h3.only ho (hX _ h2) (fun a ha => hX _ (h4 a ha)), h4⟩
theorem AtAll.at {B : Nat} {w : World} {D : DataW Nat} {Y : List UInt8 → List Int} {fo : List UInt8 → Nat} {Ao : List UInt8 → Option Addr} {co : List UInt8 → Nat} (h : AtAll B w D Y fo Ao co) (k : List UInt8) (hk : Maps.has D (.string k) = true) (ys : List Int) (hy : Y k = ys) :
    ∃ f A c, D.atKey (.string k) .nil = ptrD (some f) ∧ B ≤ f ∧ Fl w f A c ys ys.length ∧ ∀ a, A = some a → B ≤ a.block := by
  subst hy
  exact ⟨_, _, _, h.1 k hk⟩
/-- One name more, its file behind all that were there. -/
theorem AtAll.put {B M : Nat} {w w' : World} {D : DataW Nat} {Y : List UInt8 → List Int} {fo : List UInt8 → Nat} {Ao : List UInt8 → Option Addr} {co : List UInt8 → Nat} (h : AtAll B w D Y fo Ao co) {X : Nat → Prop} (ho : Only X w w') (hX : ∀ g cur e, w.heap[g]? = some (.cells cur e (0, 0)) → ¬ X g)
    (hm : IsMap D) (s : List UInt8) (f : Nat) (A : Option Addr) (c : Nat) (hM : w.heap.size = M) (hBM : B ≤ M) (hf : M ≤ f) (hA : ∀ a, A = some a → M ≤ a.block) (hfl : Fl w' f A c (Y s) (Y s).length) (hnew : Maps.has D (.string s) = false) :
    AtAll B w' (D.put (.string s) (ptrD (some f))) Y (fun k => if k = s then f else fo k) (fun k => if k = s then A else Ao k) (fun k => if k = s then c else co k) := by
  have h' := h.only ho hX
  have hold : ∀ k, Maps.has D (.string k) = true → fo k < M ∧ ∀ a, Ao k = some a → a.block < M := by
    intro k hk
    obtain ⟨_, _, h3, _⟩ := h.1 k hk
    refine ⟨by rw [← hM]; exact h3.blk.lt, fun a ha => ?_⟩
    obtain ⟨cur, e, hg⟩ := h3.cellsf a.block (.inr ⟨a, ha, rfl⟩)
    rw [← hM]
    exact (Array.getElem?_eq_some_iff.1 hg).1
  have hput : ∀ k, k ≠ s → Maps.has (D.put (.string s) (ptrD (some f))) (.string k) = Maps.has D (.string k) := fun k hk => has_put_other (by intro e; injection e with e; exact hk e) _
  refine ⟨fun k hk => ?_, fun k l hk hl hne => ?_⟩
  · by_cases e : k = s
    · subst e
      simp only [if_pos]
      exact ⟨atKey_put_same hm (k := .string k) trivial _ _, by omega, hfl, fun a ha => by have := hA a ha; omega⟩
    · simp only [if_neg e]
      rw [hput k e] at hk
      rw [atKey_put_other (by intro e2; injection e2 with e2; exact e e2)]
      exact h'.1 k hk
  · by_cases e : k = s
    · have e2 : l ≠ s := fun e3 => hne (e.trans e3.symm)
      simp only [if_pos e, if_neg e2]
      rw [hput l e2] at hl
      obtain ⟨g1, g2⟩ := hold l hl
      exact ⟨by omega, fun a b ha hb => by have := hA a ha; have := g2 b hb; omega⟩
    · by_cases e2 : l = s
      · simp only [if_neg e, if_pos e2]
        rw [hput k e] at hk
        obtain ⟨g1, g2⟩ := hold k hk
        exact ⟨by omega, fun a b ha hb => by have := g2 a ha; have := hA b hb; omega⟩
      · simp only [if_neg e, if_neg e2]
        rw [hput k e] at hk
        rw [hput l e2] at hl
        exact h.2 k l hk hl hne
theorem ranges_iter {w : World} {b r n cnt : Nat} {D : DataW Nat} {left : Lit → Bool} (h : w.ranges Tryd.prog 9 ptrElem b r n D left cnt) : ∀ cur e, w.heap[r]? ≠ some (.cells cur e (0, 0)) := by
  obtain ⟨_, _, _, _, _, _, _, _, _, hit, _⟩ := h
  intro cur e hh
  rw [hit] at hh
  cases hh
theorem owns_map {w : World} {b n : Nat} {D : DataW Nat} (h : w.ownsMap Tryd.prog 9 ptrElem b n D) : ∀ cur e, w.heap[b]? ≠ some (.cells cur e (0, 0)) := by
  obtain ⟨_, _, hit, _⟩ := h
  intro cur e hh
  rw [hit] at hh
  cases hh

structure CrashAt (w0 : World) (d b' bs r : Nat) (S : DataW Nat) (F : List UInt8 → List Int × Nat) (keep steps stop : Int) (w : World) (cnt : Nat) : Prop where
  blk : Blk w d 80 #[.map (some b'), .map (some bs), .int .i64 steps, .int .i64 stop]
  le : cnt ≤ Maps.size S
  go : ∃ (left : Lit → Bool) (Dout : DataW Nat), w.ranges Tryd.prog 9 ptrElem bs r (Maps.size S) S left cnt ∧ w.ownsMap Tryd.prog 9 ptrElem b' (Maps.size S - cnt) Dout ∧ (∀ k, left k = true → Maps.has S k = true) ∧
    (∀ k, Maps.has Dout k = (Maps.has S k && !left k)) ∧ ∃ fo Ao co, AtAll w0.heap.size w Dout (fun k => kept keep (F k)) fo Ao co
  only : Only (fun k => k = d) w0 w
  new : w0.heap.size ≤ b' ∧ w0.heap.size ≤ r ∧ r ≠ b' ∧ d < w0.heap.size ∧ bs < w0.heap.size ∧ bs ≠ d

set_option maxRecDepth 100000 in
set_option maxHeartbeats 2000000 in
theorem crash_any (d bn bs : Nat) (N S : DataW Nat) (F : List UInt8 → List Int × Nat) (keep steps stop : Int) (w : World) (hd : Dk w d bn bs N S steps stop) (hF : SafeF w S F) (hsz : Maps.size S < maxLen) :
    Calls Tryd.prog 32 #[.pointer (some ⟨d, 0, none⟩), .int .i64 keep] w fun e w' => e = .returned (.tuple #[]) ∧
      (∃ bn' bs' N', Dk w' d bn' bs' N' N' 0 (-1) ∧ (∀ k, Maps.has N' k = Maps.has S k) ∧ (∃ fo Ao co, AtAll w.heap.size w' N' (fun k => kept keep (F k)) fo Ao co) ∧ w.heap.size ≤ bn' ∧ w.heap.size ≤ bs' ∧ Maps.size N' ≤ Maps.size S) ∧ Only (fun k => k = d) w w' := by
  have hmm := @run_makeMap Tryd.prog
  have HD := Lib.hid (And.intro hd (And.intro hF hsz))
  have hdl := hd.blk.lt
  have c0 : (w.alloc (.map #[] 0)).cell? ⟨d, 0, none⟩ = some (.map (some bn)) := (hd.alloc _).c0
  have z := (hd.alloc (.map #[] 0)).blk.frozen
  have c1 : ((w.alloc (.map #[] 0)).setCell ⟨d, 0, none⟩ (.map (some w.heap.size))).cell? ⟨d, 1, none⟩ = some (.map (some bs)) := by
    have := ((hd.alloc (.map #[] 0)).blk.set_ 0 (.map (some w.heap.size))).cell 1
    simpa using this
  have ho1 : Only (fun k => k = d) w ((w.alloc (.map #[] 0)).setCell ⟨d, 0, none⟩ (.map (some w.heap.size))) := ((Only.refl (fun k => k = d) w).alloc _).setCell (p := ⟨d, 0, none⟩) rfl _
  have hs1 : ((w.alloc (.map #[] 0)).setCell ⟨d, 0, none⟩ (.map (some w.heap.size))).ownsMap Tryd.prog 9 ptrElem bs (Maps.size S) S := (hd.sf.tight.alloc _).setCell (a := ⟨d, 0, none⟩) hd.nd.2 _
  have hm1 : ((w.alloc (.map #[] 0)).setCell ⟨d, 0, none⟩ (.map (some w.heap.size))).ownsMap Tryd.prog 9 ptrElem w.heap.size 0 (.map []) := (World.ownsMap_made _ _ _ _).setCell (a := ⟨d, 0, none⟩) (by show w.heap.size ≠ d; omega) _
  have hb1 : Blk ((w.alloc (.map #[] 0)).setCell ⟨d, 0, none⟩ (.map (some w.heap.size))) d 80 #[.map (some w.heap.size), .map (some bs), .int .i64 steps, .int .i64 stop] := by
    have := (hd.alloc (.map #[] 0)).blk.set_ 0 (.map (some w.heap.size))
    simpa using this
  have hz1 : ((w.alloc (.map #[] 0)).setCell ⟨d, 0, none⟩ (.map (some w.heap.size))).heap.size = w.heap.size + 1 := by simp
  have H1 := Lib.hid (And.intro ho1 (And.intro hm1 (And.intro hb1 hz1)))
  clear hd hF hsz hdl ho1 hm1 hb1 hz1
  go_enter Tryd.func32, Tryd.ntmps32
  go_wp2_with (first | (at_range; refine wpList_range_own _ rfl _ 78 rfl 9 93 lawS Tryd.underlying78 _ bs _ _ rfl hs1 ?_; intro w4 hrg4 hg4 hs4) | fail)
  go_frame
  have e3 := H1.out.2.2.2
  rw [e3] at hrg4 hs4
  simp only [e3]
  clear e3 c0 c1 z hs1
  have hst : CrashAt w d w.heap.size bs (w.heap.size + 1) S F keep steps stop w4 (Maps.size S) := by
    obtain ⟨ho1, hm1, hb1, hz1⟩ := H1.out
    have ho4 : Only (fun _ => False) ((w.alloc (.map #[] 0)).setCell ⟨d, 0, none⟩ (.map (some w.heap.size))) w4 := ⟨hg4.os, hg4.tape, hg4.output, hg4.size, fun k hk _ => hg4.block k hk (by simp)⟩
    have h1 := HD.out.1.blk.lt
    have h2 := HD.out.1.sf.lt
    refine ⟨hb1.only ho4 (fun h => h), Nat.le_refl _, ⟨_, .map [], hrg4, by rw [Nat.sub_self]; exact hm1.kept hg4 (by simp), fun k hk => hk, fun k => by cases Maps.has S k <;> rfl, fun _ => 0, fun _ => none, fun _ => 0, ⟨fun k hk => absurd hk (by simp [Maps.has]), fun k l hk => absurd hk (by simp [Maps.has])⟩⟩, ho1.trans (ho4.mono (fun _ _ h => h.elim)), by omega, by omega, by omega, h1, h2, HD.out.1.nd.2⟩
  have HST := Lib.hid hst
  clear hst hg4 hs4 hrg4
  go_loopw [4] (fun _ wr => ∃ cnt, CrashAt w d w.heap.size bs (w.heap.size + 1) S F keep steps stop wr cnt) (fun _ wr => wr.rangeLeft bs (w.heap.size + 1))
  case atStart => exact ⟨_, HST.out⟩
  case round =>
    obtain ⟨cnt, hC⟩ := hrel
    obtain ⟨left, Dout, hrg, hout, hL, hH, hK⟩ := hC.go
    have HC := Lib.hid (And.intro hC (And.intro hout (And.intro hL (And.intro hH (And.intro hK hrg)))))
    clear hC hout hL hH hK
    go_wp2_with (first | (at_next; refine wpList_next_ptr _ rfl _ rfl 9 lawS Tryd.underlying9 bs (w.heap.size + 1) _ S _ _ rfl hrg ?_ ?_) | fail)
    · intro hc0 hl0
      rename World => wz
      obtain ⟨hC, hout, hL, hH, hK, hrg⟩ := HC.out
      subst hc0
      rw [Nat.sub_zero] at hout
      have hH' : ∀ k, Maps.has Dout k = Maps.has S k := fun k => by rw [hH k, hl0 k]; simp
      have hK' := hK
      have hnew := hC.new
      have hdr : d < wz.heap.size := hC.blk.lt
      have c1 : (wz.alloc (.map #[] 0)).cell? ⟨d, 1, none⟩ = some (.map (some bs)) := (hC.blk.alloc _).cell 1
      have z := (hC.blk.alloc (.map #[] 0)).frozen
      have c0 : ((wz.alloc (.map #[] 0)).setCell ⟨d, 1, none⟩ (.map (some wz.heap.size))).cell? ⟨d, 0, none⟩ = some (.map (some w.heap.size)) := by
        have := ((hC.blk.alloc (.map #[] 0)).set_ 1 (.map (some wz.heap.size))).cell 0
        simpa using this
      have ho1 : Only (fun k => k = d) wz ((wz.alloc (.map #[] 0)).setCell ⟨d, 1, none⟩ (.map (some wz.heap.size))) := ((Only.refl (fun k => k = d) wz).alloc _).setCell (p := ⟨d, 1, none⟩) rfl _
      have hne : w.heap.size ≠ d := by omega
      have hs1 : ((wz.alloc (.map #[] 0)).setCell ⟨d, 1, none⟩ (.map (some wz.heap.size))).ownsMap Tryd.prog 9 ptrElem w.heap.size (Maps.size Dout) Dout := (MapIs.tight ⟨_, hout.alloc _⟩).setCell (a := ⟨d, 1, none⟩) hne _
      have hm1 : ((wz.alloc (.map #[] 0)).setCell ⟨d, 1, none⟩ (.map (some wz.heap.size))).ownsMap Tryd.prog 9 ptrElem wz.heap.size 0 (.map []) := (World.ownsMap_made _ _ _ _).setCell (a := ⟨d, 1, none⟩) (by show wz.heap.size ≠ d; omega) _
      have hb1 : Blk ((wz.alloc (.map #[] 0)).setCell ⟨d, 1, none⟩ (.map (some wz.heap.size))) d 80 #[.map (some w.heap.size), .map (some wz.heap.size), .int .i64 steps, .int .i64 stop] := by
        have := (hC.blk.alloc (.map #[] 0)).set_ 1 (.map (some wz.heap.size))
        simpa using this
      have hz1 : ((wz.alloc (.map #[] 0)).setCell ⟨d, 1, none⟩ (.map (some wz.heap.size))).heap.size = wz.heap.size + 1 := by simp
      have H8 := Lib.hid (And.intro ho1 (And.intro hm1 (And.intro hb1 (And.intro hz1 (And.intro hC.only (And.intro hnew (And.intro hout (And.intro hH' (And.intro hK' (And.intro hC.le hdr))))))))))
      clear hC hout hL hH hK hrg hH' hK' hnew hdr ho1 hne hm1 hb1 hz1
      go_wp2_with (first | (at_range; refine wpList_range_own _ rfl _ 78 rfl 9 93 lawS Tryd.underlying78 _ w.heap.size _ _ rfl hs1 ?_; intro w4 hrg4 hg4 hs4) | fail)
      go_frame
      have e3 := H8.out.2.2.2.1
      rw [e3] at hrg4 hs4
      simp only [e3]
      clear e3 c0 c1 z hs1
      have hst : CopyAt wz d w.heap.size wz.heap.size (wz.heap.size + 1) Dout steps stop w4 (Maps.size Dout) := by
        obtain ⟨ho1, hm1, hb1, hz1, hCo, hnew, hout, hH', hK', hle, hdr⟩ := H8.out
        have ho4 : Only (fun _ => False) ((wz.alloc (.map #[] 0)).setCell ⟨d, 1, none⟩ (.map (some wz.heap.size))) w4 := ⟨hg4.os, hg4.tape, hg4.output, hg4.size, fun k hk _ => hg4.block k hk (by simp)⟩
        have h2 := hout.lt
        exact ⟨hb1.only ho4 (fun h => h), Nat.le_refl _, ⟨_, .map [], hrg4, by rw [Nat.sub_self]; exact hm1.kept hg4 (by simp), agree_start Dout⟩, ho1.trans (ho4.mono (fun _ _ h => h.elim)), by omega, by omega, by omega, hdr, h2, by omega⟩
      have HST2 := Lib.hid hst
      have HN := Lib.hid (H8.out.2.2.2.2.2.2.1.canon lawS)
      have HZ2 := Lib.hid (show Maps.size Dout < maxLen from Nat.lt_of_le_of_lt H8.out.2.2.2.2.2.2.1.size_le HD.out.2.2)
      clear hst hg4 hs4 hrg4
      go_loopw [8] (fun _ wr2 => ∃ cnt, CopyAt wz d w.heap.size wz.heap.size (wz.heap.size + 1) Dout steps stop wr2 cnt) (fun _ wr2 => wr2.rangeLeft w.heap.size (wz.heap.size + 1))
      case atStart => exact ⟨_, HST2.out⟩
      case round =>
        obtain ⟨cnt, hC⟩ := hrel
        obtain ⟨left, D2, hrg, hout, hA⟩ := hC.go
        have HC2 := Lib.hid (And.intro hC (And.intro hA hout))
        clear hC hA hout
        go_wp2_with (first | (at_next; refine wpList_next_ptr _ rfl _ rfl 9 lawS Tryd.underlying9 w.heap.size (wz.heap.size + 1) _ Dout _ _ rfl hrg ?_ ?_) | fail)
        · intro hc0 hl0
          obtain ⟨hC, hA, hout⟩ := HC2.out
          have e := agree_end hA hl0 (hout.canon lawS) HN.out
          have c2 := hC.blk.cell 2
          have c3 := hC.blk.cell 3
          have z := hC.blk.frozen
          have HE := Lib.hid (And.intro e hrg)
          clear hC hA hout e
          go_wp2_with fail
          go_end0
          obtain ⟨hC, hA, hout⟩ := HC2.out
          obtain ⟨e, hrg⟩ := HE.out
          subst e
          obtain ⟨ho1, hm1, hb1, hz1, hCo, hnew, houtz, hH', hK', hle, hdr⟩ := H8.out
          have ho9 : Only (fun k => k = d) wr ((wr.setCell ⟨d, 2, none⟩ (.int .i64 0)).setCell ⟨d, 3, none⟩ (.int .i64 (-1))) := ((Only.refl (fun k => k = d) wr).setCell (p := ⟨d, 2, none⟩) rfl _).setCell (p := ⟨d, 3, none⟩) rfl _
          have hall := hC.only.trans ho9
          have hnew2 := hC.new
          obtain ⟨fo, Ao, co, hK'⟩ := hK'
          refine ⟨rfl, ⟨w.heap.size, wz.heap.size, D2, ⟨?_, ?_, ?_, ?_⟩, hH', ⟨fo, Ao, co, hK'.low hall (fun g hg e => by omega)⟩, Nat.le_refl _, hCo.size, houtz.size_le⟩, hCo.trans hall⟩
          · have := (hC.blk.set_ 2 (.int .i64 0)).set_ 3 (.int .i64 (-1))
            simpa using this
          · exact MapIs.only ⟨_, hrg.owns⟩ ho9 (by omega)
          · exact MapIs.only ⟨_, hout⟩ ho9 (by omega)
          · have := houtz.lt
            omega
        · intro s p w5 cnt5 hsz5 hl5 hat5 hrg5 hlt5 hg5 hs5 hen5
          obtain ⟨hC, hA, hout⟩ := HC2.out
          have ho5 := Only.of_grown hg5
          have hnew := hC.new
          have hb5 := hC.blk.only ho5 (by omega)
          have c1 : w5.cell? ⟨d, 1, none⟩ = some (.map (some wz.heap.size)) := hb5.cell 1
          have hout5 := hout.kept hg5 (by intro e; have := Option.some.inj e; omega)
          have hbound : Maps.size Dout - cnt < maxLen := Nat.lt_of_le_of_lt (Nat.sub_le _ _) HZ2.out
          have H5 := Lib.hid (And.intro hb5 (And.intro ho5 (And.intro hnew (And.intro (keyS s hsz5) hat5))))
          have HR := Lib.hid (And.intro hrg5 (And.intro hrg hlt5))
          clear hb5 ho5 hnew hC hA hout hs5 hsz5 hl5 hat5 hg5 hrg5 hrg hlt5
          go_wp2_with (first | (at_mapUpdate; refine wpList_update_ptr _ rfl _ _ _ 78 rfl 9 93 lawS Tryd.underlying78 wz.heap.size _ _ rfl hout5 hbound _ _ rfl H5.out.2.2.2.1 p rfl ?_; intro w6 hout6 hg6 hs6; go_frame) | fail)
          obtain ⟨hrg5, hrg, hlt5⟩ := HR.out
          obtain ⟨hb5, ho5, hnew, hkey, hat5⟩ := H5.out
          obtain ⟨hC, hA, hout⟩ := HC2.out
          have hrg6 := hrg5.kept hg6 (fun e => by have := Option.some.inj e; omega) (fun e => by have := Option.some.inj e; omega)
          have ho6 := Only.of_grown hg6
          have hle := hC.le
          have hfin : CopyAt wz d w.heap.size wz.heap.size (wz.heap.size + 1) Dout steps stop w6 cnt5 := by
            refine ⟨hb5.only ho6 (by omega), by omega, ⟨_, _, hrg6, hout6.mono (by omega), agree_step hA hout.isMap trivial hat5⟩, ?_, hnew⟩
            exact (hC.only.step ho5 (fun i hi e => by omega)).step ho6 (fun i hi e => by omega)
          go_roundw
          case rel => exact ⟨cnt5, hfin⟩
          case measure => rw [hrg6.left_eq, hrg.left_eq]; exact hlt5
    · intro s p w5 cnt5 hsz5 hl5 hat5 hrg5 hlt5 hg5 hs5 hen5
      obtain ⟨hC, hout, hL, hH, hK, hrg⟩ := HC.out
      obtain ⟨hd, hF, hsz⟩ := HD.out
      have hnew := hC.new
      have ho5 : Only (fun k => k = d) w w5 := hC.only.step (Only.of_grown hg5) (fun i hi e => by omega)
      have hF5 := hF.only ho5 (fun f A c xs sf hf => ⟨fun e => by subst e; exact absurd (hd.blk.same_type hf.blk) (by decide), hf.ne_blk hd.blk (by decide)⟩)
      obtain ⟨f, A, c, hat, hf, hsf, hfl⟩ := hF5 _ (hL _ hl5)
      obtain rfl : p = some f := ptrD_inj ((hat5 .nil).symm.trans hat)
      have hb5 := hC.blk.only (Only.of_grown hg5) (by omega)
      have hout5 := hout.kept hg5 (by intro e; have := Option.some.inj e; omega)
      obtain ⟨xs, hxs⟩ : ∃ xs, (F s.data.toList).1 = xs := ⟨_, rfl⟩
      obtain ⟨sf, hsfe⟩ : ∃ sf, (F s.data.toList).2 = sf := ⟨_, rfl⟩
      rw [hxs, hsfe] at hf hsf
      rw [hxs] at hfl
      have f0 : w5.cell? ⟨f, 0, none⟩ = some (.slice A xs.length c) := hf.blk.cell 0
      have f1 : w5.cell? ⟨f, 1, none⟩ = some (.int .i64 sf) := hf.blk.cell 1
      have hxi : (xs.length : Int) ≤ 60000 := by omega
      have hsi : (sf : Int) ≤ (xs.length : Int) := by omega
      have hen5' : (Instr.entry (.pointer (some ⟨w.heap.size + 1, 0, none⟩))).run Tryd.prog w5 = .ok (.tuple #[.string s, .pointer (some ⟨f, 0, none⟩)]) w5 := hen5
      have H5 := Lib.hid (And.intro hb5 (And.intro hout5 (And.intro ho5 (And.intro hf (And.intro hat5 (And.intro hrg5 (And.intro hg5 (And.intro hsf (And.intro hxs hsfe)))))))))
      have HL5 := Lib.hid (And.intro hl5 (And.intro hlt5 hsz5))
      have hsub : IntKind.i64.wrap ((xs.length : Int) - (sf : Int)) = (xs.length : Int) - (sf : Int) := by rw [IntKind.wrap_i64]; omega
      obtain ⟨mo, hmo⟩ : ∃ mo, moreN keep xs.length sf = mo := ⟨_, rfl⟩
      have hmin := min_is keep xs.length sf hsf
      rw [hmo] at hmin
      have hml : sf + mo ≤ xs.length := by rw [← hmo]; unfold moreN; omega
      have HM := Lib.hid (And.intro hmin (And.intro (show (sf : Int) + (mo : Int) ≤ (xs.length : Int) by omega) (And.intro (show (xs.length : Int) ≤ (c : Int) by have := hf.room; omega) (show (c : Int) ≤ 9223372036854775807 by have := hf.room.2; simp only [maxLen] at this; omega))))
      have HMO := Lib.hid (And.intro hmo hml)
      clear hmo hmin hml
      clear hC hout hL hH hK hrg hd hF hsz hnew ho5 hF5 hat hf hsf hfl hb5 hout5 hxs hsfe hen5 hsz5 hl5 hat5 hrg5 hlt5 hg5 hs5
      go_wp2_with fail
      go_quiet ((fail))
      go_wp2_with fail
      rw [HM.out.1]
      obtain ⟨hmi, hci, hcm⟩ := HM.out.2
      obtain ⟨h, hh⟩ : ∃ h, sf + mo = h := ⟨_, rfl⟩
      have hhl : h ≤ xs.length := by omega
      have hsl := fun W => run_slice_to W A xs.length c h (by omega)
      have hadd : IntKind.i64.wrap ((sf : Int) + (mo : Int)) = (h : Int) := by rw [IntKind.wrap_i64]; omega
      have hF5 := H5.out.2.2.2.1
      have hcl : ∀ W, Fl W f A c xs sf → Calls Tryd.prog 37 #[.slice A h c] W fun e w' => (∃ A' c', e = .returned (.slice A' h c') ∧ w'.ownsRow 0 5 1 (.slice A' h c') h (u8s (xs.take h)) ∧ Below W.heap.size W w' ∧ (∀ b ∈ blkOf8 A', W.heap.size ≤ b) ∧ Fl w' f A c xs sf) := by
        intro W hW
        have hl2 : (u8s (xs.take h)).length = h * 1 := by rw [u8s_len, List.length_take]; omega
        have hS : SlAt W A (u8s (xs.take h)) := by
          rcases SlAt.of_owns hW.row with h0 | ⟨b, off, hA, hc⟩
          · have : xs = [] := by simpa [u8s] using h0
            subst this
            exact .inl (by simp [u8s])
          · refine .inr ⟨b, off, hA, fun j u hu => hc j u ?_⟩
            simp only [u8s, List.map_take] at hu ⊢
            rw [List.getElem?_take] at hu
            split at hu
            · exact hu
            · cases hu
        refine (cloneU8_any A h c _ W hl2 hS (by omega) (u8s_one _)).mono ?_
        rintro e w' ⟨A', c', rfl, hr, hb, hn⟩
        exact ⟨A', c', rfl, hr, hb, hn, hW.below hb⟩
      have HCL := Lib.hid hcl
      have HF5 := Lib.hid hF5
      have g0 := f0
      have g1 := f1
      have HH := Lib.hid (And.intro hh hhl)
      clear hcl hF5 hh hhl
      have HSL := Lib.hid hsl
      have HADD := Lib.hid hadd
      clear hsl hadd
      refine wp_at (fun W => Fl W f A c xs sf ∧ Only (fun _ => False) w5 W) ⟨HF5.out.drewN nq, (Only.refl _ w5).drewN nq⟩ ?_
      rintro w6 ⟨hF6, hO6⟩
      have a0 : w6.cell? ⟨f, 0, none⟩ = some (.slice A xs.length c) := hF6.blk.cell 0
      have a1 : w6.cell? ⟨f, 1, none⟩ = some (.int .i64 sf) := hF6.blk.cell 1
      have hFd : Fl w6.drew f A c xs sf := hF6.drewN 1
      have HF6 := Lib.hid (And.intro hF6 (And.intro hO6 hFd))
      clear hF6 hO6 hFd f0 f1 g0 g1
      have hsl := HSL.out
      have hadd := HADD.out
      go_region_held3 (fun w' => w'.cell? ⟨f, 0, none⟩ = some (.slice A xs.length c) ∧ w'.cell? ⟨f, 1, none⟩ = some (.int .i64 sf)) (first | (with_reducible exact ⟨a0, a1⟩) | (with_reducible exact ⟨b0, b1⟩) | go_keep) (first
        | (go_simp
           (with_reducible refine (HCL.out _ HF6.out.2.2).mono ?_)
           rintro e w7 ⟨A', c', rfl, hr7, hb7, hn7, hF7⟩
           have b0 : w7.cell? ⟨f, 0, none⟩ = some (.slice A xs.length c) := hF7.blk.cell 0
           have b1 : w7.cell? ⟨f, 1, none⟩ = some (.int .i64 sf) := hF7.blk.cell 1))
      have hO7 : Only (fun _ => False) w5 w7 := (HF6.out.2.1.drew).trans (Only.of_below hb7)
      have hb5 := H5.out.1.only hO7 (fun h => h)
      have c0 : w7.cell? ⟨d, 0, none⟩ = some (.map (some w.heap.size)) := hb5.cell 0
      have ho8 : Only (fun _ => False) w5 (w7.alloc (.cells #[.slice A' h c', .int .i64 h] 92)) := hO7.alloc _
      have hout8 : (w7.alloc (.cells #[.slice A' h c', .int .i64 h] 92)).ownsMap Tryd.prog 9 ptrElem w.heap.size (Maps.size S - cnt) Dout := H5.out.2.1.kept ⟨ho8.os, ho8.tape, ho8.output, ho8.size, fun k hk _ => ho8.block k hk (fun h => h)⟩ (row := none) (by simp)
      have hkey := keyS s HL5.out.2.2
      have hbnd : Maps.size S - cnt < maxLen := Nat.lt_of_le_of_lt (Nat.sub_le _ _) HD.out.2.2
      have H7 := Lib.hid (And.intro hO7 (And.intro ho8 (And.intro hr7 (And.intro hb7 (And.intro hn7 hb5)))))
      have HU := Lib.hid (And.intro hout8 (And.intro hkey hbnd))
      clear hO7 hb5 ho8 hout8 hkey hbnd hr7 hb7 hn7 hF7 b0 b1 a0 a1 hsl hadd hmi hci hcm hxi hsi hen5'
      go_wp2_with (first | (at_mapUpdate; refine wpList_update_ptr _ rfl _ _ _ 78 rfl 9 93 lawS Tryd.underlying78 w.heap.size _ _ rfl HU.out.1 HU.out.2.2 _ _ rfl HU.out.2.1 (some w7.heap.size) rfl ?_; intro w9 hn9 hg9 hs9; go_frame) | fail)
      obtain ⟨hb5', hout5, ho5, hf, hat5, hrg5, hg5, hsf, hxs, hsfe⟩ := H5.out
      obtain ⟨hO7, ho8, hr7, hb7, hn7, hb7'⟩ := H7.out
      obtain ⟨hC, hout, hL, hH, hK, hrg⟩ := HC.out
      obtain ⟨hl5, hlt5, hsz5⟩ := HL5.out
      obtain ⟨hd, hF, hsz⟩ := HD.out
      have ho9 : Only (fun k => k = w.heap.size) w5 w9 := (ho8.mono (fun _ _ h => h.elim)).trans (Only.of_grown hg9)
      have hnew := hC.new
      have hg59 : w5.grownBy w9 (some w.heap.size) := ⟨ho9.os, ho9.tape, ho9.output, ho9.size, fun k hk hn => ho9.block k hk (fun e => hn (by rw [e]))⟩
      have hrg9 := hrg5.kept hg59 (fun e => by have := Option.some.inj e; omega) (fun e => by have := Option.some.inj e; omega)
      have hle := hC.le
      have hfin : CrashAt w d w.heap.size bs (w.heap.size + 1) S F keep steps stop w9 cnt5 := by
        refine ⟨hb5'.only ho9 (by omega), by omega, ⟨_, _, hrg9, hn9.mono (by omega), ?_, ?_, ?_⟩, ?_, hnew⟩
        · intro k hk
          rw [Bool.and_eq_true] at hk
          exact hL k hk.1
        · exact has_step _ hout.isMap trivial (hL _ hl5) hH
        · obtain ⟨fo, Ao, co, hK⟩ := hK
          have hlt7 : w.heap.size ≤ w7.heap.size := by have := ho5.size; have := hO7.size; omega
          have hFl : Fl (w7.alloc (.cells #[.slice A' h c', .int .i64 h] 92)) w7.heap.size A' c' (xs.take h) h := by
            have hln : (xs.take h).length = h := by rw [List.length_take]; have := HH.out; omega
            refine ⟨?_, ?_⟩
            · rw [hln]; exact Blk.new _ _ _
            · rw [hln]; exact hr7.alloc _
          have hA7 : ∀ a, A' = some a → w5.heap.size ≤ a.block := by
            intro a ha
            have h1 := hn7 a.block (by rw [ha]; simp [blkOf8])
            have h2 := HF6.out.2.1.size
            have h3 : w6.drew.heap.size = w6.heap.size := rfl
            omega
          have hmlt := hout5.lt
          have hkp : kept keep (F s.data.toList) = xs.take h := by
            unfold kept
            rw [hxs, hsfe, HMO.out.1, HH.out.1]
          have hkl : (kept keep (F s.data.toList)).length = h := by rw [hkp, List.length_take]; have := HH.out; omega
          have hFl9 : Fl w9 w7.heap.size A' c' (kept keep (F s.data.toList)) (kept keep (F s.data.toList)).length := by
            rw [hkl, hkp]
            refine hFl.only (Only.of_grown hg9) ?_ ?_
            · have := hO7.size; omega
            · intro a ha e
              have := hA7 a ha
              omega
          have ho49 : Only (fun q => q = w.heap.size + 1 ∨ q = w.heap.size) wr w9 := ((Only.of_grown hg5).mono (fun _ _ h => Or.inl h)).trans (ho9.mono (fun _ _ h => Or.inr h))
          refine ⟨_, _, _, hK.put ho49 ?_ hout.isMap s.data.toList w7.heap.size A' c' rfl (by have := hC.only.size; exact this) (by have := hg5.size; have := hO7.size; omega) (fun a ha => by have := hA7 a ha; have := hg5.size; omega) hFl9 ?_⟩
          · rintro g cur e hg (rfl | rfl)
            · exact ranges_iter hrg _ _ hg
            · exact owns_map hout _ _ hg
          · rw [hH, hl5]; simp
        · exact ho5.step ho9 (fun i hi e => by omega)
      go_roundw
      case rel => exact ⟨cnt5, hfin⟩
      case measure => rw [hrg9.left_eq, hrg.left_eq]; exact hlt5
end Go.Proofs.YtbfmdpgghknccaaDoor
