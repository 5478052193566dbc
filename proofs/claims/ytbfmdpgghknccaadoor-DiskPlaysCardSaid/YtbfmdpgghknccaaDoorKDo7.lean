/- bookref3.Do: Crash. -/
import Derived.Test.YtbfmdpgghknccaaDoorKDoMem
import Derived.Test.YtbfmdpgghknccaaDoorKList
import Derived.Test.YtbfmdpgghknccaaDoorPlaySt
namespace Go.Proofs.YtbfmdpgghknccaaDoor
open Go.RowKit Go.Maps
set_option linter.unusedVariables false
set_option linter.unusedSimpArgs false

/-- A file's bytes, and how many are safe. -/
def fbs (fm : List FM) (i : Nat) : List Int × Nat := ((fm[i]?).map fun f => (f.b, f.s)).getD ([], 0)
theorem crashN_len (m : Nat) (l : Nms) : (crashN m l).length = l.length := by simp [crashN]
theorem crashN_snoc (m : Nat) (l : Nms) (x : List UInt8 × Nat) : crashN m (l ++ [x]) = crashN m l ++ [(x.1, m + l.length)] := by
  simp [crashN, List.zipIdx_append]
/-- One file more. -/
theorem KAt.pushF {W : World} {k : Nat} {fm : List FM} {names safe : Nms} {steps stop : Int} {FA : Option Addr} {Fc : Nat} {NA : Option Addr} {Nc : Nat} {SA : Option Addr} {Sc : Nat} (h : KAt W k fm names safe steps stop FA Fc NA Nc SA Sc) (g : FM) (hg : W.ownsRow 0 5 1 (.slice g.A g.b.length g.c) g.b.length (u8s g.b)) (hfl : fm.length ≤ 2000000) :
    ∃ A' c' W', (∀ ty, (Builtin.append_ #[44, 44] ty #[.slice FA fm.length Fc, .slice (some ⟨W.heap.size, 0, none⟩) 1 1]).run Tryd.prog (W.alloc (.cells #[.slice g.A g.b.length g.c, .int .i64 g.s] 97)) = .ok (.slice A' (fm.length + 1) c') W') ∧ W'.cell? ⟨k, 0, none⟩ = some (.slice FA fm.length Fc) ∧ (∀ i, W'.frozen? ⟨k, i, none⟩ = false) ∧ (A' = FA ∨ ∃ a, A' = some a ∧ W.heap.size ≤ a.block) ∧
      (∀ w7, w7 = W'.setCell ⟨k, 0, none⟩ (.slice A' (fm.length + 1) c') → KAt w7 k (fm ++ [g]) names safe steps stop A' c' NA Nc SA Sc ∧ Only (fun q => q = k ∨ ∃ a, FA = some a ∧ q = a.block) W w7) := by
  obtain ⟨A6, c6, w6, hrun6, hrow6, hg6, hA6⟩ := run_append_sl (P := Tryd.prog) (W.alloc (.cells #[.slice g.A g.b.length g.c, .int .i64 g.s] 97)) 44 44 97 Tryd.underlying44 infoF rfl (by decide) FA fm.length Fc (fcells fm) (h.fl.alloc _) (some ⟨W.heap.size, 0, none⟩) 1 1 [.slice g.A g.b.length g.c, .int .i64 g.s] rfl (.inr ⟨W.heap.size, 0, rfl, fun j u hu => by rw [Nat.zero_add, (Blk.new W 97 #[.slice g.A g.b.length g.c, .int .i64 g.s]).cell]; simpa using hu⟩) (by intro u hu; simp at hu; rcases hu with rfl | rfl <;> rfl) (by unfold maxLen; omega) (by omega)
  have ho6 : Only (fun q => ∃ a, FA = some a ∧ q = a.block) W w6 := ((Only.refl (fun q => ∃ a, FA = some a ∧ q = a.block) _).alloc _).trans ⟨hg6.os, hg6.tape, hg6.output, hg6.size, fun q hq hn => hg6.block q hq (by
      intro e
      cases hA : FA with
      | none => rw [hA] at e; cases e
      | some a => rw [hA] at e; exact hn ⟨a, hA, Option.some.inj e⟩)⟩
  have hne6 : ∀ {e : TypeId} {base size n c : Nat} {A : Option Addr} {xs : List Value}, W.ownsRow base e size (.slice A n c) n xs → e ≠ 97 → ∀ a, A = some a → ¬ ∃ a', FA = some a' ∧ a.block = a'.block := fun hr he a ha ⟨a', ha', e⟩ => row_ne hr h.fl he a a' ha ha' e
  have hkF : ¬ ∃ a', FA = some a' ∧ k = a'.block := fun ⟨a', ha', e⟩ => row_ne_blk h.fl h.blk (by decide) a' ha' e.symm
  have hblk6 := h.blk.only ho6 hkF
  have hrow6' : w6.ownsRow 0 97 2 (.slice A6 (fm ++ [g]).length c6) (fm ++ [g]).length (fcells (fm ++ [g])) := by
    rw [fcells_append, List.length_append]
    exact hrow6
  refine ⟨A6, c6, w6, fun _ => hrun6, hblk6.cell 0, hblk6.frozen, ?_, ?_⟩
  · rcases hA6 with ⟨h1, _⟩ | h1
    · exact .inl h1
    · exact .inr ⟨_, h1, by simp⟩
  · rintro w7 rfl
    have ho7 : Only (fun q => q = k) w6 (w6.setCell ⟨k, 0, none⟩ (.slice A6 (fm.length + 1) c6)) := (Only.refl (fun q => q = k) w6).setCell (p := ⟨k, 0, none⟩) rfl _
    have hnk : ∀ {e : TypeId} {base size n c : Nat} {A : Option Addr} {xs : List Value}, w6.ownsRow base e size (.slice A n c) n xs → e ≠ 47 → ∀ a, A = some a → ¬ a.block = k := fun hr he => row_ne_blk hr hblk6 he
    have r1 := row_only h.nm ho6 (hne6 h.nm (by decide))
    have r2 := row_only h.sf ho6 (hne6 h.sf (by decide))
    have row : ∀ (f : FM), W.ownsRow 0 5 1 (.slice f.A f.b.length f.c) f.b.length (u8s f.b) → (w6.setCell ⟨k, 0, none⟩ (.slice A6 (fm.length + 1) c6)).ownsRow 0 5 1 (.slice f.A f.b.length f.c) f.b.length (u8s f.b) := by
      intro f hf
      have r3 := row_only hf ho6 (hne6 hf (by decide))
      exact row_only r3 ho7 (hnk r3 (by decide))
    refine ⟨⟨?_, row_only hrow6' ho7 (hnk hrow6' (by decide)), ?_, row_only r1 ho7 (hnk r1 (by decide)), row_only r2 ho7 (hnk r2 (by decide))⟩, (ho6.mono (fun q _ e => Or.inr e)).trans (ho7.mono (fun q _ e => Or.inl e))⟩
    · have := hblk6.set_ 0 (.slice A6 (fm.length + 1) c6)
      rw [List.length_append]
      simpa using this
    · intro f hf
      rcases List.mem_append.1 hf with hf | hf
      · exact row f (h.fb f hf)
      · obtain rfl : f = g := by simpa using hf
        exact row f hg
theorem KAt.stop_ {w : World} {k : Nat} {fm : List FM} {names safe : Nms} {steps stop : Int} {FA : Option Addr} {Fc : Nat} {NA : Option Addr} {Nc : Nat} {SA : Option Addr} {Sc : Nat} (h : KAt w k fm names safe steps stop FA Fc NA Nc SA Sc) (v : Int) : KAt (w.setCell ⟨k, 4, none⟩ (.int .i64 v)) k fm names safe steps v FA Fc NA Nc SA Sc := by
  have ho : Only (fun q => q = k) w (w.setCell ⟨k, 4, none⟩ (.int .i64 v)) := (Only.refl (fun q => q = k) w).setCell (p := ⟨k, 4, none⟩) rfl _
  refine ⟨by have := h.blk.set_ 4 (.int .i64 v); simpa using this, row_only h.fl ho (row_ne_blk h.fl h.blk (by decide)), fun f hf => row_only (h.fb f hf) ho (row_ne_blk (h.fb f hf) h.blk (by decide)), row_only h.nm ho (row_ne_blk h.nm h.blk (by decide)), row_only h.sf ho (row_ne_blk h.sf h.blk (by decide))⟩
theorem run_slice_u8_to (W : World) (A : Option Addr) (n c h : Nat) (hh : h ≤ c) : (Instr.slice 40 (.slice A n c) none (some (.int .i64 (h : Int))) none).run Tryd.prog W = .ok (.slice A h c) W := run_slice_to W A n c h hh
/-- A crash, so far. -/
structure KCr (w0 : World) (k : Nat) (fm : List FM) (names safe : Nms) (steps stop : Int) (FA : Option Addr) (NA : Option Addr) (Nc : Nat) (SA : Option Addr) (Sc : Nat) (W : Array Value) (n : Int) (w : World) (i : Nat) (gs : List FM) (FA' : Option Addr) (Fc' : Nat) : Prop where
  ka : KAt w k (fm ++ gs) names safe steps stop FA' Fc' NA Nc SA Sc
  fa : FA' = FA ∨ ∃ a, FA' = some a ∧ w0.heap.size ≤ a.block
  bx : Blk w w0.heap.size 53 W
  gl : gs.map (fun f => (f.b, f.s)) = (safe.take i).map fun x => keptF n (fbs fm x.2)
  gn : ∀ f ∈ gs, ∀ a, f.A = some a → w0.heap.size ≤ a.block
  on : Only (fun q => q = k ∨ ∃ a, FA = some a ∧ q = a.block) w0 w
theorem KCr.below {w0 : World} {k : Nat} {fm : List FM} {names safe : Nms} {steps stop : Int} {FA : Option Addr} {NA : Option Addr} {Nc : Nat} {SA : Option Addr} {Sc : Nat} {W : Array Value} {n : Int} {w : World} {i : Nat} {gs : List FM} {FA' : Option Addr} {Fc' : Nat} (h : KCr w0 k fm names safe steps stop FA NA Nc SA Sc W n w i gs FA' Fc') {w' : World} (hb : Below w.heap.size w w') : KCr w0 k fm names safe steps stop FA NA Nc SA Sc W n w' i gs FA' Fc' :=
  ⟨h.ka.below hb, h.fa, h.bx.below hb h.bx.lt, h.gl, h.gn, h.on.trans (Only.of_below hb)⟩
/-- The row of names so far. -/
def MRow (w0 : World) (fm : List FM) (safe : Nms) (w : World) (i : Nat) (M : Option Addr) (Mc : Nat) : Prop := w.ownsRow w0.heap.size 89 2 (.slice M i Mc) i (ncells (crashN fm.length (safe.take i)))

set_option maxRecDepth 100000 in
set_option maxHeartbeats 4000000 in
theorem kdo_7 (k : Nat) (fm : List FM) (names safe : Nms) (steps stop : Int) (FA : Option Addr) (Fc : Nat) (NA : Option Addr) (Nc : Nat) (SA : Option Addr) (Sc : Nat) (nm tn : ByteArray) (B : Option Addr) (bl bc : Nat) (n : Int) (w : World) (h : KAt w k fm names safe steps stop FA Fc NA Nc SA Sc) (hl : safe.length ≤ 1000000) (hfl : fm.length ≤ 1000000) (hix : ∀ x ∈ safe, x.2 < fm.length) (hlen : ∀ f ∈ fm, f.s ≤ f.b.length ∧ f.b.length ≤ 60000) :
    Calls Tryd.prog 34 #[.pointer (some ⟨k, 0, none⟩), wV 7 nm tn B bl bc n] w (KDoQ w k fm FA (fun l => ∃ gs, l = fm ++ gs ∧ gs.map (fun f => (f.b, f.s)) = safe.map fun x => keptF n (fbs fm x.2)) (crashN fm.length safe) (crashN fm.length safe) 0 (-1)) := by
  unfold wV
  obtain ⟨WC, hWC⟩ : ∃ WC : Array Value, WC = #[.int .i64 7, .string nm, .string tn, .slice B bl bc, .int .i64 n] := ⟨_, rfl⟩
  have hst : KCr w k fm names safe steps stop FA NA Nc SA Sc WC n (w.alloc (.cells #[.int .i64 7, .string nm, .string tn, .slice B bl bc, .int .i64 n] 53)) 0 [] FA Fc := by
    refine ⟨by rw [List.append_nil]; exact h.below ((Below.refl _ w).alloc (Nat.le_refl _) _), .inl rfl, by rw [hWC]; exact Blk.new w _ _, by simp, by simp, (Only.refl _ w).alloc _⟩
  have HST := Lib.hid hst
  have HH := Lib.hid (And.intro hl (And.intro hfl (And.intro hix (And.intro hlen h))))
  have HWC := Lib.hid hWC
  have hli : (safe.length : Int) ≤ 1000000 := by omega
  clear hst h hix hlen hWC hl hfl
  go_enter Tryd.func34, Tryd.ntmps34
  go_wp2_with fail
  go_loopw [5, 6] (fun v iv wr => ∃ (i : Nat) (M : Option Addr) (Mc : Nat) (gs : List FM) (FA' : Option Addr) (Fc' : Nat), iv = .int .i64 i ∧ i ≤ safe.length ∧ v = .slice M i Mc ∧ KCr w k fm names safe steps stop FA NA Nc SA Sc WC n wr i gs FA' Fc' ∧ MRow w fm safe wr i M Mc) (fun _ iv _ => safe.length - (intOf iv).toNat)
  case atStart => exact ⟨0, none, 0, [], FA, Fc, rfl, Nat.zero_le _, rfl, HST.out, World.ownsRow_nil _ _ _ _⟩
  case round =>
    obtain ⟨i, M, Mc, gs, FA', Fc', rfl, hi, rfl, hC, hM⟩ := hrel
    have c2 : wr.cell? ⟨k, 2, none⟩ = some (.slice SA safe.length Sc) := hC.ka.blk.cell 2
    by_cases hlt : i < safe.length
    · have d0 : decide ((i : Int) < (safe.length : Int)) = true := by simp; omega
      obtain ⟨x, hx⟩ : ∃ x, safe[i]? = some x := ⟨_, List.getElem?_eq_getElem hlt⟩
      obtain ⟨nx, hnx⟩ : ∃ nx : ByteArray, nx = ⟨x.1.toArray⟩ := ⟨_, rfl⟩
      have hx2 : x.2 < fm.length := HH.out.2.2.1 x (List.mem_of_getElem? hx)
      obtain ⟨f, hf⟩ : ∃ f, fm[x.2]? = some f := ⟨_, List.getElem?_eq_getElem hx2⟩
      have hfg : (fm ++ gs)[x.2]? = some f := by rw [List.getElem?_append_left hx2]; exact hf
      obtain ⟨hfs, hfb⟩ := HH.out.2.2.2.1 f (List.mem_of_getElem? hf)
      obtain ⟨hn0, hn1⟩ := ncells_at safe i x hx
      obtain ⟨b, off, hA, n0⟩ := (SlAt.of_owns hC.ka.sf).at_ hn0
      obtain ⟨b', off', hA', n1⟩ := (SlAt.of_owns hC.ka.sf).at_ hn1
      rw [hA] at hA'
      injection hA' with hA'
      injection hA' with hb' ho' _
      subst hb' ho'
      rw [← Nat.add_assoc] at n1
      rw [← hnx] at n0
      obtain ⟨fb, hFA, f0, f1, hil, cur, hcur⟩ := FM.at_ hC.ka hfg
      have c0 : wr.cell? ⟨k, 0, none⟩ = some (.slice FA' (fm ++ gs).length Fc') := hC.ka.blk.cell 0
      have hgl : gs.length = i := by
        have := congrArg List.length hC.gl
        simpa [List.length_take, Nat.min_eq_left hi] using this
      obtain ⟨fl, hfle⟩ : ∃ fl, (fm ++ gs).length = fl := ⟨_, rfl⟩
      rw [hfle] at c0 hil
      have hxi : (x.2 : Int) < (fl : Int) := by omega
      have hmem : f ∈ fm ++ gs := List.mem_of_getElem? hfg
      subst hFA
      subst hA
      have hfl2 : fl ≤ 2000000 := by
        have := HH.out.2.1
        have := HH.out.1
        rw [← hfle, List.length_append]
        omega
      have HC := Lib.hid (And.intro hC hM)
      have HX := Lib.hid (And.intro hx (And.intro hf (And.intro hmem (And.intro hgl (And.intro hfle hnx)))))
      clear hC hM hn0 hn1 hx hf hfg hcur hgl hfle hmem hnx
      go_wp2_with fail
      go_region_held3 (fun w' => w'.cell? ⟨k, 0, none⟩ = some (.slice (some ⟨fb, 0, none⟩) fl Fc') ∧ w'.cell? ⟨k, 2, none⟩ = some (.slice (some ⟨b, off, none⟩) safe.length Sc) ∧ w'.cell? ⟨b, off + i * 2 + 1, none⟩ = some (.int .i64 x.2) ∧ w'.cell? ⟨fb, x.2 * 2, none⟩ = some (.slice f.A f.b.length f.c) ∧ w'.cell? ⟨fb, x.2 * 2 + 1, none⟩ = some (.int .i64 f.s)) (first | (with_reducible exact ⟨c0, c2, n1, f0, f1⟩) | go_keep) (first | fail)
      rename_i hHeld
      clear hHeld
      obtain ⟨W1, hW1⟩ : ∃ W1, (wr.alloc (.cells #[.slice f.A f.b.length f.c, .int .i64 f.s] 97)).drew = W1 := ⟨_, rfl⟩
      have hb1 : Below wr.heap.size wr W1 := by rw [← hW1]; exact ((Below.refl _ wr).alloc (Nat.le_refl _) _).drew
      have hC1 := HC.out.1.below hb1
      have hM1 : MRow w fm safe W1 i M Mc := owns_below HC.out.2 hb1
      have hbox : Blk W1 wr.heap.size 97 #[.slice f.A f.b.length f.c, .int .i64 f.s] := by rw [← hW1]; exact Blk.new _ _ _
      rw [hW1]
      have g0 : W1.cell? ⟨wr.heap.size, 0, none⟩ = some (.slice f.A f.b.length f.c) := hbox.cell 0
      have g1 : W1.cell? ⟨wr.heap.size, 1, none⟩ = some (.int .i64 f.s) := hbox.cell 1
      have b4 : W1.cell? ⟨w.heap.size, 4, none⟩ = some (.int .i64 n) := by rw [hC1.bx.cell 4, HWC.out]; rfl
      have H1 := Lib.hid (And.intro hC1 (And.intro hM1 hbox))
      clear hW1 hb1 hC1 hM1 hbox HC c0 c2 n0 n1 f0 f1 cur
      generalize wr.heap.size = q at g0 g1 H1 ⊢
      clear wr
      go_wp2_with fail
      go_loopw [8, 9] (fun nv mv wz => ∃ mo e : Nat, mv = .int .i64 mo ∧ nv = .int .i64 e ∧ Hid (e = f.s + mo ∧ mo ≤ n.toNat ∧ e ≤ f.b.length) ∧ wz = W1) (fun _ mv _ => n.toNat - (intOf mv).toNat)
      case atStart => exact ⟨0, f.s, rfl, rfl, Lib.hid ⟨rfl, Nat.zero_le _, hfs⟩, rfl⟩
      case round =>
        obtain ⟨mo, e, rfl, rfl, he, hw⟩ := hrel
        subst hw
        by_cases hgo : (mo : Int) < n ∧ e < f.b.length
        · have d1 : decide ((mo : Int) < n) = true := by simp; omega
          have d2 : decide ((e : Int) < (f.b.length : Int)) = true := by simp; omega
          have hmo9 : (mo : Int) ≤ 60000 := by have := he.out.1; omega
          have he9 : (e : Int) ≤ 60000 := by omega
          go_wp2_with fail
          go_roundw
          case rel => exact ⟨mo + 1, e + 1, by go_num, by go_num, Lib.hid ⟨by have := he.out.1; omega, by omega, hgo.2⟩, trivial⟩
          case measure => simp [intOf] <;> omega
        · have hfin : e = f.s + min n.toNat (f.b.length - f.s) := by
            obtain ⟨h1, h2, h3⟩ := he.out
            omega
          have HE := Lib.hid hfin
          have hel : e ≤ f.b.length := he.out.2.2
          clear hfin
          by_cases h1 : (mo : Int) < n
          case' pos =>
            have d1 : decide ((mo : Int) < n) = true := by simp; omega
            have d2 : decide ((e : Int) < (f.b.length : Int)) = false := by simp; omega
          case' neg =>
            have d1 : decide ((mo : Int) < n) = false := by simp; omega
          all_goals
            obtain ⟨hC1, hM1, hbox⟩ := H1.out
            obtain ⟨hx, hf, hmem, hgl, hfle, hnx⟩ := HX.out
            have hrf := hC1.ka.fb f hmem
            have hcap : e ≤ f.c := by have := owns_cap_ hrf; omega
            have hsl := fun (W1 : World) => run_slice_u8_to W1 f.A f.b.length f.c e hcap
            have hbl : (f.b.take e).length = e := by rw [List.length_take]; omega
            obtain ⟨A2, e2, w2, hrun2, hrow2, hb2, hc2⟩ := run_append_slb (P := Tryd.prog) wr.heap.size wr 40 40 5 Tryd.underlying40 infoU8 rfl (by decide) none 0 0 [] (World.ownsRow_nil _ _ _ _) (Nat.le_refl _) f.A e f.c (u8s (f.b.take e)) (by rw [u8s_len, hbl, Nat.mul_one]) (by simpa [u8s, List.map_take] using (SlAt.of_owns hrf).take_ e) (u8s_one _) (by unfold maxLen; omega) (by omega)
            rw [Nat.zero_add] at hrun2 hrow2
            rw [List.nil_append] at hrow2
            have HR2 : Hid (∀ ty, (Builtin.append_ #[40, 40] ty #[.slice none 0 0, .slice f.A e f.c]).run Tryd.prog wr = .ok (.slice A2 e e2) w2) := Lib.hid (fun _ => hrun2)
            have hC2 := hC1.below hb2
            have hM2 : MRow w fm safe w2 i M Mc := owns_below hM1 hb2
            have hnew2 : ∀ a, A2 = some a → w.heap.size ≤ a.block := fun a ha => Nat.le_trans hC1.on.size (ownBlock_ge hrow2 a.block (by rw [ha]; rfl))
            have hrow2' : w2.ownsRow 0 5 1 (.slice A2 (f.b.take e).length e2) (f.b.take e).length (u8s (f.b.take e)) := by rw [hbl]; exact row_zero hrow2
            obtain ⟨A3, c3, w3, hrun3, p0, z3, hA3, hk3⟩ := hC2.ka.pushF ⟨A2, e2, f.b.take e, e⟩ hrow2' (by rw [hfle]; exact hfl2)
            have hrun3' : ∀ ty, (Builtin.append_ #[44, 44] ty #[.slice (some ⟨fb, 0, none⟩) (fm ++ gs).length Fc', .slice (some ⟨w2.heap.size, 0, none⟩) 1 1]).run Tryd.prog (w2.alloc (.cells #[.slice A2 (f.b.take e).length e2, .int .i64 e] 97)) = .ok (.slice A3 ((fm ++ gs).length + 1) c3) w3 := hrun3
            rw [hbl, hfle] at hrun3'
            have HR3 := Lib.hid hrun3'
            rw [hfle] at p0 hk3
            have q0 : w2.cell? ⟨k, 0, none⟩ = some (.slice (some ⟨fb, 0, none⟩) fl Fc') := by rw [← hfle]; exact hC2.ka.blk.cell 0
            have hst7 : ∀ w7, w7 = w3.setCell ⟨k, 0, none⟩ (.slice A3 (fl + 1) c3) → KCr w k fm names safe steps stop FA NA Nc (some ⟨b, off, none⟩) Sc WC n w7 (i + 1) (gs ++ [⟨A2, e2, f.b.take e, e⟩]) A3 c3 ∧ MRow w fm safe w7 i M Mc := by
              intro w7 hw7
              obtain ⟨hk7, ho7⟩ := hk3 w7 hw7
              have hnt : ∀ {g : Nat} {t : TypeId} {cs : Array Value}, Blk w2 g t cs → t ≠ 47 → t ≠ 97 → ¬ (g = k ∨ ∃ a, (some ⟨fb, 0, none⟩ : Option Addr) = some a ∧ g = a.block) := by
                rintro g t cs hg h1 h2 (rfl | ⟨a, ha, rfl⟩)
                · exact h1 (hg.same_type hC2.ka.blk)
                · obtain ⟨_, cur, hc⟩ := row_type hC2.ka.fl a ha
                  exact h2 (hg.same_type hc)
              refine ⟨⟨by rw [← List.append_assoc]; exact hk7, ?_, hC2.bx.only ho7 (hnt hC2.bx (by decide) (by decide)), ?_, ?_, ?_⟩, ?_⟩
              · rcases hA3 with h3 | ⟨a, h3, h4⟩
                · rw [h3]; exact hC2.fa
                · exact .inr ⟨a, h3, Nat.le_trans hC2.on.size h4⟩
              · rw [List.map_append, hC2.gl, List.take_add_one, hx]
                have hfx : fbs fm x.2 = (f.b, f.s) := by unfold fbs; rw [hf]; rfl
                have hkf : keptF n (fbs fm x.2) = (f.b.take e, e) := by
                  rw [hfx]
                  unfold keptF
                  rw [← HE.out]
                  show (f.b.take e, (f.b.take e).length) = _
                  rw [hbl]
                simp [hkf]
              · intro g hg a ha
                rcases List.mem_append.1 hg with hg | hg
                · exact hC2.gn g hg a ha
                · obtain rfl : g = ⟨A2, e2, f.b.take e, e⟩ := by simpa using hg
                  exact hnew2 a ha
              · refine hC2.on.step ho7 ?_
                rintro g hg (rfl | ⟨a, ha, rfl⟩)
                · exact .inl rfl
                · rcases hC2.fa with h3 | ⟨a', h3, h4⟩
                  · exact .inr ⟨a, by rw [← h3]; exact ha, rfl⟩
                  · rw [h3] at ha
                    injection ha with ha
                    subst ha
                    omega
              · exact row_only hM2 ho7 (fun a ha => by
                  obtain ⟨_, cur, hc⟩ := row_type hM2 a ha
                  exact hnt hc (by decide) (by decide))
            have HST7 := Lib.hid hst7
            clear hC1 hM1 hbox hx hf hmem hgl hfle hnx hrf hcap hrun2 hrow2 hb2 hc2 hC2 hM2 hnew2 hrow2' hrun3 hrun3' hk3 hst7 hbl hA3
            go_wp2_with (first | (at_builtin; refine Lib.wpList_append_run (o := ⟨some 66, _, _, _, _, _⟩) _ rfl _ _ _ _ rfl _ _ rfl rfl _ _ (HR2.out _) ?_) | (at_builtin; refine Lib.wpList_append_run (o := ⟨some 76, _, _, _, _, _⟩) _ rfl _ _ _ _ rfl _ _ rfl rfl _ _ (HR3.out _) ?_) | fail)
            clear hsl p0 z3 q0 b4 g0 g1
            refine wp_at (fun w7 => KCr w k fm names safe steps stop FA NA Nc (some ⟨b, off, none⟩) Sc WC n w7 (i + 1) (gs ++ [⟨A2, e2, f.b.take e, e⟩]) A3 c3 ∧ MRow w fm safe w7 i M Mc) (HST7.out _ rfl) ?_
            rintro w5 ⟨hC5, hM5⟩
            obtain ⟨hx, hf, hmem, hgl, hfle, hnx⟩ := HX.out
            obtain ⟨nf, hnf⟩ : ∃ nf, nf = fl + 1 := ⟨_, rfl⟩
            have hl5 : (fm ++ (gs ++ [(⟨A2, e2, f.b.take e, e⟩ : FM)])).length = nf := by rw [hnf, ← hfle]; simp; omega
            have a0 : w5.cell? ⟨k, 0, none⟩ = some (.slice A3 nf c3) := by rw [← hl5]; exact hC5.ka.blk.cell 0
            have a2 : w5.cell? ⟨k, 2, none⟩ = some (.slice (some ⟨b, off, none⟩) safe.length Sc) := hC5.ka.blk.cell 2
            obtain ⟨hn0, hn1⟩ := ncells_at safe i x hx
            obtain ⟨b2, off2, hB2, n0⟩ := (SlAt.of_owns hC5.ka.sf).at_ hn0
            injection hB2 with hB2
            injection hB2 with hB2 hB4 _
            subst hB2 hB4
            rw [← hnx] at n0
            have hw1 : IntKind.i64.wrap ((nf : Int) - 1) = (fl : Int) := by rw [IntKind.wrap_i64]; omega
            have hV : Below w5.heap.size w5 (w5.alloc (.cells #[.string nx, .int .i64 fl] 89)).drew := ((Below.refl _ w5).alloc (Nat.le_refl _) _).drew
            have hVb : Blk (w5.alloc (.cells #[.string nx, .int .i64 fl] 89)).drew w5.heap.size 89 #[.string nx, .int .i64 fl] := Blk.new w5 _ _
            obtain ⟨M6, Mc6, w6, hrun6, hrow6, hg6, hA6⟩ := run_append_sl (P := Tryd.prog) (w5.alloc (.cells #[.string nx, .int .i64 fl] 89)).drew 45 45 89 Tryd.underlying45 infoN rfl (by decide) M i Mc (ncells (crashN fm.length (safe.take i))) (row_zero (owns_below hM5 hV)) (some ⟨w5.heap.size, 0, none⟩) 1 1 [.string nx, .int .i64 fl] rfl (.inr ⟨w5.heap.size, 0, rfl, fun j u hu => by rw [Nat.zero_add, hVb.cell]; simpa using hu⟩) (by intro u hu; simp at hu; rcases hu with rfl | rfl <;> rfl) (by unfold maxLen; omega) (by omega)
            have HR6 : Hid (∀ ty, (Builtin.append_ #[45, 45] ty #[.slice M i Mc, .slice (some ⟨w5.heap.size, 0, none⟩) 1 1]).run Tryd.prog (w5.alloc (.cells #[.string nx, .int .i64 fl] 89)).drew = .ok (.slice M6 (i + 1) Mc6) w6) := Lib.hid (fun _ => hrun6)
            have hMge : ∀ a, M = some a → w.heap.size ≤ a.block := fun a ha => ownBlock_ge hM5 a.block (by rw [ha]; rfl)
            have ho6 : Only (fun q => ∃ a, M = some a ∧ q = a.block) w5 w6 := (Only.of_below hV).trans ⟨hg6.os, hg6.tape, hg6.output, hg6.size, fun q hq hn => hg6.block q hq (by
              intro e
              cases hA : M with
              | none => rw [hA] at e; cases e
              | some a => rw [hA] at e; exact hn ⟨a, hA, Option.some.inj e⟩)⟩
            have hnt : ∀ {g : Nat} {t : TypeId} {cs : Array Value}, Blk w5 g t cs → t ≠ 89 → ¬ ∃ a, M = some a ∧ g = a.block := by
              rintro g t cs hg h1 ⟨a, ha, rfl⟩
              obtain ⟨_, cur, hc⟩ := row_type hM5 a ha
              exact h1 (hg.same_type hc)
            have hrt : ∀ {e : TypeId} {base size n c : Nat} {A : Option Addr} {xs : List Value}, w5.ownsRow base e size (.slice A n c) n xs → e ≠ 89 → w6.ownsRow base e size (.slice A n c) n xs := fun hr he => row_only hr ho6 (fun a ha => by
              obtain ⟨_, cur, hc⟩ := row_type hr a ha
              exact hnt hc he)
            have hlow : ∀ {base size n c n' c' : Nat} {A : Option Addr} {xs ys : List Value}, w5.ownsRow base 89 size (.slice A n c) n xs → w.ownsRow 0 89 2 (.slice A n' c') n' ys → w6.ownsRow base 89 size (.slice A n c) n xs := fun hr h0 => row_only hr ho6 (fun a ha => by
              obtain ⟨_, cur, hc⟩ := row_type h0 a ha
              rintro ⟨a', ha', e⟩
              have := hMge a' ha'
              have := hc.lt
              omega)
            have hKA6 : KAt w6 k (fm ++ (gs ++ [⟨A2, e2, f.b.take e, e⟩])) names safe steps stop A3 c3 NA Nc (some ⟨b, off, none⟩) Sc := ⟨hC5.ka.blk.only ho6 (hnt hC5.ka.blk (by decide)), hrt hC5.ka.fl (by decide), fun g hg => hrt (hC5.ka.fb g hg) (by decide), hlow hC5.ka.nm HH.out.2.2.2.2.nm, hlow hC5.ka.sf HH.out.2.2.2.2.sf⟩
            have hC6 : KCr w k fm names safe steps stop FA NA Nc (some ⟨b, off, none⟩) Sc WC n w6 (i + 1) (gs ++ [⟨A2, e2, f.b.take e, e⟩]) A3 c3 := ⟨hKA6, hC5.fa, hC5.bx.only ho6 (hnt hC5.bx (by decide)), hC5.gl, hC5.gn, hC5.on.step ho6 (fun g hg h => by
              obtain ⟨a, ha, e⟩ := h
              have := hMge a ha
              omega)⟩
            have hM6 : MRow w fm safe w6 (i + 1) M6 Mc6 := by
              unfold MRow
              have htl : (safe.take i).length = i := by rw [List.length_take]; omega
              have hfl3 : fm.length + i = fl := by rw [← hfle, List.length_append, hgl]
              rw [List.take_add_one, hx]
              show w6.ownsRow w.heap.size 89 2 (.slice M6 (i + 1) Mc6) (i + 1) (ncells (crashN fm.length (safe.take i ++ [x])))
              rw [crashN_snoc, ncells_append, htl, hfl3]
              have h6 := row_base hrow6 (b1 := w.heap.size) (fun a ha => by
                rcases hA6 with ⟨h3, _⟩ | h3
                · exact hMge a (by rw [← h3]; exact ha)
                · rw [h3] at ha
                  injection ha with ha
                  subst ha
                  have := hC5.on.size
                  simp
                  omega)
              have hnn : ncells [(x.1, fl)] = [.string nx, .int .i64 fl] := by rw [hnx]; rfl
              rw [hnn]
              exact h6
            have p0 : w6.cell? ⟨k, 0, none⟩ = some (.slice A3 nf c3) := by rw [← hl5]; exact hKA6.blk.cell 0
            have p2 : w6.cell? ⟨k, 2, none⟩ = some (.slice (some ⟨b, off, none⟩) safe.length Sc) := hKA6.blk.cell 2
            obtain ⟨b2, off2, hB2, pn⟩ := (SlAt.of_owns hKA6.sf).at_ hn0
            injection hB2 with hB2
            injection hB2 with hB2 hB4 _
            subst hB2 hB4
            rw [← hnx] at pn
            have H6 := Lib.hid (And.intro hC6 hM6)
            clear hC5 hM5 hx hf hmem hgl hfle hnx hnf hl5 hn0 hn1 hV hVb hrun6 hrow6 hg6 hA6 hMge ho6 hnt hrt hlow hKA6 hC6 hM6
            go_region_held3 (fun w' => w'.cell? ⟨k, 0, none⟩ = some (.slice A3 nf c3) ∧ w'.cell? ⟨k, 2, none⟩ = some (.slice (some ⟨b, off, none⟩) safe.length Sc) ∧ w'.cell? ⟨b, off + i * 2, none⟩ = some (.string nx)) (first | (with_reducible exact ⟨a0, a2, n0⟩) | (with_reducible exact ⟨p0, p2, pn⟩) | go_keep) (first
              | (refine step_append_run (o := ⟨some 96, _, _, _, _, _⟩) rfl _ _ _ _ rfl _ _ rfl rfl (HR6.out _) ?_)
              | fail)
            all_goals go_wp2_with fail
            all_goals
              go_roundw
              case rel => exact ⟨i + 1, M6, Mc6, _, A3, c3, by go_num, hlt, rfl, H6.out.1, H6.out.2⟩
              case measure => simp [intOf] <;> omega
    · obtain rfl : i = safe.length := by omega
      have d0 : decide ((safe.length : Int) < (safe.length : Int)) = false := by simp
      have c0 : wr.cell? ⟨k, 0, none⟩ = some (.slice FA' (fm ++ gs).length Fc') := hC.ka.blk.cell 0
      have c1 : wr.cell? ⟨k, 1, none⟩ = some (.slice NA names.length Nc) := hC.ka.blk.cell 1
      have c3 : wr.cell? ⟨k, 3, none⟩ = some (.int .i64 steps) := hC.ka.blk.cell 3
      have c4 : wr.cell? ⟨k, 4, none⟩ = some (.int .i64 stop) := hC.ka.blk.cell 4
      have z := hC.ka.blk.frozen
      have HC := Lib.hid (And.intro hC hM)
      clear hC hM
      go_wp2_with fail
      go_ret
      obtain ⟨hC, hM⟩ := HC.out
      have hM0 : wr.ownsRow 0 89 2 (.slice M (crashN fm.length safe).length Mc) (crashN fm.length safe).length (ncells (crashN fm.length safe)) := by
        have := row_zero hM
        rw [List.take_length] at this
        rw [crashN_len]
        exact this
      have h1 := hC.ka.names_ (crashN fm.length safe) M Mc hM0
      have h2 := h1.safe_ (crashN fm.length safe) M Mc h1.nm
      have h3 := (h2.steps_ 0).stop_ (-1)
      rw [crashN_len] at h3
      refine ⟨rfl, _, _, _, _, _, _, _, h3, ⟨gs, rfl, by have := hC.gl; rw [List.take_length] at this; exact this⟩, ?_, ?_, ?_⟩
      · intro g hg a ha
        rcases List.mem_append.1 hg with hg | hg
        · exact .inl ⟨g, hg, ha⟩
        · exact .inr (hC.gn g hg a ha)
      · exact hC.fa
      · exact (((hC.on.setCell (p := ⟨k, 1, none⟩) (.inl rfl) _).setCell (p := ⟨k, 2, none⟩) (.inl rfl) _).setCell (p := ⟨k, 3, none⟩) (.inl rfl) _).setCell (p := ⟨k, 4, none⟩) (.inl rfl) _
end Go.Proofs.YtbfmdpgghknccaaDoor
