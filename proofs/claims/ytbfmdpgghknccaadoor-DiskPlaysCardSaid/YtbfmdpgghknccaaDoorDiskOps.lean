/- package disk: New, Create, Sync, SyncNames: contracts, where nothing is wrong. -/
import Derived.Test.YtbfmdpgghknccaaDoorDisk
import Derived.Test.YtbfmdpgghknccaaDoorRow
namespace Go.Proofs.YtbfmdpgghknccaaDoor
open Go.RowKit Go.Maps
set_option linter.unusedVariables false
set_option linter.unusedSimpArgs false

def u8s (l : List Int) : List Value := l.map fun (x : Int) => Value.int .u8 x

/-- A file: its block, the row of its bytes. -/
structure Fl (w : World) (f : Nat) (A : Option Addr) (c : Nat) (xs : List Int) (safe : Int) : Prop where
  blk : Blk w f 92 #[.slice A xs.length c, .int .i64 safe]
  row : w.ownsRow 0 5 1 (.slice A xs.length c) xs.length (u8s xs)
theorem Fl.only {w w' : World} {f : Nat} {A : Option Addr} {c : Nat} {xs : List Int} {safe : Int} (h : Fl w f A c xs safe) {X : Nat → Prop} (ho : Only X w w') (hf : ¬ X f) (hA : ∀ a, A = some a → ¬ X a.block) : Fl w' f A c xs safe := by
  refine ⟨h.blk.only ho hf, h.row.1, ?_⟩
  rcases h.row.2 with hn | ⟨g, cap, cur, hv, hb, hg, rest⟩
  · exact .inl hn
  · refine .inr ⟨g, cap, cur, hv, hb, ?_, rest⟩
    injection hv with hA' _ _
    rw [ho.block g (Array.getElem?_eq_some_iff.1 hg).1 (hA _ hA')]
    exact hg
theorem Fl.below {w w' : World} {f : Nat} {A : Option Addr} {c : Nat} {xs : List Int} {safe : Int} (h : Fl w f A c xs safe) (hb : Below w.heap.size w w') : Fl w' f A c xs safe :=
  h.only (Only.of_below hb (S := fun _ => False)) (fun h => h) (fun _ _ h => h)
theorem Blk.same_type {w : World} {g : Nat} {t t' : TypeId} {cs cs' : Array Value} (h : Blk w g t cs) (h' : Blk w g t' cs') : t = t' := by
  unfold Blk at h h'
  rw [h] at h'
  injection h' with h'
  injection h' with h1 h2 _
theorem MapIs.tight {w : World} {b : Nat} {D : DataW Nat} (h : MapIs w b D) : w.ownsMap Tryd.prog 9 ptrElem b (Maps.size D) D := by
  obtain ⟨n, es, clock, hb, F, hs, rfl⟩ := h
  refine ⟨es, clock, hb, F, ?_, rfl⟩
  show es.size ≤ List.length _
  rw [length_sorted]
  simp

theorem Only.of_grown {w w' : World} {b : Nat} (h : w.grownBy w' (some b)) : Only (fun k => k = b) w w' := ⟨h.os, h.tape, h.output, h.size, fun k hk hn => h.block k hk (fun e => hn (Option.some.inj e))⟩
theorem MapIs.alloc {w : World} {b : Nat} {D : DataW Nat} (h : MapIs w b D) (o : Obj) : MapIs (w.alloc o) b D := h.only ((Only.refl (fun _ => False) w).alloc o) (fun h => h)
theorem Dk.alloc {w : World} {d bn bs : Nat} {N S : DataW Nat} {steps stop : Int} (h : Dk w d bn bs N S steps stop) (o : Obj) : Dk (w.alloc o) d bn bs N S steps stop := h.only ((Only.refl (fun _ => False) w).alloc o) (fun h => h) (fun h => h) (fun h => h)
theorem Dk.drewN {w : World} {d bn bs : Nat} {N S : DataW Nat} {steps stop : Int} (h : Dk w d bn bs N S steps stop) (n : Nat) : Dk (w.drewN n) d bn bs N S steps stop := h.only ((Only.refl (fun _ => False) w).drewN n) (fun h => h) (fun h => h) (fun h => h)
theorem Fl.drewN {w : World} {f : Nat} {A : Option Addr} {c : Nat} {xs : List Int} {safe : Int} (h : Fl w f A c xs safe) (n : Nat) : Fl (w.drewN n) f A c xs safe := h.only ((Only.refl (fun _ => False) w).drewN n) (fun h => h) (fun _ _ h => h)
theorem Dk.nd {w : World} {d bn bs : Nat} {N S : DataW Nat} {steps stop : Int} (h : Dk w d bn bs N S steps stop) : bn ≠ d ∧ bs ≠ d := ⟨h.nm.ne_blk h.blk, h.sf.ne_blk h.blk⟩
theorem Fl.ne_blk {w : World} {f : Nat} {A : Option Addr} {c : Nat} {xs : List Int} {safe : Int} (h : Fl w f A c xs safe) {g : Nat} {t : TypeId} {cs : Array Value} (hg : Blk w g t cs) (ht : t ≠ 5) : ∀ a, A = some a → a.block ≠ g := by
  intro a ha e
  subst e
  rcases h.row.2 with ⟨hv, _⟩ | ⟨g, cap, cur, hv, hb, hgg, rest⟩
  · injection hv with h1 _ _
    rw [ha] at h1
    cases h1
  · injection hv with h1 _ _
    rw [ha] at h1
    injection h1 with h1
    subst h1
    have hh : Blk w g 5 cur := hgg
    exact ht (hg.same_type hh)
theorem Fl.apart {w : World} {f : Nat} {A : Option Addr} {c : Nat} {xs : List Int} {safe : Int} (h : Fl w f A c xs safe) : ∀ a, A = some a → a.block ≠ f := h.ne_blk h.blk (by decide)
/-- A block whose cell 0 is known. -/
theorem Dk.c0 {w : World} {d bn bs : Nat} {N S : DataW Nat} {steps stop : Int} (h : Dk w d bn bs N S steps stop) : w.cell? ⟨d, 0, none⟩ = some (.map (some bn)) := h.blk.cell 0
theorem Dk.c1 {w : World} {d bn bs : Nat} {N S : DataW Nat} {steps stop : Int} (h : Dk w d bn bs N S steps stop) : w.cell? ⟨d, 1, none⟩ = some (.map (some bs)) := h.blk.cell 1

set_option maxRecDepth 100000 in
theorem new_any (w : World) : Calls Tryd.prog 8 #[] w fun e w' => e = .returned (.pointer (some ⟨w.heap.size + 1 + 1, 0, none⟩)) ∧ Dk w' (w.heap.size + 1 + 1) w.heap.size (w.heap.size + 1) (.map []) (.map []) 0 (-1) ∧ Below w.heap.size w w' := by
  have hmm := @run_makeMap Tryd.prog
  go_enter Tryd.func8, Tryd.ntmps8
  go_wp2_with fail
  go_ret
  refine ⟨rfl, ⟨Blk.newer _ _ _ (by simp), ⟨0, ((World.ownsMap_made _ _ _ _).alloc _).alloc _⟩, ⟨0, ?_⟩, by omega⟩, (((Below.refl _ w).alloc (Nat.le_refl _) _).alloc (by simp) _).alloc (by simp; omega) _⟩
  have := (World.ownsMap_made (w.alloc (.map #[] 0)) Tryd.prog 9 ptrElem)
  rw [show (w.alloc (.map #[] 0)).heap.size = w.heap.size + 1 by simp] at this
  exact this.alloc _

theorem dkstep_ok (d bn bs : Nat) (N S : DataW Nat) (steps stop : Int) (w : World) (hd : Dk w d bn bs N S steps stop) (hgo : Goes steps stop) (h0 : 0 ≤ steps) (hk : steps ≤ 1000000000000) :
    Calls Tryd.prog 58 #[.pointer (some ⟨d, 0, none⟩), .nilIface] w fun e w' => e = .returned .nilIface ∧ Dk w' d bn bs N S (steps + 1) stop ∧ Only (fun k => k = d) w w' := by
  refine (step_ok d _ _ steps stop w hd.blk hgo h0 hk).mono ?_
  rintro e w' ⟨rfl, hb, ho⟩
  exact ⟨rfl, ⟨hb, hd.nm.only ho hd.nd.1, hd.sf.only ho hd.nd.2, hd.ne⟩, ho⟩

set_option maxRecDepth 100000 in
set_option maxHeartbeats 1000000 in
theorem create_ok (d bn bs : Nat) (N S : DataW Nat) (steps stop : Int) (s : ByteArray) (w : World) (hd : Dk w d bn bs N S steps stop) (hgo : Goes steps stop) (h0 : 0 ≤ steps) (hk : steps ≤ 1000000000000) (hs : s.size ≤ maxLen) (hg : goodB s = true)
    (hat : N.atKey (.string s.data.toList) .nil = ptrD none) (hsz : Maps.size N < maxLen) :
    Calls Tryd.prog 26 #[.pointer (some ⟨d, 0, none⟩), .string s] w fun e w' => e = .returned .nilIface ∧ ∃ f, w.heap.size ≤ f ∧ Dk w' d bn bs (N.put (.string s.data.toList) (.held f)) S (steps + 1) stop ∧ Fl w' f none 0 [] 0 ∧ Only (fun k => k = d ∨ k = bn) w w' := by
  have HG := Lib.hid (fun w1 => good_any s w1 (Nat.le_trans hs (by decide)))
  rw [hg] at HG
  have HK := Lib.hid (keyS s hs)
  have HD := Lib.hid hd
  have HS := Lib.hid (fun w1 h => dkstep_ok d bn bs N S steps stop w1 h hgo h0 hk)
  have HA := Lib.hid (And.intro hat hsz)
  clear hd hgo h0 hk hs hg hat hsz
  go_enter Tryd.func26, Tryd.ntmps26
  go_wp2_with fail
  refine (HG.out _).mono ?_
  rintro e w1 ⟨rfl, hb1⟩
  have hD1 := HD.out.below hb1
  have c0 := hD1.c0
  have hn1 := hD1.nm.tight
  have H1 := Lib.hid (And.intro hb1 hD1)
  clear hb1 hD1
  go_wp2_with (first | (at_lookup; refine wpList_lookup_nil _ rfl _ _ 78 rfl 9 93 lawS Tryd.underlying78 (zeroF _) bn _ _ rfl hn1 _ _ rfl HK.out HA.out.1 ?_) | fail)
  clear c0 hn1
  refine (HS.out _ H1.out.2).mono ?_
  rintro e w2 ⟨rfl, hD2, ho2⟩
  have c0 := hD2.c0
  have hn2 := (hD2.nm.alloc (.cells #[.slice none 0 0, .int .i64 0] 92)).tight
  have H2 := Lib.hid (And.intro hD2 ho2)
  clear hD2 ho2
  go_wp2_with (first | (at_mapUpdate; refine wpList_update_ptr _ rfl _ _ _ 78 rfl 9 93 lawS Tryd.underlying78 bn _ _ rfl hn2 HA.out.2 _ _ rfl HK.out (some w2.heap.size) rfl ?_; intro w3 hn3 hg3 hs3) | fail)
  clear c0 hn2
  go_ret
  have ho := Only.of_grown hg3
  have hf3 : Fl (w2.alloc (.cells #[.slice none 0 0, .int .i64 0] 92)) w2.heap.size none 0 [] 0 := ⟨Blk.new _ _ _, World.ownsRow_nil _ _ _ _⟩
  have hD2 := H2.out.1.alloc (.cells #[.slice none 0 0, .int .i64 0] 92)
  have hlt := H2.out.1.nm.lt
  have hall : Only (fun k => k = d ∨ k = bn) w w3 := by
    refine ((((Only.of_below H1.out.1).trans (H2.out.2.mono (fun k _ h => Or.inl h))).trans (((Only.refl _ w2).alloc _))).trans (ho.mono (fun k _ h => Or.inr h)))
  refine ⟨rfl, w2.heap.size, ?_, ⟨hD2.blk.only ho (fun e => hD2.nd.1 e.symm), ⟨_, hn3⟩, hD2.sf.only ho (fun e => hD2.ne e.symm), hD2.ne⟩, hf3.only ho (by omega) (by intro a h; cases h), hall⟩
  have := H1.out.1.size
  have := H2.out.2.size
  omega

set_option maxRecDepth 100000 in
set_option maxHeartbeats 1000000 in
theorem sync_ok (d bn bs : Nat) (N S : DataW Nat) (steps stop : Int) (s : ByteArray) (f : Nat) (A : Option Addr) (c : Nat) (xs : List Int) (sf : Int) (w : World) (hd : Dk w d bn bs N S steps stop) (hgo : Goes steps stop) (h0 : 0 ≤ steps) (hk : steps ≤ 1000000000000) (hs : s.size ≤ maxLen) (hg : goodB s = true)
    (hat : N.atKey (.string s.data.toList) .nil = ptrD (some f)) (hf : Fl w f A c xs sf) :
    Calls Tryd.prog 28 #[.pointer (some ⟨d, 0, none⟩), .string s] w fun e w' => e = .returned .nilIface ∧ Dk w' d bn bs N S (steps + 1) stop ∧ Fl w' f A c xs xs.length ∧ Only (fun k => k = d ∨ k = f) w w' := by
  have HG := Lib.hid (fun w1 h => named_any d bn (.map (some bs)) steps stop N s (some f) w1 h)
  have he : errV (namedE s (some f)) = .nilIface := by unfold namedE; rw [hg]; rfl
  rw [he] at HG
  have HK := Lib.hid (keyS s hs)
  have HD := Lib.hid (And.intro hd hf)
  have HS := Lib.hid (fun w1 h => dkstep_ok d bn bs N S steps stop w1 h hgo h0 hk)
  have HA := Lib.hid (And.intro hat hs)
  clear hd hgo h0 hk hs hg hat hf he
  go_enter Tryd.func28, Tryd.ntmps28
  go_wp2_with fail
  refine (HG.out _ HD.out.1.blk HD.out.1.nm HA.out.2 HA.out.1).mono ?_
  rintro e w1 ⟨rfl, hb1⟩
  have hD1 := HD.out.1.below hb1
  have hF1 := HD.out.2.below hb1
  have H1 := Lib.hid (And.intro hb1 (And.intro hD1 hF1))
  clear hb1 hD1 hF1
  go_wp2_with fail
  refine (HS.out _ H1.out.2.1).mono ?_
  rintro e w2 ⟨rfl, hD2, ho2⟩
  have hfd : ¬ f = d := fun e => by subst e; exact absurd (H1.out.2.1.blk.same_type H1.out.2.2.blk) (by decide)
  have hF2 := H1.out.2.2.only ho2 hfd (H1.out.2.2.ne_blk H1.out.2.1.blk (by decide))
  have c0 := hD2.c0
  have hn2 := hD2.nm.tight
  have f0 : w2.cell? ⟨f, 0, none⟩ = some (.slice A xs.length c) := hF2.blk.cell 0
  have f1 : w2.cell? ⟨f, 1, none⟩ = some (.int .i64 sf) := hF2.blk.cell 1
  have z := hF2.blk.frozen
  have H2 := Lib.hid (And.intro hD2 (And.intro ho2 (And.intro hF2 hfd)))
  clear hD2 ho2 hF2 hfd
  go_wp2_with (first | (at_lookup; refine wpList_lookup_to _ rfl _ _ 78 rfl 9 93 lawS Tryd.underlying78 (zeroF _) bn _ _ rfl hn2 _ _ rfl HK.out f HA.out.1 ?_) | fail)
  clear c0 hn2 f0 f1 z
  go_ret
  have ho3 : Only (fun k => k = f) w2 (w2.setCell ⟨f, 1, none⟩ (.int .i64 xs.length)) := (Only.refl (fun k => k = f) w2).setCell (p := ⟨f, 1, none⟩) rfl _
  have hD2 := H2.out.1
  have hF2 := H2.out.2.2.1
  have hfb := fun {D : DataW Nat} {b : Nat} (h : MapIs w2 b D) => h.ne_blk hF2.blk
  refine ⟨rfl, hD2.only ho3 (fun e => H2.out.2.2.2 e.symm) (hfb hD2.nm) (hfb hD2.sf), ⟨?_, ?_⟩, ?_⟩
  · have := hF2.blk.set_ 1 (.int .i64 xs.length)
    simpa using this
  · have hr := hF2.row
    refine hr.kept (row := some f) ⟨rfl, rfl, rfl, ho3.size, fun k hk hn => ho3.block k hk (fun e => hn (by rw [e]))⟩ ?_
    cases A with
    | none => exact .inl rfl
    | some a => exact .inr (fun e => hF2.apart a rfl (Option.some.inj e))
  · exact ((Only.of_below H1.out.1).trans (H2.out.2.1.mono (fun k _ h => Or.inl h))).trans (ho3.mono (fun k _ h => Or.inr h))
end Go.Proofs.YtbfmdpgghknccaaDoor
