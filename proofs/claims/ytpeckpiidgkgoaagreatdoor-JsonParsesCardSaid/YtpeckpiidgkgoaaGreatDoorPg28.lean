/- RefKidsHead, RefKids. -/
import Derived.Test.YtpeckpiidgkgoaaGreatDoorPg16
import Derived.Test.YtpeckpiidgkgoaaGreatDoorPg27
import Derived.Test.YtpeckpiidgkgoaaGreatDoorPg5
import Derived.Laws.Cover1
import Derived.Deep.RegionLaw
import Derived.Deep.DeepCutAuto
import Derived.Deep.CutBlock
/- The reference's kids: what its loop holds. -/
namespace Go.Proofs.YtpeckpiidgkgoaaGreatDoor
open Go.RowKit
set_option linter.unusedVariables false
set_option linter.unusedSimpArgs false

/-- The loop over the kids. -/
structure RKI (w : World) (pb : Nat) (s : ByteArray) (kind : Int) (a : Nat) (tr wg bad : Int) (ks : List ByteArray) (done : List PT) (kA : Option Addr) (kc : Nat) (cA : Option Addr) (cc : Nat) (wr : World) : Prop where
  rd : Rp wr pb s a tr wg bad
  res : Blk wr w.heap.size 29 #[.int .i64 0, .int .i64 0, .string ⟨#[]⟩, .int .i64 0, .int .i64 0, .slice none 0 0, .slice none 0 0]
  box : Blk wr (w.heap.size + 1) 29 #[.int .i64 kind, .int .i64 0, .string ⟨#[]⟩, .int .i64 0, .int .i64 0, .slice kA ks.length kc, .slice cA done.length cc]
  keys : wr.ownsRow 0 9 1 (.slice kA ks.length kc) ks.length (ks.map Value.string)
  kids : wr.ownsRow 0 29 7 (.slice cA done.length cc) done.length (PT.cellsL done)
  own : ∀ D ∈ done, OwnJ 9 29 wr D
  nd : (blkOf kA ++ (blkOf cA ++ PT.ownL done)).Nodup
  low : ∀ b ∈ blkOf kA ++ (blkOf cA ++ PT.ownL done), w.heap.size + 2 ≤ b
  only : Only (fun k => k = pb) w wr
  each : ∀ k ∈ ks, k.size ≤ 20
section
variable {w wr : World} {pb : Nat} {s : ByteArray} {kind : Int} {a : Nat} {tr wg bad : Int} {ks : List ByteArray} {done : List PT} {kA : Option Addr} {kc : Nat} {cA : Option Addr} {cc : Nat}
theorem RKI.lt (h : RKI w pb s kind a tr wg bad ks done kA kc cA cc wr) : ∀ b ∈ blkOf kA ++ (blkOf cA ++ PT.ownL done), b < wr.heap.size := by
  intro b hb
  rcases List.mem_append.1 hb with hb | hb
  · exact own_lt h.keys b hb
  · rcases List.mem_append.1 hb with hb | hb
    · exact own_lt h.kids b hb
    · exact ownL_lt' h.own b hb
/-- All but the reader stays. -/
theorem RKI.keep {w' : World} {a' : Nat} {tr' wg' bad' : Int} (h : RKI w pb s kind a tr wg bad ks done kA kc cA cc wr) (hr : Rp w' pb s a' tr' wg' bad') (ho : Only (fun k => k = pb) w w') (hk : ∀ b, w.heap.size ≤ b → b < wr.heap.size → w'.heap[b]? = wr.heap[b]?) : RKI w pb s kind a' tr' wg' bad' ks done kA kc cA cc w' := by
  have hl := h.low
  refine ⟨hr, (hk _ (Nat.le_refl _) h.res.lt).trans h.res, (hk _ (by omega) h.box.lt).trans h.box, own_keep h.keys fun b hb hlt => hk b ?_ hlt, own_keep h.kids fun b hb hlt => hk b ?_ hlt, fun D hD => (h.own D hD).keep fun b hb hlt => hk b ?_ hlt, h.nd, h.low, ho, h.each⟩
  · have := hl b (List.mem_append_left _ hb); omega
  · have := hl b (List.mem_append_right _ (List.mem_append_left _ hb)); omega
  · have := hl b (List.mem_append_right _ (List.mem_append_right _ (PT.ownL_mem hD hb))); omega
theorem RKI.turn {w' : World} {a' : Nat} {tr' wg' bad' : Int} (h : RKI w pb s kind a tr wg bad ks done kA kc cA cc wr) (hpb : pb < w.heap.size) (hr : Rp w' pb s a' tr' wg' bad') (ho : Only (fun k => k = pb) wr w') : RKI w pb s kind a' tr' wg' bad' ks done kA kc cA cc w' :=
  h.keep hr (h.only.trans ho) fun b hb hlt => ho.block b hlt (by omega)
theorem RKI.below {w' : World} (h : RKI w pb s kind a tr wg bad ks done kA kc cA cc wr) (hb : Below wr.heap.size wr w') : RKI w pb s kind a tr wg bad ks done kA kc cA cc w' :=
  h.keep (h.rd.below hb) (h.only.trans (Only.of_below hb)) fun b _ hlt => hb.block b hlt
theorem RKI.drewN (h : RKI w pb s kind a tr wg bad ks done kA kc cA cc wr) (n : Nat) : RKI w pb s kind a tr wg bad ks done kA kc cA cc (wr.drewN n) := h.keep (h.rd.drewN n) (h.only.drewN n) fun _ _ _ => rfl
theorem RKI.drew (h : RKI w pb s kind a tr wg bad ks done kA kc cA cc wr) : RKI w pb s kind a tr wg bad ks done kA kc cA cc wr.drew := h.drewN 1
/-- What an append and a store into the box leave. -/
theorem RKI.kept {We : World} {A : Option Addr} {n c j : Nat} {u : Value} (h : RKI w pb s kind a tr wg bad ks done kA kc cA cc wr) (hpb : pb < w.heap.size) (hA : ∀ b ∈ blkOf A, w.heap.size + 2 ≤ b) (hg : wr.grownBy We (Value.slice A n c).ownBlock) :
    (∀ b, b < wr.heap.size → b ∉ blkOf A → b ≠ w.heap.size + 1 → (We.setCell ⟨w.heap.size + 1, j, none⟩ u).heap[b]? = wr.heap[b]?) ∧ Only (fun k => k = pb) w (We.setCell ⟨w.heap.size + 1, j, none⟩ u) ∧ (∀ b, b ≠ w.heap.size + 1 → (We.setCell ⟨w.heap.size + 1, j, none⟩ u).heap[b]? = We.heap[b]?) ∧ Blk We (w.heap.size + 1) 29 #[.int .i64 kind, .int .i64 0, .string ⟨#[]⟩, .int .i64 0, .int .i64 0, .slice kA ks.length kc, .slice cA done.length cc] ∧ (We.setCell ⟨w.heap.size + 1, j, none⟩ u).heap.size = We.heap.size := by
  have hsz : wr.heap.size ≤ We.heap.size := hg.size
  have hbl : ∀ b, b < wr.heap.size → b ∉ blkOf A → We.heap[b]? = wr.heap[b]? := fun b hb hn => hg.block b hb (fun e => hn (ownB_of e.symm))
  have o := (Only.refl (· = w.heap.size + 1) We).setCell (p := ⟨w.heap.size + 1, j, none⟩) rfl u
  have hne : ∀ b, b ≠ w.heap.size + 1 → (We.setCell ⟨w.heap.size + 1, j, none⟩ u).heap[b]? = We.heap[b]? := by
    intro b hb
    by_cases hlt : b < We.heap.size
    · exact o.block b hlt hb
    · have e : (We.setCell ⟨w.heap.size + 1, j, none⟩ u).heap.size = We.heap.size := by simp
      rw [Array.getElem?_eq_none (by omega), Array.getElem?_eq_none (by omega)]
  refine ⟨fun b hb hn hx => (hne b hx).trans (hbl b hb hn), ?_, hne, ?_, by simp⟩
  · have hb1 : Below w.heap.size wr We := grown_below hg (by have := h.res.lt; omega) (fun k hk => by have := hA k (ownB_of hk); omega)
    have hb2 : Below w.heap.size We (We.setCell ⟨w.heap.size + 1, j, none⟩ u) := o.below (by have := h.res.lt; omega) (fun q hq e => by omega)
    exact (h.only.and_below hb1).and_below hb2
  · have hbx := h.box.lt
    show We.heap[w.heap.size + 1]? = _
    rw [hbl _ hbx (fun hm => by have := hA _ hm; omega)]
    exact h.box
/-- A key more. -/
theorem RKI.push_key {We : World} {A' : Option Addr} {c' : Nat} {k : ByteArray} (h : RKI w pb s kind a tr wg bad ks done kA kc cA cc wr) (hpb : pb < w.heap.size) (hk : k.size ≤ 20)
    (ho : We.ownsRow 0 9 1 (.slice A' (ks.length + 1) c') (ks.length + 1) (ks.map Value.string ++ [.string k])) (hg : wr.grownBy We (Value.slice kA ks.length kc).ownBlock) (hA : A' = kA ∨ A' = some ⟨wr.heap.size, 0, none⟩) :
    RKI w pb s kind a tr wg bad (ks ++ [k]) done A' c' cA cc (We.setCell ⟨w.heap.size + 1, 5, none⟩ (.slice A' (ks.length + 1) c')) := by
  obtain ⟨g1, g2, g3, g4, g5⟩ := h.kept (u := .slice A' (ks.length + 1) c') (j := 5) hpb (fun b hb => h.low b (List.mem_append_left _ hb)) hg
  have hl : (ks ++ [k]).length = ks.length + 1 := by simp
  have hap := fun {b : Nat} (hb : b ∈ blkOf cA ++ PT.ownL done) => fun (hm : b ∈ blkOf kA) => (List.nodup_append.1 h.nd).2.2 b hm b hb rfl
  have hw : ∀ b, b ∈ blkOf cA ++ PT.ownL done → (We.setCell ⟨w.heap.size + 1, 5, none⟩ (.slice A' (ks.length + 1) c')).heap[b]? = wr.heap[b]? := fun b hb => g1 b (h.lt b (List.mem_append_right _ hb)) (hap hb) (by have := h.low b (List.mem_append_right _ hb); omega)
  have hbn := blkOf_new hA
  have hsz : wr.heap.size ≤ We.heap.size := hg.size
  have hrl := h.res.lt
  have hbl := h.box.lt
  refine ⟨?_, ?_, ?_, ?_, ?_, ?_, ?_, ?_, g2, ?_⟩
  · exact (g1 pb (by omega) (fun hm => by have := h.low pb (List.mem_append_left _ hm); omega) (by omega)).trans h.rd
  · exact (g1 _ hrl (fun hm => by have := h.low _ (List.mem_append_left _ hm); omega) (by omega)).trans h.res
  · rw [hl]
    exact g4.set_ 5 _
  · rw [hl, List.map_append]
    refine own_keep ho fun b hb hlt => g3 b ?_
    rcases hbn b hb with hb | hb
    · have := h.low b (List.mem_append_left _ hb); omega
    · omega
  · exact own_keep h.kids fun b hb hlt => hw b (List.mem_append_left _ hb)
  · exact fun D hD => (h.own D hD).keep fun b hb hlt => hw b (List.mem_append_right _ (PT.ownL_mem hD hb))
  · have := nd_new (X := []) (Y := blkOf kA) (Z := blkOf cA ++ PT.ownL done) (n := wr.heap.size) (Y' := blkOf A') (by simpa using h.nd) (by simpa using h.lt) (blkOf_nodup _) (fun b hb => (hbn b hb).imp id (fun e => by omega))
    simpa using this
  · intro b hb
    rcases List.mem_append.1 hb with hb | hb
    · rcases hbn b hb with hb | hb
      · exact h.low b (List.mem_append_left _ hb)
      · omega
    · exact h.low b (List.mem_append_right _ hb)
  · intro x hx
    rcases List.mem_append.1 hx with hx | hx
    · exact h.each x hx
    · rw [List.mem_singleton] at hx; subst hx; exact hk
/-- A kid more. -/
theorem RKI.push_kid {We : World} {A' : Option Addr} {c' n0 : Nat} {T : PT} (h : RKI w pb s kind a tr wg bad ks done kA kc cA cc wr) (hpb : pb < w.heap.size) (hT : OwnJ 9 29 wr T) (hnd : T.own.Nodup) (hlow : ∀ b ∈ T.own, n0 ≤ b) (hn0 : ∀ b ∈ blkOf kA ++ (blkOf cA ++ PT.ownL done), b < n0) (hn1 : w.heap.size + 2 ≤ n0)
    (ho : We.ownsRow 0 29 7 (.slice A' (done.length + 1) c') (done.length + 1) (PT.cellsL done ++ T.cells)) (hg : wr.grownBy We (Value.slice cA done.length cc).ownBlock) (hA : A' = cA ∨ A' = some ⟨wr.heap.size, 0, none⟩) :
    RKI w pb s kind a tr wg bad ks (done ++ [T]) kA kc A' c' (We.setCell ⟨w.heap.size + 1, 6, none⟩ (.slice A' (done.length + 1) c')) := by
  have hlc : ∀ b ∈ blkOf cA, w.heap.size + 2 ≤ b := fun b hb => h.low b (List.mem_append_right _ (List.mem_append_left _ hb))
  obtain ⟨g1, g2, g3, g4, g5⟩ := h.kept (u := .slice A' (done.length + 1) c') (j := 6) hpb hlc hg
  have hl : (done ++ [T]).length = done.length + 1 := by simp
  have hcl : PT.cellsL (done ++ [T]) = PT.cellsL done ++ T.cells := by rw [PT.cellsL_append]; simp [PT.cellsL]
  have hol : PT.ownL (done ++ [T]) = PT.ownL done ++ T.own := by rw [PT.ownL_append]; simp [PT.ownL]
  have hsz : wr.heap.size ≤ We.heap.size := hg.size
  have hrl := h.res.lt
  have hbl := h.box.lt
  have hbn := blkOf_new hA
  have hTlt := hT.lt
  have hnd0 := h.nd
  have hkc : ∀ b ∈ blkOf kA, b ∉ blkOf cA := fun b hb hm => (List.nodup_append.1 hnd0).2.2 b hb b (List.mem_append_left _ hm) rfl
  have hdc : ∀ b ∈ PT.ownL done, b ∉ blkOf cA := fun b hb hm => (List.nodup_append.1 (List.nodup_append.1 hnd0).2.1).2.2 b hm b hb rfl
  refine ⟨?_, ?_, ?_, ?_, ?_, ?_, ?_, ?_, g2, h.each⟩
  · exact (g1 pb (by omega) (fun hm => by have := hlc pb hm; omega) (by omega)).trans h.rd
  · exact (g1 _ hrl (fun hm => by have := hlc _ hm; omega) (by omega)).trans h.res
  · rw [hl]
    exact g4.set_ 6 _
  · exact own_keep h.keys fun b hb hlt => g1 b hlt (hkc b hb) (by have := h.low b (List.mem_append_left _ hb); omega)
  · rw [hl, hcl]
    refine own_keep ho fun b hb hlt => g3 b ?_
    rcases hbn b hb with hb | hb
    · have := hlc b hb; omega
    · omega
  · intro D hD
    rcases List.mem_append.1 hD with hD | hD
    · refine (h.own D hD).keep fun b hb hlt => g1 b hlt (hdc b (PT.ownL_mem hD hb)) ?_
      have := h.low b (List.mem_append_right _ (List.mem_append_right _ (PT.ownL_mem hD hb))); omega
    · rw [List.mem_singleton] at hD
      subst hD
      refine hT.keep fun b hb hlt => g1 b hlt ?_ ?_
      · intro hm
        have := hn0 b (List.mem_append_right _ (List.mem_append_left _ hm))
        have := hlow b hb
        omega
      · have := hlow b hb; omega
  · rw [hol]
    have h1 := nd_new (X := blkOf kA) (Y := blkOf cA) (Z := PT.ownL done) (n := wr.heap.size) (Y' := blkOf A') hnd0 h.lt (blkOf_nodup _) (fun b hb => (hbn b hb).imp id (fun e => by omega))
    rw [← List.append_assoc, ← List.append_assoc, List.append_assoc (blkOf kA), List.nodup_append]
    refine ⟨h1, hnd, ?_⟩
    intro x hx y hy e
    subst e
    have hy1 := hlow x hy
    have hy2 := hTlt x hy
    rcases List.mem_append.1 hx with hx | hx
    · have := hn0 x (List.mem_append_left _ hx); omega
    · rcases List.mem_append.1 hx with hx | hx
      · rcases hbn x hx with hx | hx
        · have := hn0 x (List.mem_append_right _ (List.mem_append_left _ hx)); omega
        · omega
      · have := hn0 x (List.mem_append_right _ (List.mem_append_right _ hx)); omega
  · intro b hb
    rw [hol] at hb
    simp only [List.mem_append] at hb
    rcases hb with hb | hb | hb | hb
    · exact h.low b (by simp only [List.mem_append]; exact .inl hb)
    · rcases hbn b hb with hb | hb
      · exact hlc b hb
      · omega
    · exact h.low b (by simp only [List.mem_append]; exact .inr (.inr hb))
    · have := hlow b hb; omega
end
end Go.Proofs.YtpeckpiidgkgoaaGreatDoor
/- The reference's kids, given what Tree does: the contract. -/
namespace Go.Proofs.YtpeckpiidgkgoaaGreatDoor
open Go.RowKit
set_option linter.unusedVariables false
set_option linter.unusedSimpArgs false

theorem ris_y (w : World) (pb : Nat) (s : ByteArray) (hs : s.size ≤ 60000) (at_ : Nat) (hat : at_ ≤ s.size) (tr wr bad : Int) (c : ByteArray) (hc : c.size ≤ 100) (h : Rp w pb s at_ tr wr bad) (hy : isB s c at_ = true) :
    Calls Tryz.prog 14 #[.pointer (some ⟨pb, 0, none⟩), .string c] w fun e w' => e = .returned (.bool true) ∧ Rp w' pb s (at_ + c.size) tr wr bad ∧ Only (fun k => k = pb) w w' := by
  have := is_any w pb s hs at_ hat tr wr bad c hc h
  rw [hy] at this
  exact this
theorem ris_n (w : World) (pb : Nat) (s : ByteArray) (hs : s.size ≤ 60000) (at_ : Nat) (hat : at_ ≤ s.size) (tr wr bad : Int) (c : ByteArray) (hc : c.size ≤ 100) (h : Rp w pb s at_ tr wr bad) (hy : isB s c at_ = false) :
    Calls Tryz.prog 14 #[.pointer (some ⟨pb, 0, none⟩), .string c] w fun e w' => e = .returned (.bool false) ∧ Rp w' pb s at_ tr wr bad ∧ Only (fun k => k = pb) w w' := by
  have := is_any w pb s hs at_ hat tr wr bad c hc h
  rw [hy] at this
  exact this
theorem isB_no {s : ByteArray} {at_ : Nat} (c : UInt8) (h : ¬ (toN s)[at_]? = some c.toNat) : isB s ⟨#[c]⟩ at_ = false := Bool.eq_false_iff.2 (fun e => h ((isB_one c).1 e))
/-- How many trees there may still be. -/
def trOf (pb : Nat) (w : World) : Nat := (400 - intOf ((w.cell? ⟨pb, 2, none⟩).getD undef)).toNat
theorem trOf_eq {w : World} {pb : Nat} {s : ByteArray} {a l : Nat} {wg bad : Int} (h : Rp w pb s a (400 - (l : Int)) wg bad) : trOf pb w = l := by
  unfold trOf
  rw [h.cells.2.2.1]
  simp [intOf]
  omega
/-- The reader, the result's place, and a box of whatever kind, when the text is wrong. -/
def RBad (w : World) (pb : Nat) (s : ByteArray) (q : Nat) (x : Int) (W : World) : Prop := ∃ (at_ : Nat) (tr : Int), at_ ≤ s.size ∧ RS w pb s at_ tr q x W ∧ ∃ (k n : Int) (st : ByteArray) (o p : Int) (kA : Option Addr) (kn kc : Nat) (cA : Option Addr) (cn cc : Nat), Blk W (w.heap.size + 1) 29 #[.int .i64 k, .int .i64 n, .string st, .int .i64 o, .int .i64 p, .slice kA kn kc, .slice cA cn cc]
theorem RKI.rs {w wr : World} {pb : Nat} {s : ByteArray} {kind : Int} {a : Nat} {tr wg bad : Int} {ks : List ByteArray} {done : List PT} {kA : Option Addr} {kc : Nat} {cA : Option Addr} {cc : Nat} (h : RKI w pb s kind a tr wg bad ks done kA kc cA cc wr) : RS w pb s a tr wg bad wr := ⟨h.rd, h.res, h.only⟩
theorem RKI.rbad {w wr : World} {pb : Nat} {s : ByteArray} {kind : Int} {a q : Nat} {tr x : Int} {ks : List ByteArray} {done : List PT} {kA : Option Addr} {kc : Nat} {cA : Option Addr} {cc : Nat} (h : RKI w pb s kind a tr q x ks done kA kc cA cc wr) (ha : a ≤ s.size) : RBad w pb s q x wr :=
  ⟨a, tr, ha, h.rs, kind, 0, ⟨#[]⟩, 0, 0, kA, ks.length, kc, cA, done.length, cc, h.box⟩
/-- A kid more, whatever it is. -/
theorem RKI.push_any {w wr : World} {pb : Nat} {s : ByteArray} {kind : Int} {a q : Nat} {tr x : Int} {ks : List ByteArray} {done : List PT} {kA : Option Addr} {kc : Nat} {cA : Option Addr} {cc : Nat} {We : World} {A' : Option Addr} {n' c' : Nat}
    (h : RKI w pb s kind a tr q x ks done kA kc cA cc wr) (ha : a ≤ s.size) (hpb : pb < w.heap.size) (hg : wr.grownBy We (Value.slice cA done.length cc).ownBlock) :
    RBad w pb s q x (We.setCell ⟨w.heap.size + 1, 6, none⟩ (.slice A' n' c')) := by
  have hlc : ∀ b ∈ blkOf cA, w.heap.size + 2 ≤ b := fun b hb => h.low b (List.mem_append_right _ (List.mem_append_left _ hb))
  obtain ⟨g1, g2, g3, g4, g5⟩ := h.kept (u := .slice A' n' c') (j := 6) hpb hlc hg
  have hrl := h.res.lt
  refine ⟨a, tr, ha, ⟨?_, ?_, g2⟩, kind, 0, ⟨#[]⟩, 0, 0, kA, ks.length, kc, A', n', c', g4.set_ 6 _⟩
  · exact (g1 pb (by omega) (fun hm => by have := hlc pb hm; omega) (by omega)).trans h.rd
  · exact (g1 _ hrl (fun hm => by have := hlc _ hm; omega) (by omega)).trans h.res
/-- What Tree does, with so many left. -/
def RTreeC (pb : Nat) (s : ByteArray) (l : Nat) : Prop := ∀ (f pos : Nat) (w : World), 3 * l + 1 ≤ f → pos ≤ s.size → Rp w pb s pos (400 - (l : Int)) 0 0 → Calls Tryz.prog 7 #[.pointer (some ⟨pb, 0, none⟩)] w (RTreeQ pb s (pT Num (toN s) f pos l) w)
/-- What a key leads to. -/
def KeyEnd (s : List Nat) (kind : Int) (endc q l1 : Nat) (P : PR) (kids : List JT) (ks : List ByteArray) (a : Nat) (wg bad : Int) : Prop :=
  (bad = 0 ∧ wg = 0 ∧ P = vR s q kind endc a l1 ks kids) ∨ (bad = 2 ∧ ∃ x : Nat, wg = x ∧ P = .bad x 2)
theorem rfail_set (w : World) (pb : Nat) (s : ByteArray) (at_ : Nat) (tr : Int) (a : Nat) (x : Int) (h : Rp w pb s at_ tr 0 0) :
    Calls Tryz.prog 8 #[.pointer (some ⟨pb, 0, none⟩), .int .i64 a, .int .i64 x] w fun e w' => e = .returned (.tuple #[]) ∧ Rp w' pb s at_ tr a x ∧ Only (fun k => k = pb) w w' := rfail_any w pb s at_ tr 0 0 a x h
theorem rfail_keep (w : World) (pb : Nat) (s : ByteArray) (at_ : Nat) (tr wr : Int) (a : Nat) (x : Int) (h : Rp w pb s at_ tr wr 2) :
    Calls Tryz.prog 8 #[.pointer (some ⟨pb, 0, none⟩), .int .i64 a, .int .i64 x] w fun e w' => e = .returned (.tuple #[]) ∧ Rp w' pb s at_ tr wr 2 ∧ Only (fun k => k = pb) w w' := rfail_any w pb s at_ tr wr 2 a x h
/-- Behind a key, if there is one. -/
def VQ (w : World) (pb : Nat) (s : ByteArray) (kind : Int) (endc q l1 : Nat) (P : PR) (done : List PT) (cA : Option Addr) (cc : Nat) (W : World) : Prop :=
  ∃ (ks : List ByteArray) (kA : Option Addr) (kc a : Nat) (wg bad : Int), a ≤ s.size ∧ ks.length ≤ done.length + 1 ∧ (kind = 6 → ks.length ≤ done.length) ∧ RKI w pb s kind a (400 - (l1 : Int)) wg bad ks done kA kc cA cc W ∧
    KeyEnd (toN s) kind endc q l1 P (done.map PT.tree) ks a wg bad
theorem key_none {s : List Nat} {q endc a l : Nat} {ks : List ByteArray} {kids : List JT} (h : txtF 20 (s.drop a) = none) : pK Num s (q + 2) 5 endc a l ks kids = .bad a 2 := pK5_none s q endc a l ks kids h

set_option maxRecDepth 100000 in
set_option maxHeartbeats 16000000 in
theorem rkids_step (pb : Nat) (s : ByteArray) (hs : s.size ≤ 60000) (f l : Nat) (hl : l ≤ 400) (hf : 3 * l + 3 ≤ f) (kind : Int) (eb : UInt8) (hkind : (kind = 5 ∧ eb = 125) ∨ (kind = 6 ∧ eb = 93))
    (ht : ∀ l1, l1 ≤ l → RTreeC pb s l1) : RKidsC pb s f l kind eb := by
  intro w pos hat hr
  have hpb : pb < w.heap.size := Blk.lt hr
  have hne : ¬ pb = w.heap.size := by omega
  have hne1 : ¬ pb = w.heap.size + 1 := by omega
  obtain ⟨endc, hec⟩ : ∃ endc, endc = eb.toNat := ⟨_, rfl⟩
  rw [← hec]
  have hkb : kind = 5 ∨ kind = 6 := hkind.imp And.left And.left
  have h0 : RKI w pb s kind pos (400 - (l : Int)) 0 0 [] [] none 0 none 0 ((w.alloc (.cells #[.int .i64 0, .int .i64 0, .string ⟨#[]⟩, .int .i64 0, .int .i64 0, .slice none 0 0, .slice none 0 0] 29)).alloc (.cells #[.int .i64 kind, .int .i64 0, .string ⟨#[]⟩, .int .i64 0, .int .i64 0, .slice none 0 0, .slice none 0 0] 29)) :=
    ⟨Blk.alloc (Blk.alloc hr _) _, (Blk.new w _ _).alloc _, Blk.newer _ _ _ (by simp), ⟨rfl, .inl ⟨rfl, rfl⟩⟩, ⟨rfl, .inl ⟨rfl, rfl⟩⟩, (fun D hD => by cases hD), by simp [blkOf, PT.ownL], by simp [blkOf, PT.ownL], ((Only.refl _ w).alloc _).alloc _, (fun k hk => by cases hk)⟩
  have HI0 := Lib.hid h0
  have HK := Lib.hid (And.intro hec (And.intro hkind hkb))
  clear hr h0 hec hkind
  by_cases hend : (toN s)[pos]? = some endc
  · have HP := Lib.hid (show kidsR (toN s) f kind endc pos l = .ok (leafT (kindV kind)) (pos + 1) l from if_pos hend)
    have HB := Lib.hid ((isB_one eb).2 (by rw [hend, HK.out.1]))
    have hlt := lt_of_at hend
    clear hend
    go_enter Tryz.func15, Tryz.ntmps15
    go_wp2_with (go_at_call 14; refine (ris_y _ pb s hs pos hat _ 0 0 ⟨#[eb]⟩ (show (1 : Nat) ≤ 100 by decide) HI0.out.rd HB.out).mono ?_; rintro e w3 ⟨rfl, hr3, ho3⟩; have hI3 := HI0.out.turn hpb hr3 ho3; obtain ⟨b0, b1, b2, b3, b4, b5, b6, zb⟩ := res_cells hI3.box; obtain ⟨r0, r1, r2, r3, r4, r5, r6, zr⟩ := res_cells hI3.res; simp only [List.length_nil] at b5 b6; have HI3 := Lib.hid hI3; clear hr3 ho3 hI3)
    refine bodyPost_ret (v := .agg #[.int .i64 kind, .int .i64 0, .string ⟨#[]⟩, .int .i64 0, .int .i64 0, .slice none 0 0, .slice none 0 0]) (results_cell_row Tryz.results15 _ _ w.heap.size _ _ _ _ rfl (blk7 _ _ _ _ _ _ _ HI3.out.res) Tryz.underlying29 rfl (by kernel_rfl)) rfl ?_
    exact rtree_end rfl HI3.out.rs hpb (leafP (kindV kind)) HP.out hlt (leaf_own _ _ (kind_fit hkb)) List.nodup_nil (by intro b hb; cases hb) _ rfl _ _ _ _ _ _ _
  have HP := Lib.hid (show kidsR (toN s) f kind endc pos l = pK Num (toN s) f kind endc pos l [] [] from if_neg hend)
  have HB := Lib.hid (isB_no eb (by rw [← HK.out.1]; exact hend))
  clear hend
  go_enter Tryz.func15, Tryz.ntmps15
  go_wp2_with (go_at_call 14; refine (ris_n _ pb s hs pos hat _ 0 0 ⟨#[eb]⟩ (show (1 : Nat) ≤ 100 by decide) HI0.out.rd HB.out).mono ?_; rintro e w3 ⟨rfl, hr3, ho3⟩; have HI1 := Lib.hid (HI0.out.turn hpb hr3 ho3); clear hr3 ho3)
  clear HB
  go_loopw [8] (fun _ wr => ∃ (f1 a l1 : Nat) (ks : List ByteArray) (done : List PT) (kA : Option Addr) (kc : Nat) (cA : Option Addr) (cc : Nat), RKI w pb s kind a (400 - (l1 : Int)) 0 0 ks done kA kc cA cc wr ∧ pK Num (toN s) f kind endc pos l [] [] = pK Num (toN s) f1 kind endc a l1 ks (done.map PT.tree) ∧ 3 * l1 + 3 ≤ f1 ∧ l1 ≤ l ∧ done.length + l1 ≤ 400 ∧ ks.length ≤ done.length ∧ a ≤ s.size) (fun _ wr => trOf pb wr)
  case atStart => exact ⟨f, pos, l, [], [], none, 0, none, 0, HI1.out, rfl, hf, Nat.le_refl _, by simp; omega, Nat.le_refl _, hat⟩
  case round =>
    obtain ⟨f1, a, l1, ks, done, kA, kc, cA, cc, hI, hP, hf1, hl1, hd1, hks, ha⟩ := hrel
    obtain ⟨q, rfl⟩ : ∃ q, f1 = q + 2 := ⟨f1 - 2, by omega⟩
    have HLO := Lib.hid (trOf_eq hI.rd)
    have HB0 := Lib.hid (show l1 ≤ l ∧ 3 * l1 + 1 ≤ q ∧ done.length + l1 ≤ 400 ∧ ks.length ≤ done.length ∧ a ≤ s.size from ⟨hl1, by omega, hd1, hks, ha⟩)
    have HI := Lib.hid hI
    have HPK := Lib.hid hP
    have hai : (a : Int) ≤ 60000 := by omega
    have hkl : (ks.length : Int) ≤ 400 := by omega
    clear hf1 hl1 hd1 hks ha hP
    obtain ⟨h0, h1, h2, h3, h4, hz⟩ := hI.rd.cells
    clear hI
    go_upto_if 27 with (fail)
    go_cut [8, 9, 10, 11] from 28 to 78 (fun s8 s9 s10 s11 wx => VQ w pb s kind endc q l1 (pK Num (toN s) (q + 2) kind endc a l1 ks (done.map PT.tree)) done cA cc wx)
    case first =>
      rcases HK.out.2.1 with ⟨rfl, rfl⟩ | ⟨rfl, rfl⟩
      case inr =>
        obtain rfl : endc = 93 := HK.out.1
        go_wp2_with fail
        go_meet
        exact ⟨ks, kA, kc, a, 0, 0, HB0.out.2.2.2.2, by have := HB0.out.2.2.2.1; omega, fun _ => HB0.out.2.2.2.1, HI.out, .inl ⟨rfl, rfl, pK6 (toN s) q 6 93 a l1 ks (done.map PT.tree) (by decide)⟩⟩
      case inl =>
        obtain rfl : endc = 125 := HK.out.1
        cases hq : txtF 20 ((toN s).drop a) with
        | none =>
          have HPN := Lib.hid (pK5_none (toN s) q 125 a l1 ks (done.map PT.tree) hq)
          have HQ := Lib.hid hq
          have HA2 := Lib.hid HB0.out.2.2.2.2
          clear hq
          by_cases h58 : (toN s)[a]? = some 58
          · have HB := Lib.hid ((isB_one 58).2 h58)
            have HPV := Lib.hid (show KeyEnd (toN s) 5 125 q l1 (pK Num (toN s) (q + 2) 5 125 a l1 ks (done.map PT.tree)) (done.map PT.tree) (ks ++ [⟨#[]⟩]) (a + 1) (a : Nat) 2 from .inr ⟨rfl, a, rfl, HPN.out⟩)
            have hle58 := lt_of_at h58
            clear h58
            go_wp2_with (first
              | (go_at_call 16; refine (rquoted_any wr pb s hs a HB0.out.2.2.2.2 _ 20 (by decide) HI.out.rd).mono ?_; intro e w4 hqq; obtain ⟨rfl, hr4, ho4⟩ := hqq.none_ HQ.out; have hI4 := HI.out.turn hpb hr4 ho4; have g4 := hI4.rd.cells.2.2.2.2.1; have g5 : w4.cell? ⟨w.heap.size + 1, 5, none⟩ = some (.slice kA ks.length kc) := hI4.box.cell 5; have hk20 : (⟨#[]⟩ : ByteArray).size ≤ 20 := (by decide); have hb5w : Below w4.heap.size w4 (w4.alloc (.cells #[.string ⟨#[]⟩] 9)) := (Below.refl _ _).alloc (Nat.le_refl _) _; have hI5 := hI4.below hb5w; obtain ⟨A5, c5, We, hrun, hoA, hgA, hAA⟩ := run_append_sl (P := Tryz.prog) (w4.alloc (.cells #[.string ⟨#[]⟩] 9)) 26 26 9 Tryz.underlying26 infoStr rfl (by decide) kA ks.length kc (ks.map Value.string) hI5.keys (some ⟨w4.heap.size, 0, none⟩) 1 1 [.string ⟨#[]⟩] rfl (SlAt.of_blk (Blk.new w4 9 #[.string ⟨#[]⟩])) (by intro u hu; rw [List.mem_singleton] at hu; subst hu; rfl) (by have := HB0.out.2.2.1; have := HB0.out.2.2.2.1; simp only [maxLen]; omega) (by have := HB0.out.2.2.1; have := HB0.out.2.2.2.1; omega); have hrun' : ∀ ty, (Builtin.append_ #[26, 26] ty #[.slice kA ks.length kc, .slice (some ⟨w4.heap.size, 0, none⟩) 1 1]).run Tryz.prog (w4.alloc (.cells #[.string ⟨#[]⟩] 9)) = .ok (.slice A5 (ks.length + 1) c5) We := fun _ => hrun; have HRN := Lib.hid hrun'; have hfin := hI5.push_key hpb hk20 hoA hgA (hAA.imp And.left id); have hbe := (hI5.kept (u := .int .i64 0) (j := 5) hpb (fun b hb => hI5.low b (List.mem_append_left _ hb)) hgA).2.2.2.1; have z5 : We.frozen? ⟨w.heap.size + 1, 5, none⟩ = false := hbe.frozen 5; have y5 : We.cell? ⟨w.heap.size + 1, 5, none⟩ = some (.slice kA ks.length kc) := hbe.cell 5; have x5 : (w4.alloc (.cells #[.string ⟨#[]⟩] 9)).cell? ⟨w.heap.size + 1, 5, none⟩ = some (.slice kA ks.length kc) := hI5.box.cell 5; have HIK := Lib.hid hfin; clear hb5w hI5 hrun hrun' hoA hgA hAA hfin hbe; have HI4 := Lib.hid hI4; clear hI4 hk20 hr4 ho4 hqq)
              | (at_builtin; refine wpList_append_run (o := ⟨some 67, _, _, _, _, _⟩) rfl _ _ _ _ rfl rfl rfl (HRN.out _) ?_)
              | (go_at_call 14; refine (ris_y _ pb s hs a HA2.out _ (a : Nat) 2 ⟨#[58]⟩ (by decide) HIK.out.rd HB.out).mono ?_; rintro e wk ⟨rfl, hr5, ho5⟩; replace hr5 : Rp wk pb s (a + 1) _ _ _ := hr5; have HI2 := Lib.hid (HIK.out.turn hpb hr5 ho5); clear hr5 ho5))
            go_meet
            exact ⟨ks ++ [⟨#[]⟩], A5, c5, a + 1, (a : Nat), 2, hle58, by have := HB0.out.2.2.2.1; simp; omega, (by intro h; cases h), HI2.out, HPV.out⟩
          · have HB := Lib.hid (isB_no (s := s) 58 h58)
            have HPV := Lib.hid (show KeyEnd (toN s) 5 125 q l1 (pK Num (toN s) (q + 2) 5 125 a l1 ks (done.map PT.tree)) (done.map PT.tree) (ks ++ [⟨#[]⟩]) (a) (a : Nat) 2 from .inr ⟨rfl, a, rfl, HPN.out⟩)
            clear h58
            go_wp2_with (first
              | (go_at_call 16; refine (rquoted_any wr pb s hs a HB0.out.2.2.2.2 _ 20 (by decide) HI.out.rd).mono ?_; intro e w4 hqq; obtain ⟨rfl, hr4, ho4⟩ := hqq.none_ HQ.out; have hI4 := HI.out.turn hpb hr4 ho4; have g4 := hI4.rd.cells.2.2.2.2.1; have g5 : w4.cell? ⟨w.heap.size + 1, 5, none⟩ = some (.slice kA ks.length kc) := hI4.box.cell 5; have hk20 : (⟨#[]⟩ : ByteArray).size ≤ 20 := (by decide); have hb5w : Below w4.heap.size w4 (w4.alloc (.cells #[.string ⟨#[]⟩] 9)) := (Below.refl _ _).alloc (Nat.le_refl _) _; have hI5 := hI4.below hb5w; obtain ⟨A5, c5, We, hrun, hoA, hgA, hAA⟩ := run_append_sl (P := Tryz.prog) (w4.alloc (.cells #[.string ⟨#[]⟩] 9)) 26 26 9 Tryz.underlying26 infoStr rfl (by decide) kA ks.length kc (ks.map Value.string) hI5.keys (some ⟨w4.heap.size, 0, none⟩) 1 1 [.string ⟨#[]⟩] rfl (SlAt.of_blk (Blk.new w4 9 #[.string ⟨#[]⟩])) (by intro u hu; rw [List.mem_singleton] at hu; subst hu; rfl) (by have := HB0.out.2.2.1; have := HB0.out.2.2.2.1; simp only [maxLen]; omega) (by have := HB0.out.2.2.1; have := HB0.out.2.2.2.1; omega); have hrun' : ∀ ty, (Builtin.append_ #[26, 26] ty #[.slice kA ks.length kc, .slice (some ⟨w4.heap.size, 0, none⟩) 1 1]).run Tryz.prog (w4.alloc (.cells #[.string ⟨#[]⟩] 9)) = .ok (.slice A5 (ks.length + 1) c5) We := fun _ => hrun; have HRN := Lib.hid hrun'; have hfin := hI5.push_key hpb hk20 hoA hgA (hAA.imp And.left id); have hbe := (hI5.kept (u := .int .i64 0) (j := 5) hpb (fun b hb => hI5.low b (List.mem_append_left _ hb)) hgA).2.2.2.1; have z5 : We.frozen? ⟨w.heap.size + 1, 5, none⟩ = false := hbe.frozen 5; have y5 : We.cell? ⟨w.heap.size + 1, 5, none⟩ = some (.slice kA ks.length kc) := hbe.cell 5; have x5 : (w4.alloc (.cells #[.string ⟨#[]⟩] 9)).cell? ⟨w.heap.size + 1, 5, none⟩ = some (.slice kA ks.length kc) := hI5.box.cell 5; have HIK := Lib.hid hfin; clear hb5w hI5 hrun hrun' hoA hgA hAA hfin hbe; have HI4 := Lib.hid hI4; clear hI4 hk20 hr4 ho4 hqq)
              | (at_builtin; refine wpList_append_run (o := ⟨some 67, _, _, _, _, _⟩) rfl _ _ _ _ rfl rfl rfl (HRN.out _) ?_)
              | (go_at_call 14; refine (ris_n _ pb s hs a HA2.out _ (a : Nat) 2 ⟨#[58]⟩ (by decide) HIK.out.rd HB.out).mono ?_; rintro e wk ⟨rfl, hr5, ho5⟩; have hI2 := HIK.out.turn hpb hr5 ho5; have g1k := hI2.rd.cells.2.1; have HI2 := Lib.hid hI2; clear hr5 ho5 hI2)
              | (go_at_call 8; (with_reducible refine (rfail_keep _ pb s a _ (a : Nat) a 2 HI2.out.rd).mono ?_); rintro e wl ⟨rfl, hr6, ho6⟩; have HI6 := Lib.hid (HI2.out.turn hpb hr6 ho6); clear hr6 ho6))
            go_meet
            exact ⟨ks ++ [⟨#[]⟩], A5, c5, a, _, _, HA2.out, by have := HB0.out.2.2.2.1; simp; omega, (by intro h; cases h), HI6.out, HPV.out⟩
        | some pr =>
          obtain ⟨k, n⟩ := pr
          have HPS := pK5_some (toN s) q 125 a l1 ks (done.map PT.tree) hq
          have HQ := Lib.hid hq
          have HA2 : Hid (a + n ≤ s.size) := Lib.hid (by
            rcases (rquoted_cases s a 20 HB0.out.2.2.2.2) with ⟨_, h2⟩ | ⟨k', n', _, h2, _, h4, _⟩ | ⟨k', n', _, _, _, h4, _⟩
            · rw [hq] at h2; cases h2
            · rw [hq] at h4; cases h4; exact h2
            · rw [hq] at h4; cases h4)
          clear hq
          obtain ⟨z, hz⟩ : ∃ z, a + n = z := ⟨_, rfl⟩
          rw [hz] at HPS HA2
          have HZ := Lib.hid hz
          clear hz
          cases hke : k.toList.isEmpty with
          | true =>
            have hka : keyAfter ks k = false := by unfold keyAfter; rw [hke]; rfl
            have hk1 : k.toList = [] := by simpa using hke
            rw [if_pos hka] at HPS
            have HPN := Lib.hid HPS
            clear hka HPS
            by_cases h58 : (toN s)[z]? = some 58
            · have HB := Lib.hid ((isB_one 58).2 h58)
              have HPV := Lib.hid (show KeyEnd (toN s) 5 125 q l1 (pK Num (toN s) (q + 2) 5 125 a l1 ks (done.map PT.tree)) (done.map PT.tree) (ks ++ [k]) (z + 1) (a : Nat) 2 from .inr ⟨rfl, a, rfl, HPN.out⟩)
              have hle58 := lt_of_at h58
              clear h58
              go_wp2_with (first
                | (go_at_call 16; refine (rquoted_any wr pb s hs a HB0.out.2.2.2.2 _ 20 (by decide) HI.out.rd).mono ?_; intro e w4 hqq; obtain ⟨hle, rfl, hk20, hr4, ho4⟩ := hqq.some_ HQ.out; rw [HZ.out] at hr4; have hI4 := HI.out.turn hpb hr4 ho4; have g4 := hI4.rd.cells.2.2.2.2.1; have g5 : w4.cell? ⟨w.heap.size + 1, 5, none⟩ = some (.slice kA ks.length kc) := hI4.box.cell 5; have HI4 := Lib.hid hI4; have HK20 := Lib.hid hk20; clear hI4 hle hk20 hr4 ho4 hqq)
                | (go_at_call 8; (with_reducible refine (rfail_set _ pb s z _ a 2 HI4.out.rd).mono ?_); rintro e w6 ⟨rfl, hr6, ho6⟩; have hI6 := HI4.out.turn hpb hr6 ho6; have g56 : w6.cell? ⟨w.heap.size + 1, 5, none⟩ = some (.slice kA ks.length kc) := hI6.box.cell 5; have hk20 := HK20.out; have hb5w : Below w6.heap.size w6 (w6.alloc (.cells #[.string k] 9)) := (Below.refl _ _).alloc (Nat.le_refl _) _; have hI5 := hI6.below hb5w; obtain ⟨A5, c5, We, hrun, hoA, hgA, hAA⟩ := run_append_sl (P := Tryz.prog) (w6.alloc (.cells #[.string k] 9)) 26 26 9 Tryz.underlying26 infoStr rfl (by decide) kA ks.length kc (ks.map Value.string) hI5.keys (some ⟨w6.heap.size, 0, none⟩) 1 1 [.string k] rfl (SlAt.of_blk (Blk.new w6 9 #[.string k])) (by intro u hu; rw [List.mem_singleton] at hu; subst hu; rfl) (by have := HB0.out.2.2.1; have := HB0.out.2.2.2.1; simp only [maxLen]; omega) (by have := HB0.out.2.2.1; have := HB0.out.2.2.2.1; omega); have hrun' : ∀ ty, (Builtin.append_ #[26, 26] ty #[.slice kA ks.length kc, .slice (some ⟨w6.heap.size, 0, none⟩) 1 1]).run Tryz.prog (w6.alloc (.cells #[.string k] 9)) = .ok (.slice A5 (ks.length + 1) c5) We := fun _ => hrun; have HRN := Lib.hid hrun'; have hfin := hI5.push_key hpb hk20 hoA hgA (hAA.imp And.left id); have hbe := (hI5.kept (u := .int .i64 0) (j := 5) hpb (fun b hb => hI5.low b (List.mem_append_left _ hb)) hgA).2.2.2.1; have z5 : We.frozen? ⟨w.heap.size + 1, 5, none⟩ = false := hbe.frozen 5; have y5 : We.cell? ⟨w.heap.size + 1, 5, none⟩ = some (.slice kA ks.length kc) := hbe.cell 5; have x5 : (w6.alloc (.cells #[.string k] 9)).cell? ⟨w.heap.size + 1, 5, none⟩ = some (.slice kA ks.length kc) := hI5.box.cell 5; have HIK := Lib.hid hfin; clear hb5w hI5 hrun hrun' hoA hgA hAA hfin hbe; have HI6b := Lib.hid hI6; clear hI6 hk20 hr6 ho6)
                | (at_builtin; refine wpList_append_run (o := ⟨some 67, _, _, _, _, _⟩) rfl _ _ _ _ rfl rfl rfl (HRN.out _) ?_)
                | (go_at_call 14; refine (ris_y _ pb s hs z HA2.out _ (a : Nat) 2 ⟨#[58]⟩ (by decide) HIK.out.rd HB.out).mono ?_; rintro e wk ⟨rfl, hr5, ho5⟩; replace hr5 : Rp wk pb s (z + 1) _ _ _ := hr5; have HI2 := Lib.hid (HIK.out.turn hpb hr5 ho5); clear hr5 ho5))
              go_meet
              exact ⟨ks ++ [k], A5, c5, z + 1, (a : Nat), 2, hle58, by have := HB0.out.2.2.2.1; simp; omega, (by intro h; cases h), HI2.out, HPV.out⟩
            · have HB := Lib.hid (isB_no (s := s) 58 h58)
              have HPV := Lib.hid (show KeyEnd (toN s) 5 125 q l1 (pK Num (toN s) (q + 2) 5 125 a l1 ks (done.map PT.tree)) (done.map PT.tree) (ks ++ [k]) (z) (a : Nat) 2 from .inr ⟨rfl, a, rfl, HPN.out⟩)
              clear h58
              go_wp2_with (first
                | (go_at_call 16; refine (rquoted_any wr pb s hs a HB0.out.2.2.2.2 _ 20 (by decide) HI.out.rd).mono ?_; intro e w4 hqq; obtain ⟨hle, rfl, hk20, hr4, ho4⟩ := hqq.some_ HQ.out; rw [HZ.out] at hr4; have hI4 := HI.out.turn hpb hr4 ho4; have g4 := hI4.rd.cells.2.2.2.2.1; have g5 : w4.cell? ⟨w.heap.size + 1, 5, none⟩ = some (.slice kA ks.length kc) := hI4.box.cell 5; have HI4 := Lib.hid hI4; have HK20 := Lib.hid hk20; clear hI4 hle hk20 hr4 ho4 hqq)
                | (go_at_call 8; (with_reducible refine (rfail_set _ pb s z _ a 2 HI4.out.rd).mono ?_); rintro e w6 ⟨rfl, hr6, ho6⟩; have hI6 := HI4.out.turn hpb hr6 ho6; have g56 : w6.cell? ⟨w.heap.size + 1, 5, none⟩ = some (.slice kA ks.length kc) := hI6.box.cell 5; have hk20 := HK20.out; have hb5w : Below w6.heap.size w6 (w6.alloc (.cells #[.string k] 9)) := (Below.refl _ _).alloc (Nat.le_refl _) _; have hI5 := hI6.below hb5w; obtain ⟨A5, c5, We, hrun, hoA, hgA, hAA⟩ := run_append_sl (P := Tryz.prog) (w6.alloc (.cells #[.string k] 9)) 26 26 9 Tryz.underlying26 infoStr rfl (by decide) kA ks.length kc (ks.map Value.string) hI5.keys (some ⟨w6.heap.size, 0, none⟩) 1 1 [.string k] rfl (SlAt.of_blk (Blk.new w6 9 #[.string k])) (by intro u hu; rw [List.mem_singleton] at hu; subst hu; rfl) (by have := HB0.out.2.2.1; have := HB0.out.2.2.2.1; simp only [maxLen]; omega) (by have := HB0.out.2.2.1; have := HB0.out.2.2.2.1; omega); have hrun' : ∀ ty, (Builtin.append_ #[26, 26] ty #[.slice kA ks.length kc, .slice (some ⟨w6.heap.size, 0, none⟩) 1 1]).run Tryz.prog (w6.alloc (.cells #[.string k] 9)) = .ok (.slice A5 (ks.length + 1) c5) We := fun _ => hrun; have HRN := Lib.hid hrun'; have hfin := hI5.push_key hpb hk20 hoA hgA (hAA.imp And.left id); have hbe := (hI5.kept (u := .int .i64 0) (j := 5) hpb (fun b hb => hI5.low b (List.mem_append_left _ hb)) hgA).2.2.2.1; have z5 : We.frozen? ⟨w.heap.size + 1, 5, none⟩ = false := hbe.frozen 5; have y5 : We.cell? ⟨w.heap.size + 1, 5, none⟩ = some (.slice kA ks.length kc) := hbe.cell 5; have x5 : (w6.alloc (.cells #[.string k] 9)).cell? ⟨w.heap.size + 1, 5, none⟩ = some (.slice kA ks.length kc) := hI5.box.cell 5; have HIK := Lib.hid hfin; clear hb5w hI5 hrun hrun' hoA hgA hAA hfin hbe; have HI6b := Lib.hid hI6; clear hI6 hk20 hr6 ho6)
                | (at_builtin; refine wpList_append_run (o := ⟨some 67, _, _, _, _, _⟩) rfl _ _ _ _ rfl rfl rfl (HRN.out _) ?_)
                | (go_at_call 14; refine (ris_n _ pb s hs z HA2.out _ (a : Nat) 2 ⟨#[58]⟩ (by decide) HIK.out.rd HB.out).mono ?_; rintro e wk ⟨rfl, hr5, ho5⟩; have hI2 := HIK.out.turn hpb hr5 ho5; have g1k := hI2.rd.cells.2.1; have HI2 := Lib.hid hI2; clear hr5 ho5 hI2)
                | (go_at_call 8; (with_reducible refine (rfail_keep _ pb s z _ (a : Nat) z 2 HI2.out.rd).mono ?_); rintro e wl ⟨rfl, hr6, ho6⟩; have HI6 := Lib.hid (HI2.out.turn hpb hr6 ho6); clear hr6 ho6))
              go_meet
              exact ⟨ks ++ [k], A5, c5, z, _, _, HA2.out, by have := HB0.out.2.2.2.1; simp; omega, (by intro h; cases h), HI6.out, HPV.out⟩
          | false =>
            have hk1 : ¬ k.toList = [] := by intro e; rw [e] at hke; cases hke
            cases hgl : ks.getLast? with
            | none =>
              have hks0 : ks = [] := List.getLast?_eq_none_iff.1 hgl
              have hka : keyAfter ks k = true := by unfold keyAfter; rw [hke, hgl]; rfl
              rw [hka, if_neg (by simp)] at HPS
              have HPN := Lib.hid HPS
              have hN0 : ¬ (0 : Int) < (ks.length : Int) := by rw [hks0]; simp
              clear hka hgl hks0 HPS
              by_cases h58 : (toN s)[z]? = some 58
              · have HB := Lib.hid ((isB_one 58).2 h58)
                have HPV := Lib.hid (show KeyEnd (toN s) 5 125 q l1 (pK Num (toN s) (q + 2) 5 125 a l1 ks (done.map PT.tree)) (done.map PT.tree) (ks ++ [k]) (z + 1) 0 0 from .inl ⟨rfl, rfl, HPN.out.trans (if_pos h58)⟩)
                have hle58 := lt_of_at h58
                clear h58
                go_wp2_with (first
                  | (go_at_call 16; refine (rquoted_any wr pb s hs a HB0.out.2.2.2.2 _ 20 (by decide) HI.out.rd).mono ?_; intro e w4 hqq; obtain ⟨hle, rfl, hk20, hr4, ho4⟩ := hqq.some_ HQ.out; rw [HZ.out] at hr4; have hI4 := HI.out.turn hpb hr4 ho4; have g4 := hI4.rd.cells.2.2.2.2.1; have g5 : w4.cell? ⟨w.heap.size + 1, 5, none⟩ = some (.slice kA ks.length kc) := hI4.box.cell 5; have hb5w : Below w4.heap.size w4 (w4.alloc (.cells #[.string k] 9)) := (Below.refl _ _).alloc (Nat.le_refl _) _; have hI5 := hI4.below hb5w; obtain ⟨A5, c5, We, hrun, hoA, hgA, hAA⟩ := run_append_sl (P := Tryz.prog) (w4.alloc (.cells #[.string k] 9)) 26 26 9 Tryz.underlying26 infoStr rfl (by decide) kA ks.length kc (ks.map Value.string) hI5.keys (some ⟨w4.heap.size, 0, none⟩) 1 1 [.string k] rfl (SlAt.of_blk (Blk.new w4 9 #[.string k])) (by intro u hu; rw [List.mem_singleton] at hu; subst hu; rfl) (by have := HB0.out.2.2.1; have := HB0.out.2.2.2.1; simp only [maxLen]; omega) (by have := HB0.out.2.2.1; have := HB0.out.2.2.2.1; omega); have hrun' : ∀ ty, (Builtin.append_ #[26, 26] ty #[.slice kA ks.length kc, .slice (some ⟨w4.heap.size, 0, none⟩) 1 1]).run Tryz.prog (w4.alloc (.cells #[.string k] 9)) = .ok (.slice A5 (ks.length + 1) c5) We := fun _ => hrun; have HRN := Lib.hid hrun'; have hfin := hI5.push_key hpb hk20 hoA hgA (hAA.imp And.left id); have hbe := (hI5.kept (u := .int .i64 0) (j := 5) hpb (fun b hb => hI5.low b (List.mem_append_left _ hb)) hgA).2.2.2.1; have z5 : We.frozen? ⟨w.heap.size + 1, 5, none⟩ = false := hbe.frozen 5; have y5 : We.cell? ⟨w.heap.size + 1, 5, none⟩ = some (.slice kA ks.length kc) := hbe.cell 5; have x5 : (w4.alloc (.cells #[.string k] 9)).cell? ⟨w.heap.size + 1, 5, none⟩ = some (.slice kA ks.length kc) := hI5.box.cell 5; have HIK := Lib.hid hfin; clear hb5w hI5 hrun hrun' hoA hgA hAA hfin hbe; have HI4 := Lib.hid hI4; clear hI4 hle hk20 hr4 ho4 hqq)
                  | (at_builtin; refine wpList_append_run (o := ⟨some 67, _, _, _, _, _⟩) rfl _ _ _ _ rfl rfl rfl (HRN.out _) ?_)
                  | (go_at_call 14; refine (ris_y _ pb s hs z HA2.out _ 0 0 ⟨#[58]⟩ (by decide) HIK.out.rd HB.out).mono ?_; rintro e wk ⟨rfl, hr5, ho5⟩; replace hr5 : Rp wk pb s (z + 1) _ _ _ := hr5; have HI2 := Lib.hid (HIK.out.turn hpb hr5 ho5); clear hr5 ho5))
                go_meet
                exact ⟨ks ++ [k], A5, c5, z + 1, 0, 0, hle58, by have := HB0.out.2.2.2.1; simp; omega, (by intro h; cases h), HI2.out, HPV.out⟩
              · have HB := Lib.hid (isB_no (s := s) 58 h58)
                have HPV := Lib.hid (show KeyEnd (toN s) 5 125 q l1 (pK Num (toN s) (q + 2) 5 125 a l1 ks (done.map PT.tree)) (done.map PT.tree) (ks ++ [k]) z (z : Nat) 2 from .inr ⟨rfl, z, rfl, HPN.out.trans (if_neg h58)⟩)
                clear h58
                go_wp2_with (first
                  | (go_at_call 16; refine (rquoted_any wr pb s hs a HB0.out.2.2.2.2 _ 20 (by decide) HI.out.rd).mono ?_; intro e w4 hqq; obtain ⟨hle, rfl, hk20, hr4, ho4⟩ := hqq.some_ HQ.out; rw [HZ.out] at hr4; have hI4 := HI.out.turn hpb hr4 ho4; have g4 := hI4.rd.cells.2.2.2.2.1; have g5 : w4.cell? ⟨w.heap.size + 1, 5, none⟩ = some (.slice kA ks.length kc) := hI4.box.cell 5; have hb5w : Below w4.heap.size w4 (w4.alloc (.cells #[.string k] 9)) := (Below.refl _ _).alloc (Nat.le_refl _) _; have hI5 := hI4.below hb5w; obtain ⟨A5, c5, We, hrun, hoA, hgA, hAA⟩ := run_append_sl (P := Tryz.prog) (w4.alloc (.cells #[.string k] 9)) 26 26 9 Tryz.underlying26 infoStr rfl (by decide) kA ks.length kc (ks.map Value.string) hI5.keys (some ⟨w4.heap.size, 0, none⟩) 1 1 [.string k] rfl (SlAt.of_blk (Blk.new w4 9 #[.string k])) (by intro u hu; rw [List.mem_singleton] at hu; subst hu; rfl) (by have := HB0.out.2.2.1; have := HB0.out.2.2.2.1; simp only [maxLen]; omega) (by have := HB0.out.2.2.1; have := HB0.out.2.2.2.1; omega); have hrun' : ∀ ty, (Builtin.append_ #[26, 26] ty #[.slice kA ks.length kc, .slice (some ⟨w4.heap.size, 0, none⟩) 1 1]).run Tryz.prog (w4.alloc (.cells #[.string k] 9)) = .ok (.slice A5 (ks.length + 1) c5) We := fun _ => hrun; have HRN := Lib.hid hrun'; have hfin := hI5.push_key hpb hk20 hoA hgA (hAA.imp And.left id); have hbe := (hI5.kept (u := .int .i64 0) (j := 5) hpb (fun b hb => hI5.low b (List.mem_append_left _ hb)) hgA).2.2.2.1; have z5 : We.frozen? ⟨w.heap.size + 1, 5, none⟩ = false := hbe.frozen 5; have y5 : We.cell? ⟨w.heap.size + 1, 5, none⟩ = some (.slice kA ks.length kc) := hbe.cell 5; have x5 : (w4.alloc (.cells #[.string k] 9)).cell? ⟨w.heap.size + 1, 5, none⟩ = some (.slice kA ks.length kc) := hI5.box.cell 5; have HIK := Lib.hid hfin; clear hb5w hI5 hrun hrun' hoA hgA hAA hfin hbe; have HI4 := Lib.hid hI4; clear hI4 hle hk20 hr4 ho4 hqq)
                  | (at_builtin; refine wpList_append_run (o := ⟨some 67, _, _, _, _, _⟩) rfl _ _ _ _ rfl rfl rfl (HRN.out _) ?_)
                  | (go_at_call 14; refine (ris_n _ pb s hs z HA2.out _ 0 0 ⟨#[58]⟩ (by decide) HIK.out.rd HB.out).mono ?_; rintro e wk ⟨rfl, hr5, ho5⟩; have hI2 := HIK.out.turn hpb hr5 ho5; have g1k := hI2.rd.cells.2.1; have HI2 := Lib.hid hI2; clear hr5 ho5 hI2)
                  | (go_at_call 8; (with_reducible refine (rfail_set _ pb s z _ z 2 HI2.out.rd).mono ?_); rintro e wl ⟨rfl, hr6, ho6⟩; have HI6 := Lib.hid (HI2.out.turn hpb hr6 ho6); clear hr6 ho6))
                go_meet
                exact ⟨ks ++ [k], A5, c5, z, _, _, HA2.out, by have := HB0.out.2.2.2.1; simp; omega, (by intro h; cases h), HI6.out, HPV.out⟩
            | some x =>
              obtain ⟨m, hm, hx⟩ := last_at hgl
              obtain ⟨g, rfl⟩ := own_some HI.out.keys (by omega)
              have hN1 : (ks.length : Int) - 1 = (m : Int) := by omega
              have hN0 : (0 : Int) < (ks.length : Int) := by omega
              have hN2 : (m : Int) < (ks.length : Int) := by omega
              have HLX := Lib.hid hx
              have HM := Lib.hid hm
              clear hx hm
              cases hbl : bl x k with
              | false =>
                have hka : keyAfter ks k = false := by unfold keyAfter; rw [hke, hgl]; simp [hbl]
                have hbl2 : Op.bytesLess x.toList k.toList = false := hbl
                rw [if_pos hka] at HPS
                have HPN := Lib.hid HPS
                clear hka HPS hbl hgl
                by_cases h58 : (toN s)[z]? = some 58
                · have HB := Lib.hid ((isB_one 58).2 h58)
                  have HPV := Lib.hid (show KeyEnd (toN s) 5 125 q l1 (pK Num (toN s) (q + 2) 5 125 a l1 ks (done.map PT.tree)) (done.map PT.tree) (ks ++ [k]) (z + 1) (a : Nat) 2 from .inr ⟨rfl, a, rfl, HPN.out⟩)
                  have hle58 := lt_of_at h58
                  clear h58
                  go_wp2_with (first
                    | (go_at_call 16; refine (rquoted_any wr pb s hs a HB0.out.2.2.2.2 _ 20 (by decide) HI.out.rd).mono ?_; intro e w4 hqq; obtain ⟨hle, rfl, hk20, hr4, ho4⟩ := hqq.some_ HQ.out; rw [HZ.out] at hr4; have hI4 := HI.out.turn hpb hr4 ho4; have g4 := hI4.rd.cells.2.2.2.2.1; have g5 : w4.cell? ⟨w.heap.size + 1, 5, none⟩ = some (.slice (some ⟨g, 0, none⟩) ks.length kc) := hI4.box.cell 5; have lst : w4.cell? ⟨g, m, none⟩ = some (.string x) := (by have := (hI4.keys.cells (g := g) rfl) m (.string x) (by simp [List.getElem?_map, HLX.out]); rw [Addr.add_lit, Nat.zero_add] at this; exact this); have HI4 := Lib.hid hI4; have HK20 := Lib.hid hk20; clear hI4 hle hk20 hr4 ho4 hqq)
                    | (go_at_call 8; (with_reducible refine (rfail_set _ pb s z _ a 2 HI4.out.rd).mono ?_); rintro e w6 ⟨rfl, hr6, ho6⟩; have hI6 := HI4.out.turn hpb hr6 ho6; have g56 : w6.cell? ⟨w.heap.size + 1, 5, none⟩ = some (.slice (some ⟨g, 0, none⟩) ks.length kc) := hI6.box.cell 5; have hk20 := HK20.out; have hb5w : Below w6.heap.size w6 (w6.alloc (.cells #[.string k] 9)) := (Below.refl _ _).alloc (Nat.le_refl _) _; have hI5 := hI6.below hb5w; obtain ⟨A5, c5, We, hrun, hoA, hgA, hAA⟩ := run_append_sl (P := Tryz.prog) (w6.alloc (.cells #[.string k] 9)) 26 26 9 Tryz.underlying26 infoStr rfl (by decide) (some ⟨g, 0, none⟩) ks.length kc (ks.map Value.string) hI5.keys (some ⟨w6.heap.size, 0, none⟩) 1 1 [.string k] rfl (SlAt.of_blk (Blk.new w6 9 #[.string k])) (by intro u hu; rw [List.mem_singleton] at hu; subst hu; rfl) (by have := HB0.out.2.2.1; have := HB0.out.2.2.2.1; simp only [maxLen]; omega) (by have := HB0.out.2.2.1; have := HB0.out.2.2.2.1; omega); have hrun' : ∀ ty, (Builtin.append_ #[26, 26] ty #[.slice (some ⟨g, 0, none⟩) ks.length kc, .slice (some ⟨w6.heap.size, 0, none⟩) 1 1]).run Tryz.prog (w6.alloc (.cells #[.string k] 9)) = .ok (.slice A5 (ks.length + 1) c5) We := fun _ => hrun; have HRN := Lib.hid hrun'; have hfin := hI5.push_key hpb hk20 hoA hgA (hAA.imp And.left id); have hbe := (hI5.kept (u := .int .i64 0) (j := 5) hpb (fun b hb => hI5.low b (List.mem_append_left _ hb)) hgA).2.2.2.1; have z5 : We.frozen? ⟨w.heap.size + 1, 5, none⟩ = false := hbe.frozen 5; have y5 : We.cell? ⟨w.heap.size + 1, 5, none⟩ = some (.slice (some ⟨g, 0, none⟩) ks.length kc) := hbe.cell 5; have x5 : (w6.alloc (.cells #[.string k] 9)).cell? ⟨w.heap.size + 1, 5, none⟩ = some (.slice (some ⟨g, 0, none⟩) ks.length kc) := hI5.box.cell 5; have HIK := Lib.hid hfin; clear hb5w hI5 hrun hrun' hoA hgA hAA hfin hbe; have HI6b := Lib.hid hI6; clear hI6 hk20 hr6 ho6)
                    | (at_builtin; refine wpList_append_run (o := ⟨some 67, _, _, _, _, _⟩) rfl _ _ _ _ rfl rfl rfl (HRN.out _) ?_)
                    | (go_at_call 14; refine (ris_y _ pb s hs z HA2.out _ (a : Nat) 2 ⟨#[58]⟩ (by decide) HIK.out.rd HB.out).mono ?_; rintro e wk ⟨rfl, hr5, ho5⟩; replace hr5 : Rp wk pb s (z + 1) _ _ _ := hr5; have HI2 := Lib.hid (HIK.out.turn hpb hr5 ho5); clear hr5 ho5))
                  go_meet
                  exact ⟨ks ++ [k], A5, c5, z + 1, (a : Nat), 2, hle58, by have := HB0.out.2.2.2.1; simp; omega, (by intro h; cases h), HI2.out, HPV.out⟩
                · have HB := Lib.hid (isB_no (s := s) 58 h58)
                  have HPV := Lib.hid (show KeyEnd (toN s) 5 125 q l1 (pK Num (toN s) (q + 2) 5 125 a l1 ks (done.map PT.tree)) (done.map PT.tree) (ks ++ [k]) (z) (a : Nat) 2 from .inr ⟨rfl, a, rfl, HPN.out⟩)
                  clear h58
                  go_wp2_with (first
                    | (go_at_call 16; refine (rquoted_any wr pb s hs a HB0.out.2.2.2.2 _ 20 (by decide) HI.out.rd).mono ?_; intro e w4 hqq; obtain ⟨hle, rfl, hk20, hr4, ho4⟩ := hqq.some_ HQ.out; rw [HZ.out] at hr4; have hI4 := HI.out.turn hpb hr4 ho4; have g4 := hI4.rd.cells.2.2.2.2.1; have g5 : w4.cell? ⟨w.heap.size + 1, 5, none⟩ = some (.slice (some ⟨g, 0, none⟩) ks.length kc) := hI4.box.cell 5; have lst : w4.cell? ⟨g, m, none⟩ = some (.string x) := (by have := (hI4.keys.cells (g := g) rfl) m (.string x) (by simp [List.getElem?_map, HLX.out]); rw [Addr.add_lit, Nat.zero_add] at this; exact this); have HI4 := Lib.hid hI4; have HK20 := Lib.hid hk20; clear hI4 hle hk20 hr4 ho4 hqq)
                    | (go_at_call 8; (with_reducible refine (rfail_set _ pb s z _ a 2 HI4.out.rd).mono ?_); rintro e w6 ⟨rfl, hr6, ho6⟩; have hI6 := HI4.out.turn hpb hr6 ho6; have g56 : w6.cell? ⟨w.heap.size + 1, 5, none⟩ = some (.slice (some ⟨g, 0, none⟩) ks.length kc) := hI6.box.cell 5; have hk20 := HK20.out; have hb5w : Below w6.heap.size w6 (w6.alloc (.cells #[.string k] 9)) := (Below.refl _ _).alloc (Nat.le_refl _) _; have hI5 := hI6.below hb5w; obtain ⟨A5, c5, We, hrun, hoA, hgA, hAA⟩ := run_append_sl (P := Tryz.prog) (w6.alloc (.cells #[.string k] 9)) 26 26 9 Tryz.underlying26 infoStr rfl (by decide) (some ⟨g, 0, none⟩) ks.length kc (ks.map Value.string) hI5.keys (some ⟨w6.heap.size, 0, none⟩) 1 1 [.string k] rfl (SlAt.of_blk (Blk.new w6 9 #[.string k])) (by intro u hu; rw [List.mem_singleton] at hu; subst hu; rfl) (by have := HB0.out.2.2.1; have := HB0.out.2.2.2.1; simp only [maxLen]; omega) (by have := HB0.out.2.2.1; have := HB0.out.2.2.2.1; omega); have hrun' : ∀ ty, (Builtin.append_ #[26, 26] ty #[.slice (some ⟨g, 0, none⟩) ks.length kc, .slice (some ⟨w6.heap.size, 0, none⟩) 1 1]).run Tryz.prog (w6.alloc (.cells #[.string k] 9)) = .ok (.slice A5 (ks.length + 1) c5) We := fun _ => hrun; have HRN := Lib.hid hrun'; have hfin := hI5.push_key hpb hk20 hoA hgA (hAA.imp And.left id); have hbe := (hI5.kept (u := .int .i64 0) (j := 5) hpb (fun b hb => hI5.low b (List.mem_append_left _ hb)) hgA).2.2.2.1; have z5 : We.frozen? ⟨w.heap.size + 1, 5, none⟩ = false := hbe.frozen 5; have y5 : We.cell? ⟨w.heap.size + 1, 5, none⟩ = some (.slice (some ⟨g, 0, none⟩) ks.length kc) := hbe.cell 5; have x5 : (w6.alloc (.cells #[.string k] 9)).cell? ⟨w.heap.size + 1, 5, none⟩ = some (.slice (some ⟨g, 0, none⟩) ks.length kc) := hI5.box.cell 5; have HIK := Lib.hid hfin; clear hb5w hI5 hrun hrun' hoA hgA hAA hfin hbe; have HI6b := Lib.hid hI6; clear hI6 hk20 hr6 ho6)
                    | (at_builtin; refine wpList_append_run (o := ⟨some 67, _, _, _, _, _⟩) rfl _ _ _ _ rfl rfl rfl (HRN.out _) ?_)
                    | (go_at_call 14; refine (ris_n _ pb s hs z HA2.out _ (a : Nat) 2 ⟨#[58]⟩ (by decide) HIK.out.rd HB.out).mono ?_; rintro e wk ⟨rfl, hr5, ho5⟩; have hI2 := HIK.out.turn hpb hr5 ho5; have g1k := hI2.rd.cells.2.1; have HI2 := Lib.hid hI2; clear hr5 ho5 hI2)
                    | (go_at_call 8; (with_reducible refine (rfail_keep _ pb s z _ (a : Nat) z 2 HI2.out.rd).mono ?_); rintro e wl ⟨rfl, hr6, ho6⟩; have HI6 := Lib.hid (HI2.out.turn hpb hr6 ho6); clear hr6 ho6))
                  go_meet
                  exact ⟨ks ++ [k], A5, c5, z, _, _, HA2.out, by have := HB0.out.2.2.2.1; simp; omega, (by intro h; cases h), HI6.out, HPV.out⟩
              | true =>
                have hka : keyAfter ks k = true := by unfold keyAfter; rw [hke, hgl]; simp [hbl]
                have hbl2 : Op.bytesLess x.toList k.toList = true := hbl
                rw [hka, if_neg (by simp)] at HPS
                have HPN := Lib.hid HPS
                clear hka HPS hbl hgl
                by_cases h58 : (toN s)[z]? = some 58
                · have HB := Lib.hid ((isB_one 58).2 h58)
                  have HPV := Lib.hid (show KeyEnd (toN s) 5 125 q l1 (pK Num (toN s) (q + 2) 5 125 a l1 ks (done.map PT.tree)) (done.map PT.tree) (ks ++ [k]) (z + 1) 0 0 from .inl ⟨rfl, rfl, HPN.out.trans (if_pos h58)⟩)
                  have hle58 := lt_of_at h58
                  clear h58
                  go_wp2_with (first
                    | (go_at_call 16; refine (rquoted_any wr pb s hs a HB0.out.2.2.2.2 _ 20 (by decide) HI.out.rd).mono ?_; intro e w4 hqq; obtain ⟨hle, rfl, hk20, hr4, ho4⟩ := hqq.some_ HQ.out; rw [HZ.out] at hr4; have hI4 := HI.out.turn hpb hr4 ho4; have g4 := hI4.rd.cells.2.2.2.2.1; have g5 : w4.cell? ⟨w.heap.size + 1, 5, none⟩ = some (.slice (some ⟨g, 0, none⟩) ks.length kc) := hI4.box.cell 5; have lst : w4.cell? ⟨g, m, none⟩ = some (.string x) := (by have := (hI4.keys.cells (g := g) rfl) m (.string x) (by simp [List.getElem?_map, HLX.out]); rw [Addr.add_lit, Nat.zero_add] at this; exact this); have hb5w : Below w4.heap.size w4 (w4.alloc (.cells #[.string k] 9)) := (Below.refl _ _).alloc (Nat.le_refl _) _; have hI5 := hI4.below hb5w; obtain ⟨A5, c5, We, hrun, hoA, hgA, hAA⟩ := run_append_sl (P := Tryz.prog) (w4.alloc (.cells #[.string k] 9)) 26 26 9 Tryz.underlying26 infoStr rfl (by decide) (some ⟨g, 0, none⟩) ks.length kc (ks.map Value.string) hI5.keys (some ⟨w4.heap.size, 0, none⟩) 1 1 [.string k] rfl (SlAt.of_blk (Blk.new w4 9 #[.string k])) (by intro u hu; rw [List.mem_singleton] at hu; subst hu; rfl) (by have := HB0.out.2.2.1; have := HB0.out.2.2.2.1; simp only [maxLen]; omega) (by have := HB0.out.2.2.1; have := HB0.out.2.2.2.1; omega); have hrun' : ∀ ty, (Builtin.append_ #[26, 26] ty #[.slice (some ⟨g, 0, none⟩) ks.length kc, .slice (some ⟨w4.heap.size, 0, none⟩) 1 1]).run Tryz.prog (w4.alloc (.cells #[.string k] 9)) = .ok (.slice A5 (ks.length + 1) c5) We := fun _ => hrun; have HRN := Lib.hid hrun'; have hfin := hI5.push_key hpb hk20 hoA hgA (hAA.imp And.left id); have hbe := (hI5.kept (u := .int .i64 0) (j := 5) hpb (fun b hb => hI5.low b (List.mem_append_left _ hb)) hgA).2.2.2.1; have z5 : We.frozen? ⟨w.heap.size + 1, 5, none⟩ = false := hbe.frozen 5; have y5 : We.cell? ⟨w.heap.size + 1, 5, none⟩ = some (.slice (some ⟨g, 0, none⟩) ks.length kc) := hbe.cell 5; have x5 : (w4.alloc (.cells #[.string k] 9)).cell? ⟨w.heap.size + 1, 5, none⟩ = some (.slice (some ⟨g, 0, none⟩) ks.length kc) := hI5.box.cell 5; have HIK := Lib.hid hfin; clear hb5w hI5 hrun hrun' hoA hgA hAA hfin hbe; have HI4 := Lib.hid hI4; clear hI4 hle hk20 hr4 ho4 hqq)
                    | (at_builtin; refine wpList_append_run (o := ⟨some 67, _, _, _, _, _⟩) rfl _ _ _ _ rfl rfl rfl (HRN.out _) ?_)
                    | (go_at_call 14; refine (ris_y _ pb s hs z HA2.out _ 0 0 ⟨#[58]⟩ (by decide) HIK.out.rd HB.out).mono ?_; rintro e wk ⟨rfl, hr5, ho5⟩; replace hr5 : Rp wk pb s (z + 1) _ _ _ := hr5; have HI2 := Lib.hid (HIK.out.turn hpb hr5 ho5); clear hr5 ho5))
                  go_meet
                  exact ⟨ks ++ [k], A5, c5, z + 1, 0, 0, hle58, by have := HB0.out.2.2.2.1; simp; omega, (by intro h; cases h), HI2.out, HPV.out⟩
                · have HB := Lib.hid (isB_no (s := s) 58 h58)
                  have HPV := Lib.hid (show KeyEnd (toN s) 5 125 q l1 (pK Num (toN s) (q + 2) 5 125 a l1 ks (done.map PT.tree)) (done.map PT.tree) (ks ++ [k]) z (z : Nat) 2 from .inr ⟨rfl, z, rfl, HPN.out.trans (if_neg h58)⟩)
                  clear h58
                  go_wp2_with (first
                    | (go_at_call 16; refine (rquoted_any wr pb s hs a HB0.out.2.2.2.2 _ 20 (by decide) HI.out.rd).mono ?_; intro e w4 hqq; obtain ⟨hle, rfl, hk20, hr4, ho4⟩ := hqq.some_ HQ.out; rw [HZ.out] at hr4; have hI4 := HI.out.turn hpb hr4 ho4; have g4 := hI4.rd.cells.2.2.2.2.1; have g5 : w4.cell? ⟨w.heap.size + 1, 5, none⟩ = some (.slice (some ⟨g, 0, none⟩) ks.length kc) := hI4.box.cell 5; have lst : w4.cell? ⟨g, m, none⟩ = some (.string x) := (by have := (hI4.keys.cells (g := g) rfl) m (.string x) (by simp [List.getElem?_map, HLX.out]); rw [Addr.add_lit, Nat.zero_add] at this; exact this); have hb5w : Below w4.heap.size w4 (w4.alloc (.cells #[.string k] 9)) := (Below.refl _ _).alloc (Nat.le_refl _) _; have hI5 := hI4.below hb5w; obtain ⟨A5, c5, We, hrun, hoA, hgA, hAA⟩ := run_append_sl (P := Tryz.prog) (w4.alloc (.cells #[.string k] 9)) 26 26 9 Tryz.underlying26 infoStr rfl (by decide) (some ⟨g, 0, none⟩) ks.length kc (ks.map Value.string) hI5.keys (some ⟨w4.heap.size, 0, none⟩) 1 1 [.string k] rfl (SlAt.of_blk (Blk.new w4 9 #[.string k])) (by intro u hu; rw [List.mem_singleton] at hu; subst hu; rfl) (by have := HB0.out.2.2.1; have := HB0.out.2.2.2.1; simp only [maxLen]; omega) (by have := HB0.out.2.2.1; have := HB0.out.2.2.2.1; omega); have hrun' : ∀ ty, (Builtin.append_ #[26, 26] ty #[.slice (some ⟨g, 0, none⟩) ks.length kc, .slice (some ⟨w4.heap.size, 0, none⟩) 1 1]).run Tryz.prog (w4.alloc (.cells #[.string k] 9)) = .ok (.slice A5 (ks.length + 1) c5) We := fun _ => hrun; have HRN := Lib.hid hrun'; have hfin := hI5.push_key hpb hk20 hoA hgA (hAA.imp And.left id); have hbe := (hI5.kept (u := .int .i64 0) (j := 5) hpb (fun b hb => hI5.low b (List.mem_append_left _ hb)) hgA).2.2.2.1; have z5 : We.frozen? ⟨w.heap.size + 1, 5, none⟩ = false := hbe.frozen 5; have y5 : We.cell? ⟨w.heap.size + 1, 5, none⟩ = some (.slice (some ⟨g, 0, none⟩) ks.length kc) := hbe.cell 5; have x5 : (w4.alloc (.cells #[.string k] 9)).cell? ⟨w.heap.size + 1, 5, none⟩ = some (.slice (some ⟨g, 0, none⟩) ks.length kc) := hI5.box.cell 5; have HIK := Lib.hid hfin; clear hb5w hI5 hrun hrun' hoA hgA hAA hfin hbe; have HI4 := Lib.hid hI4; clear hI4 hle hk20 hr4 ho4 hqq)
                    | (at_builtin; refine wpList_append_run (o := ⟨some 67, _, _, _, _, _⟩) rfl _ _ _ _ rfl rfl rfl (HRN.out _) ?_)
                    | (go_at_call 14; refine (ris_n _ pb s hs z HA2.out _ 0 0 ⟨#[58]⟩ (by decide) HIK.out.rd HB.out).mono ?_; rintro e wk ⟨rfl, hr5, ho5⟩; have hI2 := HIK.out.turn hpb hr5 ho5; have g1k := hI2.rd.cells.2.1; have HI2 := Lib.hid hI2; clear hr5 ho5 hI2)
                    | (go_at_call 8; (with_reducible refine (rfail_set _ pb s z _ z 2 HI2.out.rd).mono ?_); rintro e wl ⟨rfl, hr6, ho6⟩; have HI6 := Lib.hid (HI2.out.turn hpb hr6 ho6); clear hr6 ho6))
                  go_meet
                  exact ⟨ks ++ [k], A5, c5, z, _, _, HA2.out, by have := HB0.out.2.2.2.1; simp; omega, (by intro h; cases h), HI6.out, HPV.out⟩
    case rest =>
      obtain ⟨ks2, kA2, kc2, a2, wg, bad, ha2, hkl2, hk62, hI2, hend⟩ := hcut
      clear h0 h1 h2 h3 h4 hz
      rcases hend with ⟨rfl, rfl, hP⟩ | ⟨rfl, x, rfl, hP⟩
      case inr =>
        have HPB := Lib.hid (HP.out.trans (HPK.out.trans hP))
        obtain ⟨b0, b1, b2, b3, b4, b5, b6, zb⟩ := res_cells hI2.box; obtain ⟨r0, r1, r2, r3, r4, r5, r6, zr⟩ := res_cells hI2.res
        obtain ⟨h0, h1, h2, h3, h4, hz⟩ := hI2.rd.cells
        have HE := Lib.hid (And.intro ha2 hI2)
        clear hI2 hP ha2
        go_wp2_with fail
        refine bodyPost_ret (v := .agg #[.int .i64 kind, .int .i64 0, .string ⟨#[]⟩, .int .i64 0, .int .i64 0, .slice kA2 ks2.length kc2, .slice cA done.length cc]) (results_cell_row Tryz.results15 _ _ w.heap.size _ _ _ _ rfl (blk7 _ _ _ _ _ _ _ HE.out.2.res) Tryz.underlying29 rfl (by kernel_rfl)) rfl ?_
        exact rbad_end (.inl rfl) HE.out.2.rs hpb HE.out.1 HPB.out _ ⟨kind, 0, ⟨#[]⟩, 0, 0, kA2, ks2.length, kc2, cA, done.length, cc, rfl⟩ _ _ _ _ _ _ _
      case inl =>
        have HPV := Lib.hid (HPK.out.trans hP)
        have HB1 := Lib.hid (show l1 ≤ l ∧ 3 * l1 + 1 ≤ q ∧ done.length + l1 ≤ 400 ∧ ks2.length ≤ done.length + 1 ∧ a2 ≤ s.size from ⟨HB0.out.1, HB0.out.2.1, HB0.out.2.2.1, hkl2, ha2⟩)
        obtain ⟨h0, h1, h2, h3, h4, hz⟩ := hI2.rd.cells
        have HT := Lib.hid (ht l1 HB1.out.1 q a2 wc HB1.out.2.1 ha2 hI2.rd)
        have HI2 := Lib.hid hI2
        clear hP hI2
        cases hP2 : pT Num (toN s) q a2 l1 with
        | bad a3 x3 =>
          have HPB := Lib.hid (HP.out.trans (HPV.out.trans (vR_bad hP2)))
          have HP2 := Lib.hid hP2
          clear hP2
          go_upto_region 20 with (first
            | (go_at_call 7; (with_reducible refine HT.out.mono ?_); intro e w3 hq; obtain ⟨hx, ⟨vk, vn, vs, vo, vp, vA, vn1, vc1, vB, vn2, vc2, rfl⟩, ⟨a4, t4, ha4, hr4⟩, ho4⟩ := hq.badd HP2.out; have hI3 := HI2.out.turn hpb hr4 ho4; have hb4 : Below w3.heap.size w3 (w3.alloc (.cells #[.int .i64 vk, .int .i64 vn, .string vs, .int .i64 vo, .int .i64 vp, .slice vA vn1 vc1, .slice vB vn2 vc2] 29)) := (Below.refl _ _).alloc (Nat.le_refl _) _; have hb5 : Below (w3.alloc (.cells #[.int .i64 vk, .int .i64 vn, .string vs, .int .i64 vo, .int .i64 vp, .slice vA vn1 vc1, .slice vB vn2 vc2] 29)).heap.size (w3.alloc (.cells #[.int .i64 vk, .int .i64 vn, .string vs, .int .i64 vo, .int .i64 vp, .slice vA vn1 vc1, .slice vB vn2 vc2] 29)) ((w3.alloc (.cells #[.int .i64 vk, .int .i64 vn, .string vs, .int .i64 vo, .int .i64 vp, .slice vA vn1 vc1, .slice vB vn2 vc2] 29)).alloc (.cells #[.int .i64 vk, .int .i64 vn, .string vs, .int .i64 vo, .int .i64 vp, .slice vA vn1 vc1, .slice vB vn2 vc2] 29)) := (Below.refl _ _).alloc (Nat.le_refl _) _; have hI4 := hI3.below hb4; have hI5 := hI4.below hb5; obtain ⟨A', c', We, hrun, hoA, hgA, hAA⟩ := run_append_sl (P := Tryz.prog) ((w3.alloc (.cells #[.int .i64 vk, .int .i64 vn, .string vs, .int .i64 vo, .int .i64 vp, .slice vA vn1 vc1, .slice vB vn2 vc2] 29)).alloc (.cells #[.int .i64 vk, .int .i64 vn, .string vs, .int .i64 vo, .int .i64 vp, .slice vA vn1 vc1, .slice vB vn2 vc2] 29)) 27 27 29 Tryz.underlying27 infoTree rfl (by decide) cA done.length cc (PT.cellsL done) hI5.kids (some ⟨w3.heap.size + 1, 0, none⟩) 1 1 [.int .i64 vk, .int .i64 vn, .string vs, .int .i64 vo, .int .i64 vp, .slice vA vn1 vc1, .slice vB vn2 vc2] (by first | rfl | rw [PT.cells_length]) (SlAt.of_blk (Blk.newer (w3.alloc (.cells #[.int .i64 vk, .int .i64 vn, .string vs, .int .i64 vo, .int .i64 vp, .slice vA vn1 vc1, .slice vB vn2 vc2] 29)) 29 #[.int .i64 vk, .int .i64 vn, .string vs, .int .i64 vo, .int .i64 vp, .slice vA vn1 vc1, .slice vB vn2 vc2] (by simp))) (by first | exact one_ptK T | (intro u hu; simp only [List.mem_cons, List.not_mem_nil, or_false] at hu; rcases hu with rfl | rfl | rfl | rfl | rfl | rfl | rfl <;> rfl)) (by have := HB1.out.2.2.1; simp only [maxLen]; omega) (by have := HB1.out.2.2.1; omega); have hrun' : ∀ ty, (Builtin.append_ #[27, 27] ty #[.slice cA done.length cc, .slice (some ⟨w3.heap.size + 1, 0, none⟩) 1 1]).run Tryz.prog ((w3.alloc (.cells #[.int .i64 vk, .int .i64 vn, .string vs, .int .i64 vo, .int .i64 vp, .slice vA vn1 vc1, .slice vB vn2 vc2] 29)).alloc (.cells #[.int .i64 vk, .int .i64 vn, .string vs, .int .i64 vo, .int .i64 vp, .slice vA vn1 vc1, .slice vB vn2 vc2] 29)) = .ok (.slice A' (done.length + 1) c') We := fun _ => hrun; have HRP := Lib.hid hrun'; have hbe := (hI5.kept (u := .int .i64 0) (j := 6) hpb (fun b hb => hI5.low b (List.mem_append_right _ (List.mem_append_left _ hb))) hgA).2.2.2.1; have hfin := hI5.push_any (A' := A') (n' := done.length + 1) (c' := c') ha4 hpb hgA; have HF := Lib.hid (And.intro hx hfin); have q0 : (w3.alloc (.cells #[.int .i64 vk, .int .i64 vn, .string vs, .int .i64 vo, .int .i64 vp, .slice vA vn1 vc1, .slice vB vn2 vc2] 29)).cell? ⟨w.heap.size + 1, 6, none⟩ = some (.slice cA done.length cc) := hI4.box.cell 6; have q1 : (w3.alloc (.cells #[.int .i64 vk, .int .i64 vn, .string vs, .int .i64 vo, .int .i64 vp, .slice vA vn1 vc1, .slice vB vn2 vc2] 29)).frozen? ⟨w.heap.size + 1, 6, none⟩ = false := hI4.box.frozen 6; have q00 : w3.cell? ⟨w.heap.size + 1, 6, none⟩ = some (.slice cA done.length cc) := hI3.box.cell 6; have q2 : ((w3.alloc (.cells #[.int .i64 vk, .int .i64 vn, .string vs, .int .i64 vo, .int .i64 vp, .slice vA vn1 vc1, .slice vB vn2 vc2] 29)).alloc (.cells #[.int .i64 vk, .int .i64 vn, .string vs, .int .i64 vo, .int .i64 vp, .slice vA vn1 vc1, .slice vB vn2 vc2] 29)).cell? ⟨w.heap.size + 1, 6, none⟩ = some (.slice cA done.length cc) := hI5.box.cell 6; have q3 : ((w3.alloc (.cells #[.int .i64 vk, .int .i64 vn, .string vs, .int .i64 vo, .int .i64 vp, .slice vA vn1 vc1, .slice vB vn2 vc2] 29)).alloc (.cells #[.int .i64 vk, .int .i64 vn, .string vs, .int .i64 vo, .int .i64 vp, .slice vA vn1 vc1, .slice vB vn2 vc2] 29)).frozen? ⟨w.heap.size + 1, 6, none⟩ = false := hI5.box.frozen 6; have q4 : We.cell? ⟨w.heap.size + 1, 6, none⟩ = some (.slice cA done.length cc) := hbe.cell 6; have q5 : We.frozen? ⟨w.heap.size + 1, 6, none⟩ = false := hbe.frozen 6; clear hI3 hb4 hb5 hI4 hI5 hrun hrun' hoA hgA hAA hfin hbe; clear hx ha4 hr4 ho4 hq)
            | (at_builtin; refine wpList_append_run (o := ⟨some 91, _, _, _, _, _⟩) rfl _ _ _ _ rfl rfl rfl (HRP.out _) ?_))
          refine wp_at (fun W => RBad w pb s a3 x3 W) HF.out.2 ?_
          clear h0 h1 h2 h3 h4 hz q0 q1 q00 q2 q3 q4 q5
          rintro W6 ⟨at6, tr6, ha6, hS6, kk, kn0, kst, ko, kp, kkA, kkn, kkc, kcA, kcn, kcc, hB6⟩
          obtain ⟨h0, h1, h2, h3, h4, hz⟩ := hS6.rd.cells
          obtain ⟨b0, b1, b2, b3, b4, b5, b6, zb⟩ := res_cells hB6; obtain ⟨r0, r1, r2, r3, r4, r5, r6, zr⟩ := res_cells hS6.res
          have HE := Lib.hid (And.intro ha6 hS6)
          have hx3 : ¬ x3 = 0 := by have := HF.out.1; omega
          have hx3b : (x3 == 0) = false := by rw [beq_eq_false_iff_ne]; exact hx3
          have hx3c : (x3 != 0) = true := by simp [hx3]
          clear hS6 hB6 ha6
          go_wp2_with fail
          refine bodyPost_ret (v := .agg #[.int .i64 kk, .int .i64 kn0, .string kst, .int .i64 ko, .int .i64 kp, .slice kkA kkn kkc, .slice kcA kcn kcc]) (results_cell_row Tryz.results15 _ _ w.heap.size _ _ _ _ rfl (blk7 _ _ _ _ _ _ _ HE.out.2.res) Tryz.underlying29 rfl (by kernel_rfl)) rfl ?_
          exact rbad_end HF.out.1 HE.out.2 hpb HE.out.1 HPB.out _ ⟨kk, kn0, kst, ko, kp, kkA, kkn, kkc, kcA, kcn, kcc, rfl⟩ _ _ _ _ _ _ _
        | ok t2 a3 l2 =>
          have HVR := Lib.hid (HPV.out.trans (vR_ok (kind := kind) (endc := endc) (ks := ks2) (kids := done.map PT.tree) hP2))
          have HL2 := Lib.hid ((left_lt Num (toN s) q).1 _ _ _ _ _ hP2)
          have HP2 := Lib.hid hP2
          clear hP2
          go_upto_region 20 with (first
            | (go_at_call 7; (with_reducible refine HT.out.mono ?_); intro e w3 hq; obtain ⟨T, rfl, htr, ha3, hr3, hown3, hnd3, hlow3, ho3⟩ := hq.okd HP2.out; have hI3 := HI2.out.turn hpb hr3 ho3; have hb4 : Below w3.heap.size w3 (w3.alloc (.cells #[.int .i64 T.val.k, .int .i64 T.val.n, .string T.val.s, .int .i64 T.val.o, .int .i64 T.val.p, .slice T.kA T.keys.length T.kc, .slice T.cA T.kids.length T.cc] 29)) := (Below.refl _ _).alloc (Nat.le_refl _) _; have hb5 : Below (w3.alloc (.cells #[.int .i64 T.val.k, .int .i64 T.val.n, .string T.val.s, .int .i64 T.val.o, .int .i64 T.val.p, .slice T.kA T.keys.length T.kc, .slice T.cA T.kids.length T.cc] 29)).heap.size (w3.alloc (.cells #[.int .i64 T.val.k, .int .i64 T.val.n, .string T.val.s, .int .i64 T.val.o, .int .i64 T.val.p, .slice T.kA T.keys.length T.kc, .slice T.cA T.kids.length T.cc] 29)) ((w3.alloc (.cells #[.int .i64 T.val.k, .int .i64 T.val.n, .string T.val.s, .int .i64 T.val.o, .int .i64 T.val.p, .slice T.kA T.keys.length T.kc, .slice T.cA T.kids.length T.cc] 29)).alloc (.cells #[.int .i64 T.val.k, .int .i64 T.val.n, .string T.val.s, .int .i64 T.val.o, .int .i64 T.val.p, .slice T.kA T.keys.length T.kc, .slice T.cA T.kids.length T.cc] 29)) := (Below.refl _ _).alloc (Nat.le_refl _) _; have hI4 := hI3.below hb4; have hI5 := hI4.below hb5; obtain ⟨A', c', We, hrun, hoA, hgA, hAA⟩ := run_append_sl (P := Tryz.prog) ((w3.alloc (.cells #[.int .i64 T.val.k, .int .i64 T.val.n, .string T.val.s, .int .i64 T.val.o, .int .i64 T.val.p, .slice T.kA T.keys.length T.kc, .slice T.cA T.kids.length T.cc] 29)).alloc (.cells #[.int .i64 T.val.k, .int .i64 T.val.n, .string T.val.s, .int .i64 T.val.o, .int .i64 T.val.p, .slice T.kA T.keys.length T.kc, .slice T.cA T.kids.length T.cc] 29)) 27 27 29 Tryz.underlying27 infoTree rfl (by decide) cA done.length cc (PT.cellsL done) hI5.kids (some ⟨w3.heap.size + 1, 0, none⟩) 1 1 T.cells (by first | rfl | rw [PT.cells_length]) (SlAt.of_blk (Blk.newer (w3.alloc (.cells #[.int .i64 T.val.k, .int .i64 T.val.n, .string T.val.s, .int .i64 T.val.o, .int .i64 T.val.p, .slice T.kA T.keys.length T.kc, .slice T.cA T.kids.length T.cc] 29)) 29 #[.int .i64 T.val.k, .int .i64 T.val.n, .string T.val.s, .int .i64 T.val.o, .int .i64 T.val.p, .slice T.kA T.keys.length T.kc, .slice T.cA T.kids.length T.cc] (by simp))) (by first | exact one_ptK T | (intro u hu; simp only [List.mem_cons, List.not_mem_nil, or_false] at hu; rcases hu with rfl | rfl | rfl | rfl | rfl | rfl | rfl <;> rfl)) (by have := HB1.out.2.2.1; simp only [maxLen]; omega) (by have := HB1.out.2.2.1; omega); have hrun' : ∀ ty, (Builtin.append_ #[27, 27] ty #[.slice cA done.length cc, .slice (some ⟨w3.heap.size + 1, 0, none⟩) 1 1]).run Tryz.prog ((w3.alloc (.cells #[.int .i64 T.val.k, .int .i64 T.val.n, .string T.val.s, .int .i64 T.val.o, .int .i64 T.val.p, .slice T.kA T.keys.length T.kc, .slice T.cA T.kids.length T.cc] 29)).alloc (.cells #[.int .i64 T.val.k, .int .i64 T.val.n, .string T.val.s, .int .i64 T.val.o, .int .i64 T.val.p, .slice T.kA T.keys.length T.kc, .slice T.cA T.kids.length T.cc] 29)) = .ok (.slice A' (done.length + 1) c') We := fun _ => hrun; have HRP := Lib.hid hrun'; have hbe := (hI5.kept (u := .int .i64 0) (j := 6) hpb (fun b hb => hI5.low b (List.mem_append_right _ (List.mem_append_left _ hb))) hgA).2.2.2.1; have hfin := hI5.push_kid (n0 := wc.heap.size) hpb ((hown3.keep fun b hb hlt => hb4.block b hlt).keep fun b hb hlt => hb5.block b hlt) hnd3 hlow3 (fun b hb => HI2.out.lt b hb) (by have := HI2.out.box.lt; omega) hoA hgA (hAA.imp And.left id); have HF := Lib.hid (And.intro htr (And.intro ha3 hfin)); have q0 : (w3.alloc (.cells #[.int .i64 T.val.k, .int .i64 T.val.n, .string T.val.s, .int .i64 T.val.o, .int .i64 T.val.p, .slice T.kA T.keys.length T.kc, .slice T.cA T.kids.length T.cc] 29)).cell? ⟨w.heap.size + 1, 6, none⟩ = some (.slice cA done.length cc) := hI4.box.cell 6; have q1 : (w3.alloc (.cells #[.int .i64 T.val.k, .int .i64 T.val.n, .string T.val.s, .int .i64 T.val.o, .int .i64 T.val.p, .slice T.kA T.keys.length T.kc, .slice T.cA T.kids.length T.cc] 29)).frozen? ⟨w.heap.size + 1, 6, none⟩ = false := hI4.box.frozen 6; have q00 : w3.cell? ⟨w.heap.size + 1, 6, none⟩ = some (.slice cA done.length cc) := hI3.box.cell 6; have q2 : ((w3.alloc (.cells #[.int .i64 T.val.k, .int .i64 T.val.n, .string T.val.s, .int .i64 T.val.o, .int .i64 T.val.p, .slice T.kA T.keys.length T.kc, .slice T.cA T.kids.length T.cc] 29)).alloc (.cells #[.int .i64 T.val.k, .int .i64 T.val.n, .string T.val.s, .int .i64 T.val.o, .int .i64 T.val.p, .slice T.kA T.keys.length T.kc, .slice T.cA T.kids.length T.cc] 29)).cell? ⟨w.heap.size + 1, 6, none⟩ = some (.slice cA done.length cc) := hI5.box.cell 6; have q3 : ((w3.alloc (.cells #[.int .i64 T.val.k, .int .i64 T.val.n, .string T.val.s, .int .i64 T.val.o, .int .i64 T.val.p, .slice T.kA T.keys.length T.kc, .slice T.cA T.kids.length T.cc] 29)).alloc (.cells #[.int .i64 T.val.k, .int .i64 T.val.n, .string T.val.s, .int .i64 T.val.o, .int .i64 T.val.p, .slice T.kA T.keys.length T.kc, .slice T.cA T.kids.length T.cc] 29)).frozen? ⟨w.heap.size + 1, 6, none⟩ = false := hI5.box.frozen 6; have q4 : We.cell? ⟨w.heap.size + 1, 6, none⟩ = some (.slice cA done.length cc) := hbe.cell 6; have q5 : We.frozen? ⟨w.heap.size + 1, 6, none⟩ = false := hbe.frozen 6; clear hI3 hb4 hb5 hI4 hI5 hrun hrun' hoA hgA hAA hfin hbe; clear htr ha3 hr3 hown3 hnd3 hlow3 ho3 hq)
            | (at_builtin; refine wpList_append_run (o := ⟨some 91, _, _, _, _, _⟩) rfl _ _ _ _ rfl rfl rfl (HRP.out _) ?_))
          refine wp_at (fun W => RKI w pb s kind a3 (400 - (l2 : Int)) 0 0 ks2 (done ++ [T]) kA2 kc2 A' c' W) HF.out.2.2 ?_
          clear h0 h1 h2 h3 h4 hz q0 q1 q00 q2 q3 q4 q5
          intro W6 hI6
          obtain ⟨h0, h1, h2, h3, h4, hz⟩ := hI6.rd.cells
          have ha3 := HF.out.2.1
          have htr := HF.out.1
          subst htr
          have HI6 := Lib.hid hI6
          clear hI6
          by_cases h44 : (toN s)[a3]? = some 44
          · have HB := Lib.hid ((isB_one 44).2 h44)
            have HVN := Lib.hid (HVR.out.trans (if_pos h44))
            have hlt3 := lt_of_at h44
            clear h44
            go_wp2_with (go_at_call 14; refine (ris_y _ pb s hs a3 ha3 _ 0 0 ⟨#[44]⟩ (by decide) HI6.out.rd HB.out).mono ?_; rintro e w7 ⟨rfl, hr7, ho7⟩; replace hr7 : Rp w7 pb s (a3 + 1) _ _ _ := hr7; have HI7 := Lib.hid (HI6.out.turn hpb hr7 ho7); clear hr7 ho7)
            go_roundw
            case rel => exact ⟨q, a3 + 1, l2, ks2, done ++ [T], kA2, kc2, A', c', HI7.out, by rw [HVN.out, List.map_append]; rfl, by have := HB1.out.2.1; have := HL2.out; omega, by have := HB1.out.1; have := HL2.out; omega, by have := HB1.out.2.2.1; have := HL2.out; simp; omega, by have := HB1.out.2.2.2.1; simp; omega, by omega⟩
            case measure =>
              rw [trOf_eq HI7.out.rd, HLO.out]
              exact HL2.out
          · have HBN := Lib.hid (isB_no (s := s) 44 h44)
            have HVN := Lib.hid (HVR.out.trans (if_neg h44))
            clear h44
            have hc44 := Lib.hid (show (⟨#[44]⟩ : ByteArray).size ≤ 100 from by decide)
            have hceb := Lib.hid (show (⟨#[eb]⟩ : ByteArray).size ≤ 100 from (show (1 : Nat) ≤ 100 by decide))
            by_cases hend : (toN s)[a3]? = some endc
            · have HB := Lib.hid ((isB_one eb).2 (by rw [hend, HK.out.1]))
              have HVM := Lib.hid (HVN.out.trans (if_pos hend))
              have hlt3 := lt_of_at hend
              clear hend
              go_wp2_with (first
                | (go_at_call 14; (with_reducible refine (ris_n _ pb s hs a3 ha3 _ 0 0 ⟨#[44]⟩ hc44.out HI6.out.rd HBN.out).mono ?_); rintro e w7 ⟨rfl, hr7, ho7⟩; have HI7 := Lib.hid (HI6.out.turn hpb hr7 ho7); clear hr7 ho7)
                | (go_at_call 14; (with_reducible refine (ris_y _ pb s hs a3 ha3 _ 0 0 ⟨#[eb]⟩ hceb.out HI7.out.rd HB.out).mono ?_); rintro e w8 ⟨rfl, hr8, ho8⟩; replace hr8 : Rp w8 pb s (a3 + 1) _ _ _ := hr8; have hI8 := HI7.out.turn hpb hr8 ho8; obtain ⟨b0, b1, b2, b3, b4, b5, b6, zb⟩ := res_cells hI8.box; obtain ⟨r0, r1, r2, r3, r4, r5, r6, zr⟩ := res_cells hI8.res; have HI8 := Lib.hid hI8; clear hr8 ho8 hI8))
              refine bodyPost_ret (v := .agg #[.int .i64 kind, .int .i64 0, .string ⟨#[]⟩, .int .i64 0, .int .i64 0, .slice kA2 ks2.length kc2, .slice A' (done.length + 1) c']) (results_cell_row Tryz.results15 _ _ w.heap.size _ _ _ _ rfl (blk7 _ _ _ _ _ _ _ HI8.out.res) Tryz.underlying29 rfl (by kernel_rfl)) rfl ?_
              exact rtree_end rfl HI8.out.rs hpb (PT.node (kindV kind) kA2 kc2 ks2 A' c' (done ++ [T])) (HP.out.trans (HVM.out.trans (by rw [show (PT.node (kindV kind) kA2 kc2 ks2 A' c' (done ++ [T])).tree = .node (kindV kind) ks2 ((done ++ [T]).map PT.tree) from PT.tree_eq _, List.map_append]; rfl))) (by omega) (OwnJ.mk_ ⟨kind_fit HK.out.2.2, HI8.out.keys, HI8.out.kids, fun x hx => by have := HI8.out.each x hx; unfold maxLen; omega⟩ HI8.out.own) (by rw [PT.own_eq]; exact HI8.out.nd) (by intro b hb; rw [PT.own_eq] at hb; have := HI8.out.low b hb; omega) _ (by rw [PT.value_eq]; simp [PT.val, PT.keys, PT.kids, PT.kA, PT.kc, PT.cA, PT.cc, kindV]) _ _ _ _ _ _ _
            · have HB := Lib.hid (isB_no (s := s) eb (by rw [← HK.out.1]; exact hend))
              have HVM := Lib.hid (HVN.out.trans (if_neg hend))
              clear hend
              go_wp2_with (first
                | (go_at_call 14; (with_reducible refine (ris_n _ pb s hs a3 ha3 _ 0 0 ⟨#[44]⟩ hc44.out HI6.out.rd HBN.out).mono ?_); rintro e w7 ⟨rfl, hr7, ho7⟩; have HI7 := Lib.hid (HI6.out.turn hpb hr7 ho7); clear hr7 ho7)
                | (go_at_call 14; (with_reducible refine (ris_n _ pb s hs a3 ha3 _ 0 0 ⟨#[eb]⟩ hceb.out HI7.out.rd HB.out).mono ?_); rintro e w8 ⟨rfl, hr8, ho8⟩; have hI8 := HI7.out.turn hpb hr8 ho8; have g18 := hI8.rd.cells.2.1; have HI8 := Lib.hid hI8; clear hr8 ho8 hI8)
                | (go_at_call 8; (with_reducible refine (rfail_set _ pb s a3 _ a3 2 HI8.out.rd).mono ?_); rintro e w9 ⟨rfl, hr9, ho9⟩; have hI9 := HI8.out.turn hpb hr9 ho9; obtain ⟨b0, b1, b2, b3, b4, b5, b6, zb⟩ := res_cells hI9.box; obtain ⟨r0, r1, r2, r3, r4, r5, r6, zr⟩ := res_cells hI9.res; have HI9 := Lib.hid hI9; clear hr9 ho9 hI9))
              refine bodyPost_ret (v := .agg #[.int .i64 kind, .int .i64 0, .string ⟨#[]⟩, .int .i64 0, .int .i64 0, .slice kA2 ks2.length kc2, .slice A' (done.length + 1) c']) (results_cell_row Tryz.results15 _ _ w.heap.size _ _ _ _ rfl (blk7 _ _ _ _ _ _ _ HI9.out.res) Tryz.underlying29 rfl (by kernel_rfl)) rfl ?_
              exact rbad_end (.inl rfl) HI9.out.rs hpb ha3 (HP.out.trans HVM.out) _ ⟨kind, 0, ⟨#[]⟩, 0, 0, kA2, ks2.length, kc2, A', (done.length + 1), c', rfl⟩ _ _ _ _ _ _ _
end Go.Proofs.YtpeckpiidgkgoaaGreatDoor
