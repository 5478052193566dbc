/- KidsHead, KidsWant. -/
import Derived.Test.YtpeckpiidgkgoaaGreatDoorPg14
import Derived.Test.YtpeckpiidgkgoaaGreatDoorPg13
import Derived.Test.YtpeckpiidgkgoaaGreatDoorPg6
import Derived.Test.YtpeckpiidgkgoaaGreatDoorPg15
/- reader.kids: what its loop holds. -/
namespace Go.Proofs.YtpeckpiidgkgoaaGreatDoor
open Go.RowKit
set_option linter.unusedVariables false
set_option linter.unusedSimpArgs false

theorem Only.and_below {S : Nat → Prop} {w w1 w2 : World} (h : Only S w w1) (hb : Below w.heap.size w1 w2) : Only S w w2 :=
  ⟨hb.os.trans h.os, hb.tape.trans h.tape, hb.output.trans h.output, Nat.le_trans h.size hb.size, fun k hk hn => (hb.block k hk).trans (h.block k hk hn)⟩
theorem ownB_of {A : Option Addr} {n c k : Nat} (h : (Value.slice A n c).ownBlock = some k) : k ∈ blkOf A := by
  cases A with
  | none => cases h
  | some a => injection h with h; simp [blkOf, h]
theorem blkOf_new {A A' : Option Addr} {n : Nat} (h : A' = A ∨ A' = some ⟨n, 0, none⟩) : ∀ b ∈ blkOf A', b ∈ blkOf A ∨ b = n := by
  intro b hb
  rcases h with rfl | rfl
  · exact .inl hb
  · simp [blkOf] at hb; exact .inr hb
theorem blkOf_nodup (A : Option Addr) : (blkOf A).Nodup := by cases A <;> simp [blkOf]
/-- The loop over the kids. -/
structure KI (w : World) (rb : Nat) (s : ByteArray) (kind : Int) (a left : Nat) (ks : List ByteArray) (done : List PT) (kA : Option Addr) (kc : Nat) (cA : Option Addr) (cc : Nat) (wr : World) : Prop where
  rd : Rd wr rb s a left
  res : Blk wr w.heap.size 29 #[.int .i64 0, .int .i64 0, .string ⟨#[]⟩, .int .i64 0, .int .i64 0, .slice none 0 0, .slice none 0 0]
  box : Blk wr (w.heap.size + 1) 29 #[.int .i64 kind, .int .i64 0, .string ⟨#[]⟩, .int .i64 0, .int .i64 0, .slice kA ks.length kc, .slice cA done.length cc]
  keys : wr.ownsRow 0 9 1 (.slice kA ks.length kc) ks.length (ks.map Value.string)
  kids : wr.ownsRow 0 29 7 (.slice cA done.length cc) done.length (PT.cellsL done)
  own : ∀ D ∈ done, OwnJ 9 29 wr D
  nd : (blkOf kA ++ (blkOf cA ++ PT.ownL done)).Nodup
  low : ∀ b ∈ blkOf kA ++ (blkOf cA ++ PT.ownL done), w.heap.size + 2 ≤ b
  only : Only (fun k => k = rb) w wr
  each : ∀ k ∈ ks, k.size ≤ 20
section
variable {w wr : World} {rb : Nat} {s : ByteArray} {kind : Int} {a left : Nat} {ks : List ByteArray} {done : List PT} {kA : Option Addr} {kc : Nat} {cA : Option Addr} {cc : Nat}
theorem ownL_lt' {TS TT : TypeId} {w : World} {l : List PT} (h : ∀ D ∈ l, OwnJ TS TT w D) : ∀ b ∈ PT.ownL l, b < w.heap.size := by
  induction l with
  | nil => intro b hb; simp [PT.ownL] at hb
  | cons x l ih =>
    intro b hb
    rw [PT.ownL] at hb
    rcases List.mem_append.1 hb with hb | hb
    · exact (h x (by simp)).lt b hb
    · exact ih (fun D hD => h D (List.mem_cons_of_mem _ hD)) b hb
theorem KI.lt (h : KI w rb s kind a left ks done kA kc cA cc wr) : ∀ b ∈ blkOf kA ++ (blkOf cA ++ PT.ownL done), b < wr.heap.size := by
  intro b hb
  rcases List.mem_append.1 hb with hb | hb
  · exact own_lt h.keys b hb
  · rcases List.mem_append.1 hb with hb | hb
    · exact own_lt h.kids b hb
    · exact ownL_lt' h.own b hb
/-- All but the reader stays. -/
theorem KI.keep {w' : World} {a' left' : Nat} (h : KI w rb s kind a left ks done kA kc cA cc wr) (hr : Rd w' rb s a' left') (ho : Only (fun k => k = rb) w w') (hk : ∀ b, w.heap.size ≤ b → b < wr.heap.size → w'.heap[b]? = wr.heap[b]?) : KI w rb s kind a' left' ks done kA kc cA cc w' := by
  have hl := h.low
  refine ⟨hr, (hk _ (Nat.le_refl _) h.res.lt).trans h.res, (hk _ (by omega) h.box.lt).trans h.box, own_keep h.keys fun b hb hlt => hk b ?_ hlt, own_keep h.kids fun b hb hlt => hk b ?_ hlt, fun D hD => (h.own D hD).keep fun b hb hlt => hk b ?_ hlt, h.nd, h.low, ho, h.each⟩
  · have := hl b (List.mem_append_left _ hb); omega
  · have := hl b (List.mem_append_right _ (List.mem_append_left _ hb)); omega
  · have := hl b (List.mem_append_right _ (List.mem_append_right _ (PT.ownL_mem hD hb))); omega
theorem KI.turn {w' : World} {a' left' : Nat} (h : KI w rb s kind a left ks done kA kc cA cc wr) (hrb : rb < w.heap.size) (hr : Rd w' rb s a' left') (ho : Only (fun k => k = rb) wr w') : KI w rb s kind a' left' ks done kA kc cA cc w' :=
  h.keep hr (h.only.trans ho) fun b hb hlt => ho.block b hlt (by omega)
theorem KI.below {w' : World} (h : KI w rb s kind a left ks done kA kc cA cc wr) (hb : Below wr.heap.size wr w') : KI w rb s kind a left ks done kA kc cA cc w' :=
  h.keep (h.rd.below hb) (h.only.trans (Only.of_below hb)) fun b _ hlt => hb.block b hlt
theorem KI.drewN (h : KI w rb s kind a left ks done kA kc cA cc wr) (n : Nat) : KI w rb s kind a left ks done kA kc cA cc (wr.drewN n) := h.keep (h.rd.drew n) (h.only.drewN n) fun _ _ _ => rfl
theorem KI.drew (h : KI w rb s kind a left ks done kA kc cA cc wr) : KI w rb s kind a left ks done kA kc cA cc wr.drew := h.drewN 1
/-- What an append and a store into the box leave. -/
theorem KI.kept {We : World} {A : Option Addr} {n c j : Nat} {u : Value} (h : KI w rb s kind a left ks done kA kc cA cc wr) (hrb : rb < w.heap.size) (hA : ∀ b ∈ blkOf A, w.heap.size + 2 ≤ b) (hg : wr.grownBy We (Value.slice A n c).ownBlock) :
    (∀ b, b < wr.heap.size → b ∉ blkOf A → b ≠ w.heap.size + 1 → (We.setCell ⟨w.heap.size + 1, j, none⟩ u).heap[b]? = wr.heap[b]?) ∧ Only (fun k => k = rb) w (We.setCell ⟨w.heap.size + 1, j, none⟩ u) ∧ (∀ b, b ≠ w.heap.size + 1 → (We.setCell ⟨w.heap.size + 1, j, none⟩ u).heap[b]? = We.heap[b]?) ∧ Blk We (w.heap.size + 1) 29 #[.int .i64 kind, .int .i64 0, .string ⟨#[]⟩, .int .i64 0, .int .i64 0, .slice kA ks.length kc, .slice cA done.length cc] ∧ (We.setCell ⟨w.heap.size + 1, j, none⟩ u).heap.size = We.heap.size := by
  have hsz : wr.heap.size ≤ We.heap.size := hg.size
  have hbl : ∀ b, b < wr.heap.size → b ∉ blkOf A → We.heap[b]? = wr.heap[b]? := fun b hb hn => hg.block b hb (fun e => hn (ownB_of e.symm))
  have o := (Only.refl (· = w.heap.size + 1) We).setCell (p := ⟨w.heap.size + 1, j, none⟩) rfl u
  have hne : ∀ b, b ≠ w.heap.size + 1 → (We.setCell ⟨w.heap.size + 1, j, none⟩ u).heap[b]? = We.heap[b]? := by
    intro b hb
    by_cases hlt : b < We.heap.size
    · exact o.block b hlt hb
    · have e : (We.setCell ⟨w.heap.size + 1, j, none⟩ u).heap.size = We.heap.size := by simp
      rw [Array.getElem?_eq_none (by omega), Array.getElem?_eq_none (by omega)]
  refine ⟨fun b hb hn hx => (hne b hx).trans (hbl b hb hn), ?_, hne, ?_, by simp⟩
  · have hb1 : Below w.heap.size wr We := grown_below hg (by have := h.res.lt; omega) (fun k hk => by have := hA k (ownB_of hk); omega)
    have hb2 : Below w.heap.size We (We.setCell ⟨w.heap.size + 1, j, none⟩ u) := o.below (by have := h.res.lt; omega) (fun q hq e => by omega)
    exact (h.only.and_below hb1).and_below hb2
  · have hbx := h.box.lt
    show We.heap[w.heap.size + 1]? = _
    rw [hbl _ hbx (fun hm => by have := hA _ hm; omega)]
    exact h.box
theorem nd_new {X Y Z : List Nat} {n : Nat} {Y' : List Nat} (h : (X ++ (Y ++ Z)).Nodup) (hlt : ∀ b ∈ X ++ (Y ++ Z), b < n) (hy : Y'.Nodup) (hY : ∀ b ∈ Y', b ∈ Y ∨ n ≤ b) : (X ++ (Y' ++ Z)).Nodup := by
  have := nd_mid (A := X) (B := []) (C := []) (K := Y) (D := Z) (by simpa using h) hy (n := n) (by simpa using hlt) (fun b hb => hY b hb)
  simpa using this
/-- A key more. -/
theorem KI.push_key {We : World} {A' : Option Addr} {c' : Nat} {k : ByteArray} (h : KI w rb s kind a left ks done kA kc cA cc wr) (hrb : rb < w.heap.size) (hk : k.size ≤ 20)
    (ho : We.ownsRow 0 9 1 (.slice A' (ks.length + 1) c') (ks.length + 1) (ks.map Value.string ++ [.string k])) (hg : wr.grownBy We (Value.slice kA ks.length kc).ownBlock) (hA : A' = kA ∨ A' = some ⟨wr.heap.size, 0, none⟩) :
    KI w rb s kind a left (ks ++ [k]) done A' c' cA cc (We.setCell ⟨w.heap.size + 1, 5, none⟩ (.slice A' (ks.length + 1) c')) := by
  obtain ⟨g1, g2, g3, g4, g5⟩ := h.kept (u := .slice A' (ks.length + 1) c') (j := 5) hrb (fun b hb => h.low b (List.mem_append_left _ hb)) hg
  have hl : (ks ++ [k]).length = ks.length + 1 := by simp
  have hap := fun {b : Nat} (hb : b ∈ blkOf cA ++ PT.ownL done) => fun (hm : b ∈ blkOf kA) => (List.nodup_append.1 h.nd).2.2 b hm b hb rfl
  have hw : ∀ b, b ∈ blkOf cA ++ PT.ownL done → (We.setCell ⟨w.heap.size + 1, 5, none⟩ (.slice A' (ks.length + 1) c')).heap[b]? = wr.heap[b]? := fun b hb => g1 b (h.lt b (List.mem_append_right _ hb)) (hap hb) (by have := h.low b (List.mem_append_right _ hb); omega)
  have hbn := blkOf_new hA
  have hsz : wr.heap.size ≤ We.heap.size := hg.size
  have hrl := h.res.lt
  have hbl := h.box.lt
  refine ⟨?_, ?_, ?_, ?_, ?_, ?_, ?_, ?_, g2, ?_⟩
  · exact (g1 rb (by omega) (fun hm => by have := h.low rb (List.mem_append_left _ hm); omega) (by omega)).trans h.rd
  · exact (g1 _ hrl (fun hm => by have := h.low _ (List.mem_append_left _ hm); omega) (by omega)).trans h.res
  · rw [hl]
    exact g4.set_ 5 _
  · rw [hl, List.map_append]
    refine own_keep ho fun b hb hlt => g3 b ?_
    rcases hbn b hb with hb | hb
    · have := h.low b (List.mem_append_left _ hb); omega
    · omega
  · exact own_keep h.kids fun b hb hlt => hw b (List.mem_append_left _ hb)
  · exact fun D hD => (h.own D hD).keep fun b hb hlt => hw b (List.mem_append_right _ (PT.ownL_mem hD hb))
  · have := nd_new (X := []) (Y := blkOf kA) (Z := blkOf cA ++ PT.ownL done) (n := wr.heap.size) (Y' := blkOf A') (by simpa using h.nd) (by simpa using h.lt) (blkOf_nodup _) (fun b hb => (hbn b hb).imp id (fun e => by omega))
    simpa using this
  · intro b hb
    rcases List.mem_append.1 hb with hb | hb
    · rcases hbn b hb with hb | hb
      · exact h.low b (List.mem_append_left _ hb)
      · omega
    · exact h.low b (List.mem_append_right _ hb)
  · intro x hx
    rcases List.mem_append.1 hx with hx | hx
    · exact h.each x hx
    · rw [List.mem_singleton] at hx; subst hx; exact hk
/-- A kid more. -/
theorem KI.push_kid {We : World} {A' : Option Addr} {c' n0 : Nat} {T : PT} (h : KI w rb s kind a left ks done kA kc cA cc wr) (hrb : rb < w.heap.size) (hT : OwnJ 9 29 wr T) (hnd : T.own.Nodup) (hlow : ∀ b ∈ T.own, n0 ≤ b) (hn0 : ∀ b ∈ blkOf kA ++ (blkOf cA ++ PT.ownL done), b < n0) (hn1 : w.heap.size + 2 ≤ n0)
    (ho : We.ownsRow 0 29 7 (.slice A' (done.length + 1) c') (done.length + 1) (PT.cellsL done ++ T.cells)) (hg : wr.grownBy We (Value.slice cA done.length cc).ownBlock) (hA : A' = cA ∨ A' = some ⟨wr.heap.size, 0, none⟩) :
    KI w rb s kind a left ks (done ++ [T]) kA kc A' c' (We.setCell ⟨w.heap.size + 1, 6, none⟩ (.slice A' (done.length + 1) c')) := by
  have hlc : ∀ b ∈ blkOf cA, w.heap.size + 2 ≤ b := fun b hb => h.low b (List.mem_append_right _ (List.mem_append_left _ hb))
  obtain ⟨g1, g2, g3, g4, g5⟩ := h.kept (u := .slice A' (done.length + 1) c') (j := 6) hrb hlc hg
  have hl : (done ++ [T]).length = done.length + 1 := by simp
  have hcl : PT.cellsL (done ++ [T]) = PT.cellsL done ++ T.cells := by rw [PT.cellsL_append]; simp [PT.cellsL]
  have hol : PT.ownL (done ++ [T]) = PT.ownL done ++ T.own := by rw [PT.ownL_append]; simp [PT.ownL]
  have hsz : wr.heap.size ≤ We.heap.size := hg.size
  have hrl := h.res.lt
  have hbl := h.box.lt
  have hbn := blkOf_new hA
  have hTlt := hT.lt
  have hnd0 := h.nd
  have hkc : ∀ b ∈ blkOf kA, b ∉ blkOf cA := fun b hb hm => (List.nodup_append.1 hnd0).2.2 b hb b (List.mem_append_left _ hm) rfl
  have hdc : ∀ b ∈ PT.ownL done, b ∉ blkOf cA := fun b hb hm => (List.nodup_append.1 (List.nodup_append.1 hnd0).2.1).2.2 b hm b hb rfl
  refine ⟨?_, ?_, ?_, ?_, ?_, ?_, ?_, ?_, g2, h.each⟩
  · exact (g1 rb (by omega) (fun hm => by have := hlc rb hm; omega) (by omega)).trans h.rd
  · exact (g1 _ hrl (fun hm => by have := hlc _ hm; omega) (by omega)).trans h.res
  · rw [hl]
    exact g4.set_ 6 _
  · exact own_keep h.keys fun b hb hlt => g1 b hlt (hkc b hb) (by have := h.low b (List.mem_append_left _ hb); omega)
  · rw [hl, hcl]
    refine own_keep ho fun b hb hlt => g3 b ?_
    rcases hbn b hb with hb | hb
    · have := hlc b hb; omega
    · omega
  · intro D hD
    rcases List.mem_append.1 hD with hD | hD
    · refine (h.own D hD).keep fun b hb hlt => g1 b hlt (hdc b (PT.ownL_mem hD hb)) ?_
      have := h.low b (List.mem_append_right _ (List.mem_append_right _ (PT.ownL_mem hD hb))); omega
    · rw [List.mem_singleton] at hD
      subst hD
      refine hT.keep fun b hb hlt => g1 b hlt ?_ ?_
      · intro hm
        have := hn0 b (List.mem_append_right _ (List.mem_append_left _ hm))
        have := hlow b hb
        omega
      · have := hlow b hb; omega
  · rw [hol]
    have h1 := nd_new (X := blkOf kA) (Y := blkOf cA) (Z := PT.ownL done) (n := wr.heap.size) (Y' := blkOf A') hnd0 h.lt (blkOf_nodup _) (fun b hb => (hbn b hb).imp id (fun e => by omega))
    rw [← List.append_assoc, ← List.append_assoc, List.append_assoc (blkOf kA), List.nodup_append]
    refine ⟨h1, hnd, ?_⟩
    intro x hx y hy e
    subst e
    have hy1 := hlow x hy
    have hy2 := hTlt x hy
    rcases List.mem_append.1 hx with hx | hx
    · have := hn0 x (List.mem_append_left _ hx); omega
    · rcases List.mem_append.1 hx with hx | hx
      · rcases hbn x hx with hx | hx
        · have := hn0 x (List.mem_append_right _ (List.mem_append_left _ hx)); omega
        · omega
      · have := hn0 x (List.mem_append_right _ (List.mem_append_right _ hx)); omega
  · intro b hb
    rw [hol] at hb
    simp only [List.mem_append] at hb
    rcases hb with hb | hb | hb | hb
    · exact h.low b (by simp only [List.mem_append]; exact .inl hb)
    · rcases hbn b hb with hb | hb
      · exact hlc b hb
      · omega
    · exact h.low b (by simp only [List.mem_append]; exact .inr (.inr hb))
    · have := hlow b hb; omega
end
end Go.Proofs.YtpeckpiidgkgoaaGreatDoor
/- reader.want decided; vR; the measure of the kids' loop. -/
namespace Go.Proofs.YtpeckpiidgkgoaaGreatDoor
open Go.RowKit
set_option linter.unusedVariables false
set_option linter.unusedSimpArgs false

theorem want_yes (w : World) (rb : Nat) (s : ByteArray) (hs : s.size ≤ 60000) (at_ : Nat) (hat : at_ ≤ s.size) (left : Int) (c : Nat) (hc : c < 256) (h : Rd w rb s at_ left) (hy : (toN s)[at_]? = some c) :
    Calls Tryz.prog 43 #[.pointer (some ⟨rb, 0, none⟩), .int .u8 c] w fun e w' => e = .returned (.tuple #[]) ∧ Rd w' rb s (at_ + 1) left ∧ Only (fun k => k = rb) w w' := by
  refine (want_any w rb s hs at_ hat left c hc h).mono ?_
  rintro e w' ⟨⟨_, rfl, hr⟩ | ⟨hn, _⟩, ho⟩
  · exact ⟨rfl, hr, ho⟩
  · exact absurd hy hn
theorem want_no (w : World) (rb : Nat) (s : ByteArray) (hs : s.size ≤ 60000) (at_ : Nat) (hat : at_ ≤ s.size) (left : Int) (c : Nat) (hc : c < 256) (h : Rd w rb s at_ left) (hn : (toN s)[at_]? ≠ some c) :
    Calls Tryz.prog 43 #[.pointer (some ⟨rb, 0, none⟩), .int .u8 c] w fun e w' => e = .panicked [{ v := .iface 45 (.agg #[.int .i64 at_, .iface 43 (.int .i64 2)]), recovered := false }] ∧ Only (fun k => k = rb) w w' := by
  refine (want_any w rb s hs at_ hat left c hc h).mono ?_
  rintro e w' ⟨⟨hy, _⟩ | ⟨_, h⟩, ho⟩
  · exact absurd hy hn
  · exact ⟨h, ho⟩
/-- One kid, and what stands behind it. -/
def vR (s : List Nat) (q : Nat) (kind : Int) (endc a l : Nat) (ks : List ByteArray) (kids : List JT) : PR := match pT Num s q a l with
  | .bad x e => .bad x e
  | .ok t a2 l2 => if s[a2]? = some 44 then pK Num s q kind endc (a2 + 1) l2 ks (kids ++ [t]) else if s[a2]? = some endc then .ok (.node (kindV kind) ks (kids ++ [t])) (a2 + 1) l2 else .bad a2 2
theorem vR_bad {s : List Nat} {q : Nat} {kind : Int} {endc a l : Nat} {ks : List ByteArray} {kids : List JT} {x : Nat} {e : Int} (h : pT Num s q a l = .bad x e) : vR s q kind endc a l ks kids = .bad x e := by unfold vR; rw [h]
theorem vR_ok {s : List Nat} {q : Nat} {kind : Int} {endc a l : Nat} {ks : List ByteArray} {kids : List JT} {t : JT} {a2 l2 : Nat} (h : pT Num s q a l = .ok t a2 l2) : vR s q kind endc a l ks kids = if s[a2]? = some 44 then pK Num s q kind endc (a2 + 1) l2 ks (kids ++ [t]) else if s[a2]? = some endc then .ok (.node (kindV kind) ks (kids ++ [t])) (a2 + 1) l2 else .bad a2 2 := by unfold vR; rw [h]
theorem pK6 (s : List Nat) (q : Nat) (kind : Int) (endc a l : Nat) (ks : List ByteArray) (kids : List JT) (hk : kind ≠ 5) : pK Num s (q + 2) kind endc a l ks kids = vR s q kind endc a l ks kids := by
  rw [pK, if_neg hk, pV]
  rfl
theorem pK5_none (s : List Nat) (q : Nat) (endc a l : Nat) (ks : List ByteArray) (kids : List JT) (h : txtF 20 (s.drop a) = none) : pK Num s (q + 2) 5 endc a l ks kids = .bad a 2 := by
  rw [pK, if_pos rfl, h]
theorem pK5_some (s : List Nat) (q : Nat) (endc a l : Nat) (ks : List ByteArray) (kids : List JT) {k : ByteArray} {n : Nat} (h : txtF 20 (s.drop a) = some (k, n)) : pK Num s (q + 2) 5 endc a l ks kids = if keyAfter ks k = false then .bad a 2 else if s[a + n]? = some 58 then vR s q 5 endc (a + n + 1) l (ks ++ [k]) kids else .bad (a + n) 2 := by
  rw [pK, if_pos rfl, h]
  simp only [pV]
  rfl
def leftOf (rb : Nat) (w : World) : Nat := (intOf ((w.cell? ⟨rb, 2, none⟩).getD undef)).toNat
theorem leftOf_eq {w : World} {rb : Nat} {s : ByteArray} {a l : Nat} (h : Rd w rb s a l) : leftOf rb w = l := by
  unfold leftOf
  rw [h.cells.2.2.1]
  simp [intOf]
theorem kind_fit {k : Int} (h : k = 5 ∨ k = 6) : (kindV k).Fit := by
  rcases h with rfl | rfl
  · exact ⟨(show I64 5 by unfold I64; decide), (show I64 0 by unfold I64; decide), Nat.zero_le _, (show I64 0 by unfold I64; decide), (show I64 0 by unfold I64; decide)⟩
  · exact ⟨(show I64 6 by unfold I64; decide), (show I64 0 by unfold I64; decide), Nat.zero_le _, (show I64 0 by unfold I64; decide), (show I64 0 by unfold I64; decide)⟩
theorem KI.ts {w wr : World} {rb : Nat} {s : ByteArray} {kind : Int} {a left : Nat} {ks : List ByteArray} {done : List PT} {kA : Option Addr} {kc : Nat} {cA : Option Addr} {cc : Nat} (h : KI w rb s kind a left ks done kA kc cA cc wr) : TS w rb s a left wr := ⟨h.rd, h.res, h.only⟩
theorem one_ptK (T : PT) : ∀ u ∈ T.cells, u.oneCell' = true := by
  intro u hu
  simp only [PT.cells, JV.cells, List.mem_append, List.mem_cons, List.not_mem_nil, or_false] at hu
  rcases hu with (rfl | rfl | rfl | rfl | rfl) | rfl | rfl <;> rfl
theorem last_at {l : List ByteArray} {x : ByteArray} (h : l.getLast? = some x) : ∃ m, l.length = m + 1 ∧ l[m]? = some x := by
  rw [List.getLast?_eq_getElem?] at h
  have := (List.getElem?_eq_some_iff.1 h).1
  exact ⟨l.length - 1, by omega, h⟩
theorem own_some {w : World} {e : TypeId} {sz n c : Nat} {A : Option Addr} {xs : List Value} (h : w.ownsRow 0 e sz (.slice A n c) n xs) (hn : 0 < n) : ∃ g, A = some ⟨g, 0, none⟩ := by
  rcases h.2 with ⟨_, h0⟩ | ⟨g, cap, cur, hv, _⟩
  · omega
  · injection hv with hA _ _
    exact ⟨g, hA⟩
/-- What tree does, with so many left. -/
def TreeC (W0 : World) (rb : Nat) (s : ByteArray) (l : Nat) : Prop := ∀ (f pos : Nat) (w : World), 3 * l + 1 ≤ f → pos ≤ s.size → Cx W0 rb w → Rd w rb s pos l → Calls Tryz.prog 10 #[.pointer (some ⟨rb, 0, none⟩)] w (TreeQ rb s (pT Num (toN s) f pos l) w)
end Go.Proofs.YtpeckpiidgkgoaaGreatDoor
