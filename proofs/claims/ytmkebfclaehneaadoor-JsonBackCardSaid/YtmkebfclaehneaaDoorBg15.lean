/- Form, FormMap. -/
import Derived.Test.YtmkebfclaehneaaDoorBg13
import Derived.Test.YtmkebfclaehneaaDoorBg14
import Derived.Laws.Cover1
import Derived.Test.YtmkebfclaehneaaDoorBg8
import Derived.Test.YtmkebfclaehneaaDoorBg4
/- json.form: the contract. -/
namespace Go.Proofs.YtmkebfclaehneaaDoor
open Go.RowKit
set_option linter.unusedVariables false
set_option linter.unusedSimpArgs false

/-- This boolean, and nothing that was there has turned. -/
def BoolIs (w : World) (b : Bool) (e : Ending) (w' : World) : Prop := e = .returned (.bool b) ∧ Below w.heap.size w w'

set_option maxRecDepth 100000 in
set_option maxHeartbeats 2000000 in
theorem form1_any (T : PT) (b : Bool) (w : World)
    (h : ∀ w1, Below w.heap.size w w1 → Calls Tryd.prog 15 #[T.value] w1 (BoolIs w1 b)) :
    Calls Tryd.prog 35 #[T.value] w (BoolIs w (!b)) := by
  have H := Lib.hid h
  clear h
  unfold PT.value PT.cells JV.cells
  go_enter Tryd.func35, Tryd.ntmps35
  go_wp2_with fail
  have hb0 : Below w.heap.size w (w.alloc (.cells T.cells.toArray 29)) := (Below.refl _ _).alloc (Nat.le_refl _) _
  refine (H.out _ hb0).mono ?_
  rintro e w1 ⟨rfl, hb1⟩
  go_wp2_with fail
  go_ret
  exact ⟨rfl, hb0.trans (hb1.mono (by simp))⟩

set_option maxRecDepth 100000 in
set_option maxHeartbeats 2000000 in
/-- No value that a tree may have. -/
theorem form_head (T : PT) (w : World) (h : T.val.head = false) : Calls Tryd.prog 15 #[T.value] w (BoolIs w false) := by
  obtain ⟨⟨k, n, s, o, p⟩, kA, kc, keys, cA, cc, kids⟩ := T
  have hck := valueCheck_any ⟨k, n, s, o, p⟩
  simp only [PT.val, JV.head] at h
  unfold PT.value PT.cells JV.cells
  simp only [PT.val, PT.keys, PT.kids, PT.kA, PT.kc, PT.cA, PT.cc]
  simp only [JV.cells] at hck
  cases hr : (JV.ok ⟨k, n, s, o, p⟩) with
  | false =>
    rw [hr] at hck
    have HC := Lib.hid hck
    clear hck h hr
    go_enter Tryd.func15, Tryd.ntmps15
    go_wp2_with (go_at_call 32; refine (HC.out _).mono ?_; rintro e w' ⟨rfl, hb'⟩; rw [errIf_false]; obtain ⟨hc1, hc2⟩ := bcell hb')
    go_ret
    exact ⟨rfl, ((Below.refl _ _).alloc (Nat.le_refl _) _ |>.alloc (by simp) _).trans (hb'.mono (by simp; omega))⟩
  | true =>
    rw [hr] at hck h
    have HC := Lib.hid hck
    clear hck hr
    by_cases h4 : k = 4
    · subst h4
      clear h
      go_enter Tryd.func15, Tryd.ntmps15
      go_wp2_with (go_at_call 32; refine (HC.out _).mono ?_; rintro e w' ⟨rfl, hb'⟩; rw [errIf_true]; obtain ⟨hc1, hc2⟩ := bcell hb')
      go_ret
      exact ⟨rfl, ((Below.refl _ _).alloc (Nat.le_refl _) _ |>.alloc (by simp) _).trans (hb'.mono (by simp; omega))⟩
    · have h4b : (k == 4) = false := by simpa using h4
      by_cases ho : o = 0
      · subst ho
        have hp : (p == 0) = false := by
          cases hp : (p == 0) with
          | false => rfl
          | true => simp [hp, h4] at h
        clear h
        go_enter Tryd.func15, Tryd.ntmps15
        go_wp2_with (go_at_call 32; refine (HC.out _).mono ?_; rintro e w' ⟨rfl, hb'⟩; rw [errIf_true]; obtain ⟨hc1, hc2⟩ := bcell hb')
        go_ret
        exact ⟨rfl, ((Below.refl _ _).alloc (Nat.le_refl _) _ |>.alloc (by simp) _).trans (hb'.mono (by simp; omega))⟩
      · have ho2 : (o == 0) = false := by simpa using ho
        clear h
        go_enter Tryd.func15, Tryd.ntmps15
        go_wp2_with (go_at_call 32; refine (HC.out _).mono ?_; rintro e w' ⟨rfl, hb'⟩; rw [errIf_true]; obtain ⟨hc1, hc2⟩ := bcell hb')
        go_ret
        exact ⟨rfl, ((Below.refl _ _).alloc (Nat.le_refl _) _ |>.alloc (by simp) _).trans (hb'.mono (by simp; omega))⟩
end Go.Proofs.YtmkebfclaehneaaDoor
/- json.form at maps, lists and plain values; and altogether. -/
namespace Go.Proofs.YtmkebfclaehneaaDoor
open Go.RowKit
set_option linter.unusedVariables false
set_option linter.unusedSimpArgs false

theorem below_al2 {w w' : World} {o1 o2 : Obj} (h : Below ((w.alloc o1).alloc o2).heap.size ((w.alloc o1).alloc o2) w') : Below w.heap.size w w' :=
  ((Below.refl _ _).alloc (Nat.le_refl _) _ |>.alloc (by simp) _).trans (h.mono (by simp; omega))
theorem blk_al2 {w w' : World} {cs : Array Value} {t : TypeId} {o2 : Obj} (h : Below ((w.alloc (.cells cs t (0, 0))).alloc o2).heap.size ((w.alloc (.cells cs t (0, 0))).alloc o2) w') : Blk w' w.heap.size t cs :=
  ((Blk.new w t cs).alloc o2).below h (by simp; omega)
theorem head_parts {v : JV} (h : v.head = true) : v.ok = true ∧ v.k ≠ 4 ∧ v.o = 0 ∧ v.p = 0 := by
  unfold JV.head at h
  simp at h
  exact ⟨h.1.1, h.1.2, h.2.1, h.2.2⟩

/-- The last step: whether a kid is none. -/
def KidsIs (w : World) (b : Bool) (e : Ending) (w' : World) : Prop := e = .returned (.bool (!b)) ∧ Below w.heap.size w w'
set_option maxRecDepth 100000 in
set_option maxHeartbeats 2000000 in
theorem kids_form (W0 : World) (kids : List PT) (cA : Option Addr) (cc : Nat) (w : World) (hb : Below W0.heap.size W0 w) (hl : kids.length ≤ maxLen) (hA : SlAt W0 cA (PT.cellsL kids))
    (ih : ∀ k ∈ kids, ∀ w1, Below W0.heap.size W0 w1 → Calls Tryd.prog 15 #[k.value] w1 (BoolIs w1 k.tree.formed)) :
    Calls Tryd.prog 34 #[.slice cA kids.length cc, (.func (.func 35) #[] #[])] w (KidsIs w (JT.formedL (kids.map PT.tree))) := by
  refine (any_form (fun i w2 => Below w.heap.size w w2 ∧ ∀ j k, j < i → kids[j]? = some k → k.tree.formed = true) (fun w2 => Below w.heap.size w w2 ∧ JT.formedL (kids.map PT.tree) = false) kids cA cc w hl ⟨Below.refl _ _, fun j k hj => absurd hj (Nat.not_lt_zero _)⟩ ?_ ?_).mono ?_
  · rintro i w2 ⟨h1, _⟩
    exact hA.below (hb.trans (h1.mono hb.size))
  · rintro i k w2 hk ⟨h1, h2⟩
    have hm := List.mem_of_getElem? hk
    have hb2 := hb.trans (h1.mono hb.size)
    refine (form1_any k k.tree.formed w2 (fun w3 h3 => ih k hm w3 (hb2.trans (h3.mono hb2.size)))).mono ?_
    rintro e w3 ⟨rfl, h3⟩
    have hb3 : Below w.heap.size w w3 := h1.trans (h3.mono h1.size)
    have hkm : (kids.map PT.tree)[i]? = some k.tree := by rw [List.getElem?_map, hk]; rfl
    cases hf : k.tree.formed with
    | false => exact .inl ⟨rfl, hb3, JT.formedL_false hkm hf⟩
    | true =>
      refine .inr ⟨rfl, hb3, fun j x hj hx => ?_⟩
      rcases Nat.lt_succ_iff_lt_or_eq.1 hj with g | rfl
      · exact h2 j x g hx
      · rw [hk] at hx; injection hx with hx; subst hx; exact hf
  · rintro e w2 (⟨rfl, h1, h2⟩ | ⟨rfl, h1, h2⟩)
    · exact ⟨by rw [h2]; rfl, h1⟩
    · refine ⟨?_, h1⟩
      rw [(JT.formedL_iff _).2 ?_]
      · rfl
      · intro x hx
        obtain ⟨k, hk, rfl⟩ := List.mem_map.1 hx
        obtain ⟨j, hj⟩ := List.mem_iff_getElem?.1 hk
        exact h2 j k (List.getElem?_eq_some_iff.1 hj).1 hj

/-- The last statement of form, over the kids. -/
def HeadFacts (T : PT) : Prop := T.val.head = true

set_option maxRecDepth 100000 in
set_option maxHeartbeats 2000000 in
/-- Lists. -/
theorem form_list (v : JV) (kA : Option Addr) (kc : Nat) (keys : List ByteArray) (cA : Option Addr) (cc : Nat) (kids : List PT) (W0 w : World) (hT : InJ W0 (.node v kA kc keys cA cc kids)) (hb : Below W0.heap.size W0 w) (hd : v.head = true) (hk : v.k = 6)
    (ih : ∀ k ∈ kids, ∀ w1, Below W0.heap.size W0 w1 → Calls Tryd.prog 15 #[k.value] w1 (BoolIs w1 k.tree.formed)) :
    Calls Tryd.prog 15 #[(PT.node v kA kc keys cA cc kids).value] w (BoolIs w (PT.node v kA kc keys cA cc kids).tree.formed) := by
  obtain ⟨ok, _, ho, hp⟩ := head_parts hd
  have hff : (PT.node v kA kc keys cA cc kids).tree.formed = ((keys.length == 0) && JT.formedL (kids.map PT.tree)) := by
    rw [show (PT.node v kA kc keys cA cc kids).tree = .node v keys (kids.map PT.tree) from PT.tree_eq _, JT.formed_eq, JT.top_node, hd, if_neg (by omega), if_pos hk]
    simp [JT.kids]
  have hck := valueCheck_any v
  rw [ok] at hck
  obtain ⟨k, n, s, o, p⟩ := v
  simp only at hk ho hp
  subst hk ho hp
  unfold PT.value PT.cells JV.cells
  simp only [PT.val, PT.keys, PT.kids, PT.kA, PT.kc, PT.cA, PT.cc]
  simp only [JV.cells] at hck
  have HC := Lib.hid hck
  have HF := Lib.hid hff
  have hsl := hT.slot
  have HK := Lib.hid (fun w1 (hw : Below W0.heap.size W0 w1) => kids_form W0 kids cA cc w1 hw hsl.clen hsl.kids ih)
  have HB := Lib.hid hb
  clear hck hff ok hd hT hsl ih hb
  by_cases h0 : keys.length = 0
  · have h0b : (keys.length == 0) = true := by simpa using h0
    have d0 : decide ((0 : Int) < (keys.length : Int)) = false := by rw [h0]; rfl
    have HF2 := Lib.hid (show (PT.node ⟨6, n, s, 0, 0⟩ kA kc keys cA cc kids).tree.formed = JT.formedL (kids.map PT.tree) from by rw [HF.out, h0b]; rfl)
    rw [HF2.out]
    clear HF
    go_enter Tryd.func15, Tryd.ntmps15
    go_wp2_with (go_at_call 32; refine (HC.out _).mono ?_; rintro e w' ⟨rfl, hb'⟩; rw [errIf_true]; obtain ⟨hc1, hc2⟩ := bcell hb')
    have hb2 := below_al2 hb'
    have HB2 := Lib.hid hb2
    refine (HK.out _ (HB.out.trans (hb2.mono HB.out.size))).mono ?_
    clear hc1 hc2 hb' hb2
    rintro e w2 ⟨rfl, hb3⟩
    have hb4 := HB2.out.trans (hb3.mono HB2.out.size)
    clear hb3
    go_wp2_with fail
    go_ret
    exact ⟨by simp, hb4⟩
  · have h0b : (keys.length == 0) = false := by simpa using h0
    have d0 : decide ((0 : Int) < (keys.length : Int)) = true := by simp; omega
    have HF2 := Lib.hid (show (PT.node ⟨6, n, s, 0, 0⟩ kA kc keys cA cc kids).tree.formed = false from by rw [HF.out, h0b]; rfl)
    rw [HF2.out]
    clear HF
    go_enter Tryd.func15, Tryd.ntmps15
    go_wp2_with (go_at_call 32; refine (HC.out _).mono ?_; rintro e w' ⟨rfl, hb'⟩; rw [errIf_true]; obtain ⟨hc1, hc2⟩ := bcell hb')
    go_ret
    exact ⟨rfl, below_al2 hb'⟩

def prevKey (l : List ByteArray) (k : Nat) : Option ByteArray := if k = 0 then none else l[k - 1]?
theorem keysFrom_at {l : List ByteArray} {k : Nat} {x : ByteArray} (h : l[k]? = some x) {o : Option ByteArray} : keysFrom o (l.drop k) = (keyOk x && (match o with | none => true | some y => bl y x) && keysFrom (some x) (l.drop (k + 1))) := by
  obtain ⟨hl, rfl⟩ := List.getElem?_eq_some_iff.1 h
  rw [List.drop_eq_getElem_cons hl]; cases o <;> rfl

set_option maxRecDepth 100000 in
set_option maxHeartbeats 2000000 in
/-- Maps. -/
theorem form_map (v : JV) (kA : Option Addr) (kc : Nat) (keys : List ByteArray) (cA : Option Addr) (cc : Nat) (kids : List PT) (W0 w : World) (hT : InJ W0 (.node v kA kc keys cA cc kids)) (hb : Below W0.heap.size W0 w) (hd : v.head = true) (hk : v.k = 5)
    (ih : ∀ k ∈ kids, ∀ w1, Below W0.heap.size W0 w1 → Calls Tryd.prog 15 #[k.value] w1 (BoolIs w1 k.tree.formed)) :
    Calls Tryd.prog 15 #[(PT.node v kA kc keys cA cc kids).value] w (BoolIs w (PT.node v kA kc keys cA cc kids).tree.formed) := by
  obtain ⟨ok, _, ho, hp⟩ := head_parts hd
  have hff : (PT.node v kA kc keys cA cc kids).tree.formed = (((keys.length == kids.length) && keysOk keys) && JT.formedL (kids.map PT.tree)) := by
    rw [show (PT.node v kA kc keys cA cc kids).tree = .node v keys (kids.map PT.tree) from PT.tree_eq _, JT.formed_eq, JT.top_node, hd, if_pos hk]
    simp [JT.kids]
  have hck := valueCheck_any v
  rw [ok] at hck
  obtain ⟨k, n, s, o, p⟩ := v
  simp only at hk ho hp
  subst hk ho hp
  unfold PT.value PT.cells JV.cells
  simp only [PT.val, PT.keys, PT.kids, PT.kA, PT.kc, PT.cA, PT.cc]
  simp only [JV.cells] at hck
  have HC := Lib.hid hck
  have HF := Lib.hid hff
  have hsl := hT.slot
  have HK := Lib.hid (fun w1 (hw : Below W0.heap.size W0 w1) => kids_form W0 kids cA cc w1 hw hsl.clen hsl.kids ih)
  have HB := Lib.hid hb
  have HL := Lib.hid hsl.clen
  have hks : SlAt w kA (keys.map Value.string) := hsl.keys.below hb
  clear hck hff ok hd hT hsl ih hb
  by_cases h0 : keys.length = kids.length
  · have h0b : (keys.length == kids.length) = true := by simpa using h0
    have d0 : decide ((keys.length : Int) = (kids.length : Int)) = true := by simp; omega
    go_enter Tryd.func15, Tryd.ntmps15
    go_wp2_with (go_at_call 32; refine (HC.out _).mono ?_; rintro e w' ⟨rfl, hb'⟩; rw [errIf_true]; obtain ⟨hc1, hc2⟩ := bcell hb')
    have HB2 := Lib.hid (below_al2 hb')
    have hks2 := hks.below HB2.out
    have HBK := Lib.hid (blk_al2 hb')
    have hkl : kids.length ≤ 9223372036854775807 := Nat.le_trans HL.out (by decide)
    have HE := Lib.hid h0
    clear hc1 hc2 hb' hks h0 h0b d0
    go_loop [44] (fun iv => ∃ k : Nat, iv = .int .i64 k ∧ k ≤ kids.length ∧ keysFrom (prevKey keys k) (keys.drop k) = keysOk keys) (fun iv => kids.length - (intOf iv).toNat)
    case atStart => exact ⟨0, rfl, by omega, rfl⟩
    case round =>
      obtain ⟨k, rfl, hk, hf⟩ := hrel
      have hB5 : w'.cell? ⟨w.heap.size, 5, none⟩ = some (.slice kA kids.length kc) := HBK.out.cell 5
      have hB6 : w'.cell? ⟨w.heap.size, 6, none⟩ = some (.slice cA kids.length cc) := HBK.out.cell 6
      by_cases hlt : k < kids.length
      · have hltk : k < keys.length := by rw [HE.out]; exact hlt
        obtain ⟨x, hx⟩ : ∃ x, keys[k]? = some x := ⟨_, List.getElem?_eq_getElem hltk⟩
        obtain ⟨b, off, rfl, hcx⟩ := hks2.at_ (j := k) (u := .string x) (by simp [hx])
        rw [keysFrom_at hx] at hf
        have hlti : (k : Int) < (kids.length : Int) := by omega
        cases hko : keyOk x with
        | false =>
          rw [hko] at hf
          have HFF := Lib.hid (show (PT.node ⟨5, n, s, 0, 0⟩ (some ⟨b, off, none⟩) kc keys cA cc kids).tree.formed = false from by rw [HF.out, ← hf]; simp)
          have HKO := Lib.hid hko
          have HX := Lib.hid hx
          rw [HFF.out]
          clear hf hko hx
          go_wp2_with (go_at_call 33; refine (key_any _ _).mono ?_; rintro e w' ⟨rfl, rfl⟩; rw [HKO.out])
          go_ret
          exact ⟨rfl, HB2.out⟩
        | true =>
          rw [hko] at hf
          have HKO := Lib.hid hko
          cases k with
          | zero =>
            have HFF := Lib.hid (show keysFrom (prevKey keys (0 + 1)) (keys.drop (0 + 1)) = keysOk keys from by rw [← hf]; simp [prevKey, hx])
            have HX := Lib.hid hx
            simp only [Nat.add_zero] at hcx
            have hlti0 : (0 : Int) < (kids.length : Int) := by omega
            clear hf hko hx hlti
            go_wp2_with (go_at_call 33; refine (key_any _ _).mono ?_; rintro e w' ⟨rfl, rfl⟩; rw [HKO.out])
            go_round
            case rel => exact ⟨0 + 1, by go_num, by omega, HFF.out⟩
            case measure => simp [intOf] <;> omega
          | succ k' =>
            obtain ⟨y, hy⟩ : ∃ y, keys[k']? = some y := ⟨_, List.getElem?_eq_getElem (by omega)⟩
            obtain ⟨b2, off2, hA2, hcy⟩ := hks2.at_ (j := k') (u := .string y) (by simp [hy])
            injection hA2 with hA2
            injection hA2 with e1 e2 _
            subst e1 e2
            have hbl : Op.bytesLess y.toList x.toList = bl y x := rfl
            have hp : prevKey keys (k' + 1) = some y := by simp [prevKey, hy]
            rw [hp] at hf
            cases hb : bl y x with
            | false =>
              simp only [hb, Bool.and_false, Bool.false_and] at hf
              have HFF := Lib.hid (show (PT.node ⟨5, n, s, 0, 0⟩ (some ⟨b, off, none⟩) kc keys cA cc kids).tree.formed = false from by rw [HF.out, ← hf]; simp)
              rw [hb] at hbl
              have HX := Lib.hid (And.intro hx (And.intro hy hp))
              rw [HFF.out]
              clear hf hko hx hy hp hb
              go_wp2_with (go_at_call 33; refine (key_any _ _).mono ?_; rintro e w' ⟨rfl, rfl⟩; rw [HKO.out])
              go_ret
              exact ⟨rfl, HB2.out⟩
            | true =>
              have HFF := Lib.hid (show keysFrom (prevKey keys (k' + 1 + 1)) (keys.drop (k' + 1 + 1)) = keysOk keys from by rw [← hf]; simp [prevKey, hx, hb])
              rw [hb] at hbl
              have HX := Lib.hid (And.intro hx (And.intro hy hp))
              clear hf hko hx hy hp hb
              go_wp2_with (go_at_call 33; refine (key_any _ _).mono ?_; rintro e w' ⟨rfl, rfl⟩; rw [HKO.out])
              go_round
              case rel => exact ⟨k' + 1 + 1, by go_num, by omega, HFF.out⟩
              case measure => simp [intOf] <;> omega
      · have hlti : (kids.length : Int) ≤ (k : Int) := by omega
        have hko : keysOk keys = true := by rw [← hf, List.drop_eq_nil_of_le (by rw [HE.out]; omega)]; rfl
        have HFF := Lib.hid (show (PT.node ⟨5, n, s, 0, 0⟩ kA kc keys cA cc kids).tree.formed = JT.formedL (kids.map PT.tree) from by rw [HF.out, hko, HE.out]; simp)
        rw [HFF.out]
        clear hf hko
        go_wp2_with fail
        refine (HK.out _ (HB.out.trans (HB2.out.mono HB.out.size))).mono ?_
        rintro e w2 ⟨rfl, hb3⟩
        have hb4 := HB2.out.trans (hb3.mono HB2.out.size)
        clear hb3
        go_wp2_with fail
        go_ret
        exact ⟨by rw [HFF.out]; simp, hb4⟩
  · have h0b : (keys.length == kids.length) = false := by simpa using h0
    have d0 : decide ((keys.length : Int) = (kids.length : Int)) = false := by simp; omega
    have HF2 := Lib.hid (show (PT.node ⟨5, n, s, 0, 0⟩ kA kc keys cA cc kids).tree.formed = false from by rw [HF.out, h0b]; rfl)
    rw [HF2.out]
    clear HF
    go_enter Tryd.func15, Tryd.ntmps15
    go_wp2_with (go_at_call 32; refine (HC.out _).mono ?_; rintro e w' ⟨rfl, hb'⟩; rw [errIf_true]; obtain ⟨hc1, hc2⟩ := bcell hb')
    go_ret
    exact ⟨rfl, below_al2 hb'⟩
end Go.Proofs.YtmkebfclaehneaaDoor
