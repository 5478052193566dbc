/- bookref3.Text: the contract. -/
import Derived.Test.YtfnigdbnkdofiaaDoorShow
import Derived.Test.YtfnigdbnkdofiaaDoorTextLen
import Derived.Test.YtfnigdbnkdofiaaDoorCkHead
namespace Go.Proofs.YtfnigdbnkdofiaaDoor
open Go.RowKit
set_option linter.unusedVariables false
set_option linter.unusedSimpArgs false

def StrIs (w : World) (l : List UInt8) (e : Ending) (w' : World) : Prop := e = .returned (.string ⟨l.toArray⟩) ∧ Below w.heap.size w w'
theorem bytes_append (a b : List UInt8) : (⟨a.toArray⟩ : ByteArray) ++ (⟨b.toArray⟩ : ByteArray) = ⟨(a ++ b).toArray⟩ := by
  apply ByteArray.ext
  simp [ByteArray.data_append]
theorem sadd {P : Program} (a b : List UInt8) (h : a.length + b.length ≤ 9223372036854775807) (A B C : ByteArray) (hA : A = ⟨a.toArray⟩) (hB : B = ⟨b.toArray⟩) (hC : C = ⟨(a ++ b).toArray⟩) : ∀ w, (Op.stringOp .add A B).run P w = .ok (.string C) w := by
  intro w
  subst hA hB hC
  rw [← bytes_append]
  exact run_string_add_sum w _ _ h
theorem InJ.num {w : World} {T : PT} (h : InJ w T) : T.tree.Num := by
  revert h
  refine PT.ind (P := fun T => InJ w T → T.tree.Num) ?_ T
  intro v kA kc keys cA cc kids ih h
  rw [PT.tree, PT.treeL_eq, JT.Num]
  refine ⟨h.slot.fit.n, (JT.NumL_iff _).2 fun k hk => ?_⟩
  obtain ⟨x, hx, rfl⟩ := List.mem_map.1 hk
  exact ih x hx (h.kids x hx)

theorem kid_at {w : World} {l : List PT} (b off : Nat) (h : SlAt w (some ⟨b, off, none⟩) (PT.cellsL l)) {k : Nat} {T : PT} (hk : l[k]? = some T) :
    w.cell? ⟨b, off + k * 7, none⟩ = some (.int .i64 T.val.k) ∧ w.cell? ⟨b, off + k * 7 + 1, none⟩ = some (.int .i64 T.val.n) ∧ w.cell? ⟨b, off + k * 7 + 2, none⟩ = some (.string T.val.s) ∧ w.cell? ⟨b, off + k * 7 + 3, none⟩ = some (.int .i64 T.val.o) ∧ w.cell? ⟨b, off + k * 7 + 4, none⟩ = some (.int .i64 T.val.p) ∧ w.cell? ⟨b, off + k * 7 + 5, none⟩ = some (.slice T.kA T.keys.length T.kc) ∧ w.cell? ⟨b, off + k * 7 + 6, none⟩ = some (.slice T.cA T.kids.length T.cc) := by
  obtain ⟨b', off', hA, h'⟩ := kid_cells h hk
  injection hA with hA
  injection hA with e1 e2
  subst e1 e2
  exact h'

set_option maxRecDepth 100000 in
set_option maxHeartbeats 4000000 in
theorem rtext_5 (v : JV) (kA : Option Addr) (kc : Nat) (keys : List ByteArray) (cA : Option Addr) (cc : Nat) (kids : List PT) (W0 w : World) (hT : InJ W0 (.node v kA kc keys cA cc kids)) (hb : Below W0.heap.size W0 w) (hf : (PT.node v kA kc keys cA cc kids).tree.formed = true) (hz : (PT.node v kA kc keys cA cc kids).tree.size ≤ 400) (hk : v.k = 5)
    (ih : ∀ k ∈ kids, ∀ w1, Below W0.heap.size W0 w1 → Calls Tryd.prog 8 #[k.value] w1 (StrIs w1 k.tree.text)) :
    Calls Tryd.prog 8 #[(PT.node v kA kc keys cA cc kids).value] w (StrIs w (PT.node v kA kc keys cA cc kids).tree.text) := by
  have hsl := hT.slot
  have hnum := hT.num
  rw [PT.tree, PT.treeL_eq] at hf hz hnum ⊢
  obtain ⟨htop, hkf⟩ := (JT.formed_iff _).1 hf
  obtain ⟨h5, hn5, hhd⟩ := top_keys htop
  simp only [JT.val, JT.keys, JT.kids] at h5 hn5 hhd hkf
  simp only [JT.Num] at hnum
  have hall : ∀ t ∈ kids.map PT.tree, t.text.length + 64 ≤ 250 * t.size := fun t ht => JT.text_len t (hkf t ht) ((JT.NumL_iff _).1 hnum.2 t ht)
  rw [JT.size] at hz
  have hlen : ∀ i, (JT.textL true true keys ((kids.map PT.tree).take i)).length ≤ 100000 := fun i => by
    have h1 := textL_take true true keys (kids.map PT.tree) i
    have h2 := textL_len true (kids.map PT.tree) true keys hall (fun _ => (h5 hk).2)
    omega
  have hcl : kids.length ≤ 400 := by
    have := JT.length_le_sizeL (kids.map PT.tree)
    simp at this
    omega
  have HKL := Lib.hid (show keys.length = kids.length from by have := (h5 hk).1; simpa using this)
  have hkz : ∀ s ∈ keys, s.size ≤ 20 := (h5 hk).2
  have htx : (JT.node v keys (kids.map PT.tree)).text = 123 :: (JT.textL true true keys (kids.map PT.tree) ++ [125]) := by
    rw [JT.text, if_pos hk]
  rw [htx]
  have HI := Lib.hid (fun (i : Nat) (k : PT) (h1 : kids[i]? = some k) (w1 : World) (hw : Below W0.heap.size W0 w1) => ih k (List.mem_of_getElem? h1) w1 hw)
  have HS := Lib.hid (And.intro hsl (And.intro hb hlen))
  obtain ⟨kd, n, s, o, p⟩ := v
  simp only at hk
  subst hk
  unfold PT.value PT.cells JV.cells
  simp only [PT.val, PT.keys, PT.kids, PT.kA, PT.kc, PT.cA, PT.cc]
  clear ih hsl hb hT hlen htx hall hnum hkf hf htop hhd h5 hn5 hz
  go_enter Tryd.func8, Tryd.ntmps8
  go_wp2_with fail
  refine wp_at (fun w1 => Below w.heap.size w w1 ∧ Blk w1 w.heap.size 29 #[.int .i64 5, .int .i64 n, .string s, .int .i64 o, .int .i64 p, .slice kA keys.length kc, .slice cA kids.length cc]) ⟨(Below.refl _ _).alloc (Nat.le_refl _) _, Blk.new w _ _⟩ ?_
  rintro w1 ⟨hB1, hB2⟩
  have HB := Lib.hid (And.intro hB1 (And.intro hB2 (HS.out.2.1.trans (hB1.mono HS.out.2.1.size))))
  clear hB1 hB2
  go_loopw [3, 4] (fun sv iv wr => ∃ (k : Nat) (S : ByteArray), iv = .int .i64 k ∧ sv = .string S ∧ k ≤ kids.length ∧ S = ⟨(JT.textL true true keys ((kids.map PT.tree).take k)).toArray⟩ ∧ Below w1.heap.size w1 wr) (fun _ iv _ => kids.length - (intOf iv).toNat)
  case atStart => exact ⟨0, ⟨#[]⟩, rfl, rfl, by omega, rfl, Below.refl _ _⟩
  case round =>
    obtain ⟨k, S, rfl, rfl, hk, hS, hb⟩ := hrel
    have hBk := HB.out.2.1.below hb HB.out.2.1.lt
    have a0 : wr.cell? ⟨w.heap.size, 0, none⟩ = some (.int .i64 5) := hBk.cell 0
    have a5 : wr.cell? ⟨w.heap.size, 5, none⟩ = some (.slice kA keys.length kc) := hBk.cell 5
    have a6 : wr.cell? ⟨w.heap.size, 6, none⟩ = some (.slice cA kids.length cc) := hBk.cell 6
    have hW := HB.out.2.2.trans (hb.mono HB.out.2.2.size)
    obtain ⟨L, hL⟩ : ∃ L, L = JT.textL true true keys ((kids.map PT.tree).take k) := ⟨_, rfl⟩
    rw [← hL] at hS
    have hl0 : L.length ≤ 100000 := by rw [hL]; exact HS.out.2.2 k
    by_cases hlt : k < kids.length
    · have hlti : (k : Int) < (kids.length : Int) := by omega
      obtain ⟨x, hx⟩ : ∃ x, kids[k]? = some x := ⟨_, List.getElem?_eq_getElem hlt⟩
      have htl : (kids.map PT.tree)[k]? = some x.tree := by rw [List.getElem?_map, hx]; rfl
      have hsucc := textL_succ true keys (kids.map PT.tree) k x.tree htl
      rw [← hL] at hsucc
      have hl1 := HS.out.2.2 (k + 1)
      obtain ⟨X, hX⟩ : ∃ X : ByteArray, X = ⟨x.tree.text.toArray⟩ := ⟨_, rfl⟩
      have HC := Lib.hid (fun w1 hw1 => show Calls Tryd.prog 8 #[x.value] w1 (fun e w' => e = .returned (.string X) ∧ Below w1.heap.size w1 w') from by rw [hX]; exact HI.out k x hx w1 hw1)
      obtain ⟨b1, o1, hA1, _⟩ := kid_cells (HS.out.1.kids.below hW) hx
      simp only [PT.cA] at hA1
      subst hA1
      have HKC := Lib.hid (fun W (hWW : Below W0.heap.size W0 W) => kid_at b1 o1 (HS.out.1.kids.below hWW) hx)
      clear hx
      obtain ⟨y, hy⟩ : ∃ y, keys[k]? = some y := ⟨_, List.getElem?_eq_getElem (by have := HKL.out; omega)⟩
      have hy20 : y.size ≤ 20 := hkz y (List.mem_of_getElem? hy)
      have hyd : (keys.drop k).headD ⟨#[]⟩ = y := by
        rw [List.headD_eq_head?_getD, List.head?_drop, hy]
        rfl
      rw [hyd] at hsucc
      obtain ⟨bk, ok, hkA, hcy⟩ := (HS.out.1.keys.below hW).at_ (j := k) (u := .string y) (by simp only [PT.keys]; simp [hy])
      simp only [PT.kA] at hkA
      subst hkA
      have hki2 : (k : Int) < (keys.length : Int) := by have := HKL.out; omega
      obtain ⟨q, hq⟩ : ∃ q, q = quoteL y.data.toList := ⟨_, rfl⟩
      rw [← hq] at hsucc
      obtain ⟨Q, hQ⟩ : ∃ Q : ByteArray, Q = ⟨q.toArray⟩ := ⟨_, rfl⟩
      have HQ := Lib.hid (show Calls Tryd.prog 22 #[.string y] wr (fun e w' => e = .returned (.string Q) ∧ Below wr.heap.size wr w') from by rw [hQ, hq]; exact rquote_any y (by omega) wr)
      clear hy hyd hq
      by_cases hk0 : k = 0
      · have hki : ¬ (0 : Int) < (k : Int) := by omega
        simp only [if_pos hk0, if_true, List.nil_append] at hsucc
        rw [hsucc] at hl1
        simp only [List.length_append, List.length_singleton] at hl1
        clear hk0
        obtain ⟨S2, hS2⟩ : ∃ S2 : ByteArray, S2 = ⟨(L ++ q).toArray⟩ := ⟨_, rfl⟩
        have adS2 := sadd (P := Tryd.prog) (L) q (by first | omega | (simp only [List.length_append, List.length_singleton]; omega)) S Q S2 hS hQ hS2
        obtain ⟨S3, hS3⟩ : ∃ S3 : ByteArray, S3 = ⟨((L ++ q) ++ [58]).toArray⟩ := ⟨_, rfl⟩
        have adS3 := sadd (P := Tryd.prog) ((L ++ q)) [58] (by first | omega | (simp only [List.length_append, List.length_singleton]; omega)) S2 ⟨#[58]⟩ S3 hS2 rfl hS3
        obtain ⟨S4, hS4⟩ : ∃ S4 : ByteArray, S4 = ⟨(((L ++ q) ++ [58]) ++ x.tree.text).toArray⟩ := ⟨_, rfl⟩
        have adS4 := sadd (P := Tryd.prog) (((L ++ q) ++ [58])) x.tree.text (by first | omega | (simp only [List.length_append, List.length_singleton]; omega)) S3 X S4 hS3 hX hS4
        have HF := Lib.hid (show S4 = ⟨(JT.textL true true keys ((kids.map PT.tree).take (k + 1))).toArray⟩ from by rw [hS4, hsucc]; try simp [List.append_assoc])
        clear hS2 hS3 hS4 hX hS hL hsucc hl1 hQ
        have HWR := Lib.hid (And.intro hW (And.intro hBk hb))
        clear hW hBk hb
        go_wp2_with (go_at_call 22; refine HQ.out.mono ?_)
        first | (rintro e w2 rfl hb2) | (rintro e w2 ⟨rfl, hb2⟩)
        have hW2 := HWR.out.1.trans (hb2.mono HWR.out.1.size)
        have hBk2 := HWR.out.2.1.below hb2 HWR.out.2.1.lt
        have hbb := HWR.out.2.2.trans (hb2.mono HWR.out.2.2.size)
        have a62 : w2.cell? ⟨w.heap.size, 6, none⟩ = some (.slice (some ⟨b1, o1, none⟩) kids.length cc) := hBk2.cell 6
        obtain ⟨p0, p1, p2, p3, p4, p5, p6⟩ := HKC.out w2 hW2
        have HCX := Lib.hid (HC.out w2 hW2)
        have HW2 := Lib.hid hbb
        clear hW2 hBk2 hbb hb2 HQ a0 a5 a6 HC HKC
        go_wp2_with (go_at_call 8; refine HCX.out.mono ?_)
        first | (rintro e w3 rfl hb3) | (rintro e w3 ⟨rfl, hb3⟩)
        have HN := Lib.hid (HW2.out.trans (hb3.mono HW2.out.size))
        clear hb3 p0 p1 p2 p3 p4 p5 p6
        go_wp2_with fail
        go_roundw
        case rel => exact ⟨k + 1, S4, by go_num, rfl, by omega, HF.out, HN.out⟩
        case measure => simp [intOf] <;> omega
      · have hki : (0 : Int) < (k : Int) := by omega
        simp only [if_neg hk0, if_true, List.nil_append] at hsucc
        rw [hsucc] at hl1
        simp only [List.length_append, List.length_singleton] at hl1
        obtain ⟨S1, hS1⟩ : ∃ S1 : ByteArray, S1 = ⟨(L ++ [44]).toArray⟩ := ⟨_, rfl⟩
        have adS1 := sadd (P := Tryd.prog) (L) [44] (by first | omega | (simp only [List.length_append, List.length_singleton]; omega)) S ⟨#[44]⟩ S1 hS rfl hS1
        obtain ⟨S2, hS2⟩ : ∃ S2 : ByteArray, S2 = ⟨((L ++ [44]) ++ q).toArray⟩ := ⟨_, rfl⟩
        have adS2 := sadd (P := Tryd.prog) ((L ++ [44])) q (by first | omega | (simp only [List.length_append, List.length_singleton]; omega)) S1 Q S2 hS1 hQ hS2
        obtain ⟨S3, hS3⟩ : ∃ S3 : ByteArray, S3 = ⟨(((L ++ [44]) ++ q) ++ [58]).toArray⟩ := ⟨_, rfl⟩
        have adS3 := sadd (P := Tryd.prog) (((L ++ [44]) ++ q)) [58] (by first | omega | (simp only [List.length_append, List.length_singleton]; omega)) S2 ⟨#[58]⟩ S3 hS2 rfl hS3
        obtain ⟨S4, hS4⟩ : ∃ S4 : ByteArray, S4 = ⟨((((L ++ [44]) ++ q) ++ [58]) ++ x.tree.text).toArray⟩ := ⟨_, rfl⟩
        have adS4 := sadd (P := Tryd.prog) ((((L ++ [44]) ++ q) ++ [58])) x.tree.text (by first | omega | (simp only [List.length_append, List.length_singleton]; omega)) S3 X S4 hS3 hX hS4
        have HF := Lib.hid (show S4 = ⟨(JT.textL true true keys ((kids.map PT.tree).take (k + 1))).toArray⟩ from by rw [hS4, hsucc]; try simp [List.append_assoc])
        clear hS1 hS2 hS3 hS4 hX hS hL hsucc hl1 hQ
        have HWR := Lib.hid (And.intro hW (And.intro hBk hb))
        clear hW hBk hb
        go_wp2_with (go_at_call 22; refine HQ.out.mono ?_)
        first | (rintro e w2 rfl hb2) | (rintro e w2 ⟨rfl, hb2⟩)
        have hW2 := HWR.out.1.trans (hb2.mono HWR.out.1.size)
        have hBk2 := HWR.out.2.1.below hb2 HWR.out.2.1.lt
        have hbb := HWR.out.2.2.trans (hb2.mono HWR.out.2.2.size)
        have a62 : w2.cell? ⟨w.heap.size, 6, none⟩ = some (.slice (some ⟨b1, o1, none⟩) kids.length cc) := hBk2.cell 6
        obtain ⟨p0, p1, p2, p3, p4, p5, p6⟩ := HKC.out w2 hW2
        have HCX := Lib.hid (HC.out w2 hW2)
        have HW2 := Lib.hid hbb
        clear hW2 hBk2 hbb hb2 HQ a0 a5 a6 HC HKC
        go_wp2_with (go_at_call 8; refine HCX.out.mono ?_)
        first | (rintro e w3 rfl hb3) | (rintro e w3 ⟨rfl, hb3⟩)
        have HN := Lib.hid (HW2.out.trans (hb3.mono HW2.out.size))
        clear hb3 p0 p1 p2 p3 p4 p5 p6
        go_wp2_with fail
        go_roundw
        case rel => exact ⟨k + 1, S4, by go_num, rfl, by omega, HF.out, HN.out⟩
        case measure => simp [intOf] <;> omega
    · have hlti : ¬ (k : Int) < (kids.length : Int) := by omega
      have hLe : L = JT.textL true true keys (kids.map PT.tree) := by rw [hL, List.take_of_length_le (by simp; omega)]
      obtain ⟨S1, hS1⟩ : ∃ S1 : ByteArray, S1 = ⟨([123] ++ L).toArray⟩ := ⟨_, rfl⟩
      obtain ⟨S2, hS2⟩ : ∃ S2 : ByteArray, S2 = ⟨(([123] ++ L) ++ [125]).toArray⟩ := ⟨_, rfl⟩
      have ad1 := sadd (P := Tryd.prog) [123] L (by simp; omega) ⟨#[123]⟩ S S1 rfl hS hS1
      have ad2 := sadd (P := Tryd.prog) ([123] ++ L) [125] (by simp; omega) S1 ⟨#[125]⟩ S2 hS1 rfl hS2
      have HF := Lib.hid (show S2 = ⟨(123 :: (JT.textL true true keys (kids.map PT.tree) ++ [125])).toArray⟩ from by rw [hS2, hLe]; simp)
      have HBE := Lib.hid (HB.out.1.trans (hb.mono HB.out.1.size))
      clear hS1 hS2 hS hL hLe hb hW hBk
      go_wp2_with fail
      go_ret
      exact ⟨by rw [← HF.out]; rfl, HBE.out⟩

set_option maxRecDepth 100000 in
set_option maxHeartbeats 4000000 in
theorem rtext_6 (v : JV) (kA : Option Addr) (kc : Nat) (keys : List ByteArray) (cA : Option Addr) (cc : Nat) (kids : List PT) (W0 w : World) (hT : InJ W0 (.node v kA kc keys cA cc kids)) (hb : Below W0.heap.size W0 w) (hf : (PT.node v kA kc keys cA cc kids).tree.formed = true) (hz : (PT.node v kA kc keys cA cc kids).tree.size ≤ 400) (hk : v.k = 6)
    (ih : ∀ k ∈ kids, ∀ w1, Below W0.heap.size W0 w1 → Calls Tryd.prog 8 #[k.value] w1 (StrIs w1 k.tree.text)) :
    Calls Tryd.prog 8 #[(PT.node v kA kc keys cA cc kids).value] w (StrIs w (PT.node v kA kc keys cA cc kids).tree.text) := by
  have hsl := hT.slot
  have hnum := hT.num
  rw [PT.tree, PT.treeL_eq] at hf hz hnum ⊢
  obtain ⟨htop, hkf⟩ := (JT.formed_iff _).1 hf
  obtain ⟨h5, hn5, hhd⟩ := top_keys htop
  simp only [JT.val, JT.keys, JT.kids] at h5 hn5 hhd hkf
  simp only [JT.Num] at hnum
  have hall : ∀ t ∈ kids.map PT.tree, t.text.length + 64 ≤ 250 * t.size := fun t ht => JT.text_len t (hkf t ht) ((JT.NumL_iff _).1 hnum.2 t ht)
  rw [JT.size] at hz
  have hlen : ∀ i, (JT.textL false true keys ((kids.map PT.tree).take i)).length ≤ 100000 := fun i => by
    have h1 := textL_take false true keys (kids.map PT.tree) i
    have h2 := textL_len false (kids.map PT.tree) true keys hall (by simp)
    omega
  have hcl : kids.length ≤ 400 := by
    have := JT.length_le_sizeL (kids.map PT.tree)
    simp at this
    omega
  have HKL := trivial
  have htx : (JT.node v keys (kids.map PT.tree)).text = 91 :: (JT.textL false true keys (kids.map PT.tree) ++ [93]) := by
    rw [JT.text, if_neg (by omega), if_pos hk]
  rw [htx]
  have HI := Lib.hid (fun (i : Nat) (k : PT) (h1 : kids[i]? = some k) (w1 : World) (hw : Below W0.heap.size W0 w1) => ih k (List.mem_of_getElem? h1) w1 hw)
  have HS := Lib.hid (And.intro hsl (And.intro hb hlen))
  obtain ⟨kd, n, s, o, p⟩ := v
  simp only at hk
  subst hk
  unfold PT.value PT.cells JV.cells
  simp only [PT.val, PT.keys, PT.kids, PT.kA, PT.kc, PT.cA, PT.cc]
  clear ih hsl hb hT hlen htx hall hnum hkf hf htop hhd h5 hn5 hz
  go_enter Tryd.func8, Tryd.ntmps8
  go_wp2_with fail
  refine wp_at (fun w1 => Below w.heap.size w w1 ∧ Blk w1 w.heap.size 29 #[.int .i64 6, .int .i64 n, .string s, .int .i64 o, .int .i64 p, .slice kA keys.length kc, .slice cA kids.length cc]) ⟨(Below.refl _ _).alloc (Nat.le_refl _) _, Blk.new w _ _⟩ ?_
  rintro w1 ⟨hB1, hB2⟩
  have HB := Lib.hid (And.intro hB1 (And.intro hB2 (HS.out.2.1.trans (hB1.mono HS.out.2.1.size))))
  clear hB1 hB2
  go_loopw [3, 4] (fun sv iv wr => ∃ (k : Nat) (S : ByteArray), iv = .int .i64 k ∧ sv = .string S ∧ k ≤ kids.length ∧ S = ⟨(JT.textL false true keys ((kids.map PT.tree).take k)).toArray⟩ ∧ Below w1.heap.size w1 wr) (fun _ iv _ => kids.length - (intOf iv).toNat)
  case atStart => exact ⟨0, ⟨#[]⟩, rfl, rfl, by omega, rfl, Below.refl _ _⟩
  case round =>
    obtain ⟨k, S, rfl, rfl, hk, hS, hb⟩ := hrel
    have hBk := HB.out.2.1.below hb HB.out.2.1.lt
    have a0 : wr.cell? ⟨w.heap.size, 0, none⟩ = some (.int .i64 6) := hBk.cell 0
    have a5 : wr.cell? ⟨w.heap.size, 5, none⟩ = some (.slice kA keys.length kc) := hBk.cell 5
    have a6 : wr.cell? ⟨w.heap.size, 6, none⟩ = some (.slice cA kids.length cc) := hBk.cell 6
    have hW := HB.out.2.2.trans (hb.mono HB.out.2.2.size)
    obtain ⟨L, hL⟩ : ∃ L, L = JT.textL false true keys ((kids.map PT.tree).take k) := ⟨_, rfl⟩
    rw [← hL] at hS
    have hl0 : L.length ≤ 100000 := by rw [hL]; exact HS.out.2.2 k
    by_cases hlt : k < kids.length
    · have hlti : (k : Int) < (kids.length : Int) := by omega
      obtain ⟨x, hx⟩ : ∃ x, kids[k]? = some x := ⟨_, List.getElem?_eq_getElem hlt⟩
      have htl : (kids.map PT.tree)[k]? = some x.tree := by rw [List.getElem?_map, hx]; rfl
      have hsucc := textL_succ false keys (kids.map PT.tree) k x.tree htl
      rw [← hL] at hsucc
      have hl1 := HS.out.2.2 (k + 1)
      obtain ⟨X, hX⟩ : ∃ X : ByteArray, X = ⟨x.tree.text.toArray⟩ := ⟨_, rfl⟩
      have HC := Lib.hid (fun w1 hw1 => show Calls Tryd.prog 8 #[x.value] w1 (fun e w' => e = .returned (.string X) ∧ Below w1.heap.size w1 w') from by rw [hX]; exact HI.out k x hx w1 hw1)
      obtain ⟨b1, o1, hA1, _⟩ := kid_cells (HS.out.1.kids.below hW) hx
      simp only [PT.cA] at hA1
      subst hA1
      have HKC := Lib.hid (fun W (hWW : Below W0.heap.size W0 W) => kid_at b1 o1 (HS.out.1.kids.below hWW) hx)
      clear hx
      have hkz : True := trivial
      by_cases hk0 : k = 0
      · have hki : ¬ (0 : Int) < (k : Int) := by omega
        simp only [if_pos hk0, Bool.false_eq_true, if_false, List.nil_append] at hsucc
        rw [hsucc] at hl1
        simp only [List.length_append] at hl1
        clear hk0
        obtain ⟨S4, hS4⟩ : ∃ S4 : ByteArray, S4 = ⟨(L ++ x.tree.text).toArray⟩ := ⟨_, rfl⟩
        have adS4 := sadd (P := Tryd.prog) (L) x.tree.text (by first | omega | (simp only [List.length_append, List.length_singleton]; omega)) S X S4 hS hX hS4
        have HF := Lib.hid (show S4 = ⟨(JT.textL false true keys ((kids.map PT.tree).take (k + 1))).toArray⟩ from by rw [hS4, hsucc]; try simp [List.append_assoc])
        clear hS4 hX hS hL hsucc hl1
        have HWR := Lib.hid (And.intro hW (And.intro hBk hb))
        clear hW hBk hb
        obtain ⟨p0, p1, p2, p3, p4, p5, p6⟩ := HKC.out wr HWR.out.1
        have HCX := Lib.hid (HC.out wr HWR.out.1)
        clear HC HKC
        go_wp2_with (go_at_call 8; refine HCX.out.mono ?_)
        first | (rintro e w3 rfl hb3) | (rintro e w3 ⟨rfl, hb3⟩)
        have HN := Lib.hid (HWR.out.2.2.trans (hb3.mono HWR.out.2.2.size))
        clear hb3 p0 p1 p2 p3 p4 p5 p6
        go_wp2_with fail
        go_roundw
        case rel => exact ⟨k + 1, S4, by go_num, rfl, by omega, HF.out, HN.out⟩
        case measure => simp [intOf] <;> omega
      · have hki : (0 : Int) < (k : Int) := by omega
        simp only [if_neg hk0, Bool.false_eq_true, if_false, List.nil_append] at hsucc
        rw [hsucc] at hl1
        simp only [List.length_append, List.length_singleton] at hl1
        obtain ⟨S1, hS1⟩ : ∃ S1 : ByteArray, S1 = ⟨(L ++ [44]).toArray⟩ := ⟨_, rfl⟩
        have adS1 := sadd (P := Tryd.prog) (L) [44] (by first | omega | (simp only [List.length_append, List.length_singleton]; omega)) S ⟨#[44]⟩ S1 hS rfl hS1
        obtain ⟨S4, hS4⟩ : ∃ S4 : ByteArray, S4 = ⟨((L ++ [44]) ++ x.tree.text).toArray⟩ := ⟨_, rfl⟩
        have adS4 := sadd (P := Tryd.prog) ((L ++ [44])) x.tree.text (by first | omega | (simp only [List.length_append, List.length_singleton]; omega)) S1 X S4 hS1 hX hS4
        have HF := Lib.hid (show S4 = ⟨(JT.textL false true keys ((kids.map PT.tree).take (k + 1))).toArray⟩ from by rw [hS4, hsucc]; try simp [List.append_assoc])
        clear hS1 hS4 hX hS hL hsucc hl1
        have HWR := Lib.hid (And.intro hW (And.intro hBk hb))
        clear hW hBk hb
        obtain ⟨p0, p1, p2, p3, p4, p5, p6⟩ := HKC.out wr HWR.out.1
        have HCX := Lib.hid (HC.out wr HWR.out.1)
        clear HC HKC
        go_wp2_with (go_at_call 8; refine HCX.out.mono ?_)
        first | (rintro e w3 rfl hb3) | (rintro e w3 ⟨rfl, hb3⟩)
        have HN := Lib.hid (HWR.out.2.2.trans (hb3.mono HWR.out.2.2.size))
        clear hb3 p0 p1 p2 p3 p4 p5 p6
        go_wp2_with fail
        go_roundw
        case rel => exact ⟨k + 1, S4, by go_num, rfl, by omega, HF.out, HN.out⟩
        case measure => simp [intOf] <;> omega
    · have hlti : ¬ (k : Int) < (kids.length : Int) := by omega
      have hLe : L = JT.textL false true keys (kids.map PT.tree) := by rw [hL, List.take_of_length_le (by simp; omega)]
      obtain ⟨S1, hS1⟩ : ∃ S1 : ByteArray, S1 = ⟨([91] ++ L).toArray⟩ := ⟨_, rfl⟩
      obtain ⟨S2, hS2⟩ : ∃ S2 : ByteArray, S2 = ⟨(([91] ++ L) ++ [93]).toArray⟩ := ⟨_, rfl⟩
      have ad1 := sadd (P := Tryd.prog) [91] L (by simp; omega) ⟨#[91]⟩ S S1 rfl hS hS1
      have ad2 := sadd (P := Tryd.prog) ([91] ++ L) [93] (by simp; omega) S1 ⟨#[93]⟩ S2 hS1 rfl hS2
      have HF := Lib.hid (show S2 = ⟨(91 :: (JT.textL false true keys (kids.map PT.tree) ++ [93])).toArray⟩ from by rw [hS2, hLe]; simp)
      have HBE := Lib.hid (HB.out.1.trans (hb.mono HB.out.1.size))
      clear hS1 hS2 hS hL hLe hb hW hBk
      go_wp2_with fail
      go_ret
      exact ⟨by rw [← HF.out]; rfl, HBE.out⟩

set_option maxRecDepth 100000 in
set_option maxHeartbeats 2000000 in
theorem rtext_plain (v : JV) (kA : Option Addr) (kc : Nat) (keys : List ByteArray) (cA : Option Addr) (cc : Nat) (kids : List PT) (w : World) (hk0 : 0 ≤ v.k) (hk3 : v.k ≤ 4) (hn : I64 v.n) (hs : v.k = 3 → v.s.size ≤ 60) :
    Calls Tryd.prog 8 #[(PT.node v kA kc keys cA cc kids).value] w (StrIs w (PT.node v kA kc keys cA cc kids).tree.text) := by
  have htx : (PT.node v kA kc keys cA cc kids).tree.text = showL v := by rw [PT.tree, JT.text, if_neg (by omega), if_neg (by omega)]
  rw [htx]
  obtain ⟨k, n, s, o, p⟩ := v
  simp only at hk0 hk3 hn hs
  have hsh : ∀ w, Calls Tryd.prog 21 #[.agg #[.int .i64 k, .int .i64 n, .string s, .int .i64 o, .int .i64 p]] w (StrIs w (showL ⟨k, n, s, o, p⟩)) := fun w => by
    exact rshow_any ⟨k, n, s, o, p⟩ hk0 hk3 hn hs w
  have hb : Below w.heap.size w (w.alloc (.cells #[.int .i64 k, .int .i64 n, .string s, .int .i64 o, .int .i64 p, .slice kA keys.length kc, .slice cA kids.length cc] 29)) := (Below.refl _ _).alloc (Nat.le_refl _) _
  have HB := Lib.hid hb
  have HS := Lib.hid (hsh (w.alloc (.cells #[.int .i64 k, .int .i64 n, .string s, .int .i64 o, .int .i64 p, .slice kA keys.length kc, .slice cA kids.length cc] 29)))
  clear hb hsh htx
  unfold PT.value PT.cells JV.cells
  simp only [PT.val, PT.keys, PT.kids, PT.kA, PT.kc, PT.cA, PT.cc]
  have g5 : (k != 5) = true := by simp; omega
  have g6 : (k != 6) = true := by simp; omega
  go_enter Tryd.func8, Tryd.ntmps8
  go_wp2_with (go_at_call 21; refine HS.out.mono ?_; rintro e w2 ⟨rfl, hb2⟩; have H2 := Lib.hid hb2; clear hb2)
  go_ret
  exact ⟨rfl, HB.out.trans (H2.out.mono HB.out.size)⟩
theorem rtext_any : ∀ (T : PT) (W0 : World) (hT : InJ W0 T) (hf : T.tree.formed = true) (hz : T.tree.size ≤ 400) (w : World) (hb : Below W0.heap.size W0 w), Calls Tryd.prog 8 #[T.value] w (StrIs w T.tree.text) := by
  intro T
  refine PT.ind (P := fun T => ∀ (W0 : World) (hT : InJ W0 T) (hf : T.tree.formed = true) (hz : T.tree.size ≤ 400) (w : World) (hb : Below W0.heap.size W0 w), Calls Tryd.prog 8 #[T.value] w (StrIs w T.tree.text)) ?_ T
  clear T
  intro v kA kc keys cA cc kids ih W0 hT hf hz w hb
  have hf2 := hf
  have hz2 := hz
  rw [PT.tree, PT.treeL_eq] at hf2 hz2
  obtain ⟨htop, hkf⟩ := (JT.formed_iff _).1 hf2
  obtain ⟨_, _, hhd⟩ := top_keys htop
  simp only [JT.val, JT.kids] at hhd hkf
  obtain ⟨hok, h4, _, _⟩ := head_parts hhd
  obtain ⟨k0, k6⟩ := ok_kind hok
  have hih : ∀ k ∈ kids, ∀ w1, Below W0.heap.size W0 w1 → Calls Tryd.prog 8 #[k.value] w1 (StrIs w1 k.tree.text) := fun k hk w1 hw1 => by
    refine ih k hk W0 (hT.kids k hk) (hkf _ (List.mem_map_of_mem hk)) ?_ w1 hw1
    obtain ⟨i, hi⟩ := List.getElem?_of_mem hk
    have h1 : (JT.node v keys (kids.map PT.tree)).kids[i]? = some k.tree := by simp [JT.kids, hi]
    have h2 := JT.size_eq (JT.node v keys (kids.map PT.tree))
    have h3 := JT.sizeL_take_succ h1
    have h4 := JT.sizeL_take_le (JT.node v keys (kids.map PT.tree)).kids (i + 1)
    omega
  by_cases h5 : v.k = 5
  · exact rtext_5 v kA kc keys cA cc kids W0 w hT hb hf hz h5 hih
  · by_cases h6 : v.k = 6
    · exact rtext_6 v kA kc keys cA cc kids W0 w hT hb hf hz h6 hih
    · exact rtext_plain v kA kc keys cA cc kids w k0 (by omega) hT.slot.fit.n (fun h3 => ok_text hok h3)
end Go.Proofs.YtfnigdbnkdofiaaDoor
