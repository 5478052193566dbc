/- Changes that came in, opened. -/
import Derived.Test.YtdenaejhfgmihaaDagClosedWalk
import Derived.Test.YtdenaejhfgmihaaOpen
namespace Go.Proofs.Ytdenaejhfgmihaa
open Go.RowKit Go.ChangeShapes Go.WideShapes Go.Deep
set_option linter.unusedVariables false
set_option linter.unusedSimpArgs false

theorem flat_len {α : Type} (cl : α → List Value) (k : Nat) (hcl : ∀ x, (cl x).length = k) (l : List α) : (l.flatMap cl).length = l.length * k := by
  induction l with
  | nil => simp
  | cons x l ih => simp only [List.flatMap_cons, List.length_append, hcl, List.length_cons, ih, Nat.succ_mul]; omega
theorem flat_at {α : Type} (cl : α → List Value) (k : Nat) (hcl : ∀ x, (cl x).length = k) : ∀ (l : List α) (i : Nat) (a : α), l[i]? = some a → ∀ j, j < k → (l.flatMap cl)[i * k + j]? = (cl a)[j]?
  | [], i, a, h, _, _ => by simp at h
  | x :: l, 0, a, h, j, hj => by
    simp at h
    subst h
    simp only [List.flatMap_cons, Nat.zero_mul, Nat.zero_add]
    rw [List.getElem?_append_left (by rw [hcl]; exact hj)]
  | x :: l, i + 1, a, h, j, hj => by
    have ih := flat_at cl k hcl l i a (by simpa using h) j hj
    simp only [List.flatMap_cons]
    rw [List.getElem?_append_right (by rw [hcl, Nat.succ_mul]; omega), hcl, show (i + 1) * k + j - k = i * k + j by rw [Nat.succ_mul]; omega]
    exact ih

section
variable {H : Type} {enc : TypeId × Value → H} {w : World} {base : Nat} {spare : Nat → Bool} {held : Bool}

theorem tr_field {P : Program} {fs : Array Field} {n : Nat} {cs : List Value} {xs : List (DataW H × List MemPlace)}
    (hf : ∀ (i : Nat) (f : Field), fs[i]? = some f → DataW.trod enc P w base spare held n f.type ((cs.drop f.offset).take (P.cellsOf f.type)) = xs[i]?) (i : Nat) (f : Field) (hi : fs[i]? = some f)
    {t o m : Nat} (ht : f.type = t) (ho : f.offset = o) (hm : P.cellsOf t = m) {y : DataW H × List MemPlace} (hy : xs[i]? = some y) : DataW.trod enc P w base spare held n t ((cs.drop o).take m) = some y := by
  subst ht ho hm
  rw [← hy]
  exact hf i f hi
set_option maxRecDepth 100000 in
theorem trod_value {fuel : Nat} {cs : List Value} {x : DataW H × List MemPlace} (h : DataW.trod enc Try.prog w base spare held fuel 61 cs = some x) : ∃ v : JV, cs = v.cells ∧ v.Fit := by
  obtain ⟨xs, n, rfl, _, hl, hxl, hf⟩ := DataW.trod_struct Try.underlying61 h
  have c1 : Try.prog.cellsOf 3 = 1 := by kernel_rfl
  have c2 : Try.prog.cellsOf 9 = 1 := by kernel_rfl
  have c3 : Try.prog.cellsOf 59 = 2 := by kernel_rfl
  have c4 : Try.prog.cellsOf 61 = 5 := by kernel_rfl
  rw [c4] at hl
  match cs, hl, xs, hxl with
  | [a, b, c, d, e], _, [y0, y1, y2, y3], _ =>
    have g0 : DataW.trod enc Try.prog w base spare held n 3 [a] = some y0 := tr_field hf 0 _ rfl rfl rfl c1 rfl
    have g1 : DataW.trod enc Try.prog w base spare held n 3 [b] = some y1 := tr_field hf 1 _ rfl rfl rfl c1 rfl
    have g2 : DataW.trod enc Try.prog w base spare held n 9 [c] = some y2 := tr_field hf 2 _ rfl rfl rfl c2 rfl
    have g3 : DataW.trod enc Try.prog w base spare held n 59 [d, e] = some y3 := tr_field hf 3 _ rfl rfl rfl c3 rfl
    obtain ⟨k, e0, _, w0⟩ := DataW.trod_int Try.underlying3 g0
    obtain ⟨m, e1, _, w1⟩ := DataW.trod_int Try.underlying3 g1
    obtain ⟨s, e2, _, w2⟩ := DataW.trod_string Try.underlying9 g2
    obtain ⟨xs', n', rfl, _, _, hxl', hf'⟩ := DataW.trod_struct Try.underlying59 g3
    match xs', hxl' with
    | [z0, z1], _ =>
      have q0 : DataW.trod enc Try.prog w base spare held n' 3 [d] = some z0 := tr_field hf' 0 _ rfl rfl rfl c1 rfl
      have q1 : DataW.trod enc Try.prog w base spare held n' 3 [e] = some z1 := tr_field hf' 1 _ rfl rfl rfl c1 rfl
      obtain ⟨o, e3, _, w3⟩ := DataW.trod_int Try.underlying3 q0
      obtain ⟨p, e4, _, w4⟩ := DataW.trod_int Try.underlying3 q1
      simp only [List.cons.injEq, and_true] at e0 e1 e2 e3 e4
      subst e0 e1 e2 e3 e4
      exact ⟨⟨k, m, s, o, p⟩, rfl, i64_of_wf w0, i64_of_wf w1, w2, i64_of_wf w3, i64_of_wf w4⟩


/-- A slice of structs, each read by itself. -/
theorem trod_rows {P : Program} {α : Type} [Inhabited α] (cl : α → List Value) (k : Nat) (hk : 0 < k) (hcl : ∀ x, (cl x).length = k) (Good : α → Prop) {t e : TypeId} (ht : P.underlying t = some (.slice e)) (ce : P.cellsOf e = k)
    (elem : ∀ (fuel : Nat) (cs : List Value) (x : DataW H × List MemPlace), DataW.trod enc P w base spare held fuel e cs = some x → ∃ a, cs = cl a ∧ Good a) {fuel : Nat} {cs : List Value} {x : DataW H × List MemPlace} (h : DataW.trod enc P w base spare held fuel t cs = some x) :
    ∃ (A : Option Addr) (c : Nat) (l : List α), cs = [.slice A l.length c] ∧ SlAt w A (l.flatMap cl) ∧ (∀ a ∈ l, Good a) ∧ l.length ≤ maxLen := by
  rcases DataW.trod_slice ht h with ⟨rfl, _⟩ | ⟨ad, len, cap, elems, rest, n', rfl, rfl, _, _, hlc, hcm, hel, hx, _, _⟩
  · exact ⟨none, 0, [], rfl, .inl rfl, fun a ha => (by cases ha), by simp⟩
  · have each : ∀ i, i < len → ∃ a : α, w.cells? base (ad.add (i * k)) k = some (cl a) ∧ Good a := by
      intro i hi
      have := hx i hi
      rw [ce, List.getElem?_eq_getElem (by omega), Option.bind_eq_some_iff] at this
      obtain ⟨cs', h1, h2⟩ := this
      obtain ⟨a, rfl, hT⟩ := elem n' cs' _ h2
      exact ⟨a, h1, hT⟩
    obtain ⟨q, hq⟩ := Go.Deep.choose_lt each
    have hlen : ((List.range len).map q).length = len := by simp
    refine ⟨some ad, cap, (List.range len).map q, by rw [hlen], ?_, ?_, by rw [hlen]; omega⟩
    · by_cases h0 : len = 0
      · subst h0; exact .inl rfl
      · obtain ⟨hc0, _⟩ := hq 0 (by omega)
        obtain ⟨_, _, hc0⟩ := World.cells?_some hc0
        have hc00 := hc0 0 hk
        simp only [Nat.zero_mul] at hc00
        have ha0 : ∀ (a : Addr), a.add 0 = a := by intro a; obtain ⟨b, o, s⟩ := a; rfl
        rw [ha0] at hc00
        have ha : ad = ⟨ad.block, ad.off, none⟩ := addr_none (u := (cl (q 0))[0]'(by rw [hcl]; exact hk)) (by rw [hc00]; simp)
        refine .inr ⟨ad.block, ad.off, by rw [← ha], fun j u hu => ?_⟩
        have hjl := (List.getElem?_eq_some_iff.1 hu).1
        rw [flat_len cl k hcl, hlen] at hjl
        have hi : j / k < len := (Nat.div_lt_iff_lt_mul hk).2 hjl
        have hjm : j % k < k := Nat.mod_lt _ hk
        have hdm : j / k * k + j % k = j := by rw [Nat.mul_comm]; exact Nat.div_add_mod j k
        have hget := flat_at cl k hcl ((List.range len).map q) (j / k) (q (j / k)) (by rw [List.getElem?_map, List.getElem?_range hi]; rfl) (j % k) hjm
        rw [hdm, hu] at hget
        obtain ⟨hc1, _⟩ := hq (j / k) hi
        obtain ⟨_, _, hc1⟩ := World.cells?_some hc1
        have hc2 := hc1 (j % k) hjm
        rw [← hget, add_eq ha, add_eq (a := ⟨ad.block, ad.off + j / k * k, none⟩) rfl] at hc2
        simp only at hc2
        rw [show ad.off + j = ad.off + j / k * k + j % k from by omega]
        exact hc2
    · intro a ha
      obtain ⟨i, hi, rfl⟩ := List.mem_map.1 ha
      exact (hq i (by simpa using hi)).2

set_option maxRecDepth 100000 in
theorem trod_id {fuel : Nat} {cs : List Value} {x : DataW H × List MemPlace} (h : DataW.trod enc Try.prog w base spare held fuel 59 cs = some x) : ∃ p : Int × Int, cs = [.int .i64 p.1, .int .i64 p.2] ∧ I2 p := by
  obtain ⟨xs, n, rfl, _, hl, hxl, hf⟩ := DataW.trod_struct Try.underlying59 h
  have c1 : Try.prog.cellsOf 3 = 1 := by kernel_rfl
  have c3 : Try.prog.cellsOf 59 = 2 := by kernel_rfl
  rw [c3] at hl
  match cs, hl, xs, hxl with
  | [a, b], _, [y0, y1], _ =>
    have g0 : DataW.trod enc Try.prog w base spare held n 3 [a] = some y0 := tr_field hf 0 _ rfl rfl rfl c1 rfl
    have g1 : DataW.trod enc Try.prog w base spare held n 3 [b] = some y1 := tr_field hf 1 _ rfl rfl rfl c1 rfl
    obtain ⟨k, e0, _, w0⟩ := DataW.trod_int Try.underlying3 g0
    obtain ⟨m, e1, _, w1⟩ := DataW.trod_int Try.underlying3 g1
    simp only [List.cons.injEq, and_true] at e0 e1
    subst e0 e1
    exact ⟨(k, m), rfl, i64_of_wf w0, i64_of_wf w1⟩
def GoodO (w : World) (o : POp) : Prop := o.op.Fit ∧ SlAt w o.pA (refs o.op.preds)
set_option maxRecDepth 100000 in
set_option maxHeartbeats 1000000 in
theorem trod_op (fuel : Nat) (cs : List Value) (x : DataW H × List MemPlace) (h : DataW.trod enc Try.prog w base spare held fuel 64 cs = some x) : ∃ o : POp, cs = o.cells ∧ GoodO w o := by
  obtain ⟨xs, n, rfl, _, hl, hxl, hf⟩ := DataW.trod_struct Try.underlying64 h
  have c1 : Try.prog.cellsOf 3 = 1 := by kernel_rfl
  have c2 : Try.prog.cellsOf 9 = 1 := by kernel_rfl
  have c3 : Try.prog.cellsOf 59 = 2 := by kernel_rfl
  have c4 : Try.prog.cellsOf 4 = 1 := by kernel_rfl
  have c5 : Try.prog.cellsOf 61 = 5 := by kernel_rfl
  have c6 : Try.prog.cellsOf 62 = 1 := by kernel_rfl
  have c7 : Try.prog.cellsOf 64 = 13 := by kernel_rfl
  rw [c7] at hl
  match cs, hl, xs, hxl with
  | [a0, a1, a2, a3, a4, a5, a6, a7, a8, a9, a10, a11, a12], _, [y0, y1, y2, y3, y4, y5, y6], _ =>
    have g0 : DataW.trod enc Try.prog w base spare held n 3 [a0] = some y0 := tr_field hf 0 _ rfl rfl rfl c1 rfl
    have g1 : DataW.trod enc Try.prog w base spare held n 59 [a1, a2] = some y1 := tr_field hf 1 _ rfl rfl rfl c3 rfl
    have g2 : DataW.trod enc Try.prog w base spare held n 9 [a3] = some y2 := tr_field hf 2 _ rfl rfl rfl c2 rfl
    have g3 : DataW.trod enc Try.prog w base spare held n 59 [a4, a5] = some y3 := tr_field hf 3 _ rfl rfl rfl c3 rfl
    have g4 : DataW.trod enc Try.prog w base spare held n 4 [a6] = some y4 := tr_field hf 4 _ rfl rfl rfl c4 rfl
    have g5 : DataW.trod enc Try.prog w base spare held n 61 [a7, a8, a9, a10, a11] = some y5 := tr_field hf 5 _ rfl rfl rfl c5 rfl
    have g6 : DataW.trod enc Try.prog w base spare held n 62 [a12] = some y6 := tr_field hf 6 _ rfl rfl rfl c6 rfl
    obtain ⟨k, e0, _, w0⟩ := DataW.trod_int Try.underlying3 g0
    obtain ⟨p, e1, hp⟩ := trod_id g1
    obtain ⟨s, e2, _, w2⟩ := DataW.trod_string Try.underlying9 g2
    obtain ⟨q, e3, hq⟩ := trod_id g3
    obtain ⟨b, e4, _⟩ := DataW.trod_bool Try.underlying4 g4
    obtain ⟨v, e5, hv⟩ := trod_value g5
    obtain ⟨A, c, l, e6, hA, hl64, hll⟩ := trod_refs Try.underlying62 Try.underlying59 c3 rfl rfl (by kernel_rfl) (by kernel_rfl) Try.underlying3 Try.underlying3 g6
    simp only [List.cons.injEq, and_true] at e0 e1 e2 e3 e4 e6
    obtain ⟨rfl, rfl⟩ := e1
    obtain ⟨rfl, rfl⟩ := e3
    subst e0 e2 e4 e6
    simp only [JV.cells, List.cons.injEq, and_true] at e5
    obtain ⟨rfl, rfl, rfl, rfl, rfl⟩ := e5
    exact ⟨⟨⟨k, p, s, q, b, v, l⟩, A, c⟩, rfl, ⟨⟨i64_of_wf w0, hp, w2, hq, hv, fun r hr => hl64 r hr, hll⟩, hA⟩⟩
set_option maxRecDepth 100000 in
set_option maxHeartbeats 1000000 in
theorem trod_change (fuel : Nat) (cs : List Value) (x : DataW H × List MemPlace) (h : DataW.trod enc Try.prog w base spare held fuel 31 cs = some x) : ∃ c : PCh, cs = c.cells ∧ InC w c := by
  obtain ⟨xs, n, rfl, _, hl, hxl, hf⟩ := DataW.trod_struct Try.underlying31 h
  have c1 : Try.prog.cellsOf 3 = 1 := by kernel_rfl
  have c2 : Try.prog.cellsOf 28 = 1 := by kernel_rfl
  have c3 : Try.prog.cellsOf 29 = 1 := by kernel_rfl
  have c4 : Try.prog.cellsOf 34 = 2 := by kernel_rfl
  have c5 : Try.prog.cellsOf 64 = 13 := by kernel_rfl
  have c7 : Try.prog.cellsOf 31 = 5 := by kernel_rfl
  rw [c7] at hl
  match cs, hl, xs, hxl with
  | [a0, a1, a2, a3, a4], _, [y0, y1, y2, y3, y4], _ =>
    have g0 : DataW.trod enc Try.prog w base spare held n 3 [a0] = some y0 := tr_field hf 0 _ rfl rfl rfl c1 rfl
    have g1 : DataW.trod enc Try.prog w base spare held n 3 [a1] = some y1 := tr_field hf 1 _ rfl rfl rfl c1 rfl
    have g2 : DataW.trod enc Try.prog w base spare held n 3 [a2] = some y2 := tr_field hf 2 _ rfl rfl rfl c1 rfl
    have g3 : DataW.trod enc Try.prog w base spare held n 28 [a3] = some y3 := tr_field hf 3 _ rfl rfl rfl c2 rfl
    have g4 : DataW.trod enc Try.prog w base spare held n 29 [a4] = some y4 := tr_field hf 4 _ rfl rfl rfl c3 rfl
    obtain ⟨k0, e0, _, w0⟩ := DataW.trod_int Try.underlying3 g0
    obtain ⟨k1, e1, _, w1⟩ := DataW.trod_int Try.underlying3 g1
    obtain ⟨k2, e2, _, w2⟩ := DataW.trod_int Try.underlying3 g2
    obtain ⟨A, c, l, e3, hA, hl64, hll⟩ := trod_refs Try.underlying28 Try.underlying34 c4 rfl rfl (by kernel_rfl) (by kernel_rfl) Try.underlying3 Try.underlying3 g3
    have : Inhabited POp := ⟨⟨⟨0, (0, 0), ⟨#[]⟩, (0, 0), false, ⟨0, 0, ⟨#[]⟩, 0, 0⟩, []⟩, none, 0⟩⟩
    obtain ⟨B, cB, lo, e4, hB, hgo, hlo⟩ := trod_rows (P := Try.prog) POp.cells 13 (by decide) (fun _ => rfl) (GoodO w) Try.underlying29 c5 (fun fuel cs x h => trod_op fuel cs x h) g4
    simp only [List.cons.injEq, and_true] at e0 e1 e2 e3 e4
    subst e0 e1 e2 e3 e4
    exact ⟨⟨k0, k1, k2, A, c, l, B, cB, lo⟩, rfl, ⟨hA, hB, fun o ho => (hgo o ho).2, i64_of_wf w0, i64_of_wf w1, i64_of_wf w2, fun r hr => hl64 r hr, hll, fun o ho => (hgo o ho).1, hlo⟩⟩
end

set_option maxRecDepth 100000 in
theorem open_IsChanges {H : Type} {enc : TypeId × Value → H} {W : World} {b0 base : Nat} {spare : Nat → Bool} {held : Bool} {r : Reach} {v : Value} {d : DataW H} {p : List MemPlace} (hv : Value.okWide Try.prog W r b0 22 v) (h : DataW.Trod enc Try.prog W base spare held 22 v d p) :
    ∃ l, IsChanges W v l := by
  obtain ⟨a, len, cap, rfl⟩ := okWide_slice Try.underlying22 hv
  obtain ⟨fuel, hf⟩ := h
  have c7 : Try.prog.cellsOf 31 = 5 := by kernel_rfl
  have : Inhabited PCh := ⟨zPCh⟩
  obtain ⟨A, c, l, hcs, h1, h2, h3⟩ := trod_rows (P := Try.prog) PCh.cells 5 (by decide) (fun _ => rfl) (InC W) Try.underlying22 c7 (fun fuel cs x h => trod_change fuel cs x h) hf
  simp [Value.cells] at hcs
  obtain ⟨rfl, rfl, rfl⟩ := hcs
  exact ⟨l, _, _, rfl, h1, h2, h3⟩
end Go.Proofs.Ytdenaejhfgmihaa
