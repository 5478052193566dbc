/- booklaw3.JsonPaths: the walk. -/
import Derived.Test.YtljemaapicaioaaDoorJsonPaths
import Derived.Test.YtljemaapicaioaaDoorTreeLike
namespace Go.Proofs.YtljemaapicaioaaDoor
open Go.RowKit
set_option linter.unusedVariables false
set_option linter.unusedSimpArgs false

theorem rcheck_formed2 {t : JT} (h : rcheckN t = 0) : t.formed = true := by
  rcases check_both t with ⟨g, _⟩ | ⟨_, g, _⟩
  · exact (checkV_ok g).1
  · exact absurd h g

/-- What is wanted. -/
def WantP (t : JT) (x : JV) (lw : List SP) (e : Int) : Prop :=
  (rcheckN t ≠ 0 ∧ lw = [] ∧ e = rcheckN t) ∨ (rcheckN t = 0 ∧ (PT.bare x).tree.formed = false ∧ lw = [] ∧ e = 1) ∨ (rcheckN t = 0 ∧ (PT.bare x).tree.formed = true ∧ List.map SP.p lw = t.paths x [] ∧ e = 0)

theorem paths_like {w w' : World} {T : PT} {x : JV} {en : Ending} {lw : List SP} {e : Int} (hq : PathsQ w T x en w') (hw : WantP T.tree x lw e) :
    ∃ GA gc lg ev, en = .returned (.tuple #[.slice GA (List.length lg) gc, ev]) ∧ List.map SP.p lg = List.map SP.p lw ∧ SlAt w' GA (List.map SP.cell lg) ∧ PathsIn w' (fun _ => False) lg ∧ ErrIs ev e ∧ lg.length ≤ 400 := by
  obtain ⟨_, hq⟩ := hq
  rcases check_both T.tree with ⟨h1, h2⟩ | ⟨h1, h2, h3⟩
  · rcases hw with ⟨g, _⟩ | ⟨_, g1, rfl, rfl⟩ | ⟨_, g1, g2, rfl⟩
    · exact absurd h2 g
    · rcases hq with ⟨q, _⟩ | ⟨_, _, rfl⟩ | ⟨_, q, _⟩
      · exact absurd h1 q
      · exact ⟨none, 0, [], _, rfl, rfl, .inl rfl, by intro s hs; simp at hs, .inr ⟨rfl, by unfold I64; omega⟩, by simp⟩
      · rw [g1] at q; cases q
    · rcases hq with ⟨q, _⟩ | ⟨_, q, _⟩ | ⟨_, _, OA, oc, l, rfl, q1, q2, q3⟩
      · exact absurd h1 q
      · rw [g1] at q; cases q
      · refine ⟨OA, oc, l, _, rfl, q1.trans g2.symm, q2, q3, .inl ⟨rfl, rfl⟩, ?_⟩
        have a := congrArg List.length q1
        simp only [List.length_map] at a
        have b := JT.paths_len x T.tree []
        have c := (checkV_ok h1).2
        omega
  · rcases hw with ⟨_, rfl, rfl⟩ | ⟨g, _⟩ | ⟨g, _⟩
    · rcases hq with ⟨_, rfl⟩ | ⟨q, _⟩ | ⟨q, _⟩
      · exact ⟨none, 0, [], _, rfl, rfl, .inl rfl, by intro s hs; simp at hs, h3, by simp⟩
      · exact absurd q h1
      · exact absurd q h1
    · exact absurd g h2
    · exact absurd g h2

/-- Two rows of paths that read alike. -/
structure Alike2 (GA WA : Option Addr) (lg lw : List SP) (n : Nat) (W : World) : Prop where
  ps : List.map SP.p lg = List.map SP.p lw
  g : SlAt W GA (List.map SP.cell lg)
  w : SlAt W WA (List.map SP.cell lw)
  gi : PathsIn W (fun _ => False) lg
  wi : PathsIn W (fun _ => False) lw
  lg : lg.length = n
theorem Alike2.below {GA WA : Option Addr} {lg lw : List SP} {n : Nat} {W W' : World} (h : Alike2 GA WA lg lw n W) (hb : Below W.heap.size W W') : Alike2 GA WA lg lw n W' :=
  ⟨h.ps, h.g.below hb, h.w.below hb, h.gi.below hb, h.wi.below hb, h.lg⟩
theorem Alike2.at_ {GA WA : Option Addr} {lg lw : List SP} {n : Nat} {W : World} (h : Alike2 GA WA lg lw n W) {i : Nat} (hi : i < n) :
    ∃ (s1 s2 : SP) (b1 o1 b2 o2 : Nat), GA = some ⟨b1, o1, none⟩ ∧ WA = some ⟨b2, o2, none⟩ ∧ W.cell? ⟨b1, o1 + i, none⟩ = some (.slice s1.A s1.p.length s1.c) ∧ W.cell? ⟨b2, o2 + i, none⟩ = some (.slice s2.A s1.p.length s2.c) ∧
      s2.p = s1.p ∧ SlAt W s1.A (stCells s1.p) ∧ SlAt W s2.A (stCells s1.p) ∧ s1.p.length ≤ 1000 := by
  obtain ⟨s1, hg⟩ : ∃ s1, lg[i]? = some s1 := ⟨_, List.getElem?_eq_getElem (by rw [h.lg]; exact hi)⟩
  have hlw : lw.length = n := by rw [← h.lg]; have := congrArg List.length h.ps; simpa using this.symm
  obtain ⟨s2, hw⟩ : ∃ s2, lw[i]? = some s2 := ⟨_, List.getElem?_eq_getElem (by rw [hlw]; exact hi)⟩
  obtain ⟨b1, o1, e1, c1⟩ := h.g.at_ (j := i) (u := s1.cell) (by rw [List.getElem?_map, hg]; rfl)
  obtain ⟨b2, o2, e2, c2⟩ := h.w.at_ (j := i) (u := s2.cell) (by rw [List.getElem?_map, hw]; rfl)
  have hp : s2.p = s1.p := by
    have a := congrArg (fun l => l[i]?) h.ps
    simp only [List.getElem?_map, hg, hw, Option.map_some, Option.some.injEq] at a
    exact a.symm
  have g1 := h.gi _ (List.mem_of_getElem? hg)
  have g2 := h.wi _ (List.mem_of_getElem? hw)
  rw [hp] at g2
  refine ⟨s1, s2, b1, o1, b2, o2, e1, e2, c1, ?_, hp, g1.1.sl, g2.1.sl, g1.2⟩
  rw [← hp]; exact c2

set_option maxRecDepth 100000 in
set_option maxHeartbeats 4000000 in
theorem jsonPaths_walk (w : World) (hg : ErrVar w) (tv : Value) (T : PT) (hT : IsTree w tv T) (vv : Value) (x : JV) (hv : IsVal w vv x) :
    Calls Tryd.prog 4 #[tv, vv] w fun e w' => e = .returned (.bool true) ∧ Below w.heap.size w w' := by
  obtain ⟨rfl, hT⟩ := hT
  obtain ⟨rfl, hv⟩ := hv
  have HH := Lib.hid (And.intro hT (And.intro hv hg))
  clear hT hv hg
  rw [PT.value_eq]
  show Calls _ _ #[_, .agg #[.int .i64 x.k, .int .i64 x.n, .string x.s, .int .i64 x.o, .int .i64 x.p]] _ _
  go_enter Tryd.func4, Tryd.ntmps4
  go_wp2_with fail
  refine (rcheck_any T w _ HH.out.1 (((Below.refl _ _).alloc (Nat.le_refl _) _).alloc (by simp) _)).mono ?_
  rintro e w1 ⟨rfl, hb1⟩
  obtain ⟨hb, hB, hX, hs⟩ := boxes2 hb1
  have hBx : Boxes w T x w1 := ⟨hb, hB, hX⟩
  have H1 := Lib.hid hBx
  obtain ⟨n0, hn0⟩ : ∃ n0, rcheckN T.tree = n0 := ⟨_, rfl⟩
  rw [hn0]
  have HN := Lib.hid hn0
  have c0 : w1.cell? ⟨w.heap.size, 0, none⟩ = some (.int .i64 T.val.k) := hBx.t.cell 0
  have c1 : w1.cell? ⟨w.heap.size, 1, none⟩ = some (.int .i64 T.val.n) := hBx.t.cell 1
  have c2 : w1.cell? ⟨w.heap.size, 2, none⟩ = some (.string T.val.s) := hBx.t.cell 2
  have c3 : w1.cell? ⟨w.heap.size, 3, none⟩ = some (.int .i64 T.val.o) := hBx.t.cell 3
  have c4 : w1.cell? ⟨w.heap.size, 4, none⟩ = some (.int .i64 T.val.p) := hBx.t.cell 4
  have c5 : w1.cell? ⟨w.heap.size, 5, none⟩ = some (.slice T.kA T.keys.length T.kc) := hBx.t.cell 5
  have c6 : w1.cell? ⟨w.heap.size, 6, none⟩ = some (.slice T.cA T.kids.length T.cc) := hBx.t.cell 6
  have x0 : w1.cell? ⟨w.heap.size + 1, 0, none⟩ = some (.int .i64 x.k) := hBx.v.cell 0
  have x1 : w1.cell? ⟨w.heap.size + 1, 1, none⟩ = some (.int .i64 x.n) := hBx.v.cell 1
  have x2 : w1.cell? ⟨w.heap.size + 1, 2, none⟩ = some (.string x.s) := hBx.v.cell 2
  have x3 : w1.cell? ⟨w.heap.size + 1, 3, none⟩ = some (.int .i64 x.o) := hBx.v.cell 3
  have x4 : w1.cell? ⟨w.heap.size + 1, 4, none⟩ = some (.int .i64 x.p) := hBx.v.cell 4
  have hlt1 := hBx.t.lt
  have hlt2 := hBx.v.lt
  clear hb1 hb hB hX hs hn0 hBx
  go_wp2_with fail
  have hfm := rform_any (PT.bare x) w1 (PT.bare_in w1 HH.out.2.1) w1 (Below.refl _ _)
  have HFM := Lib.hid hfm
  clear hfm
  refine HFM.out.mono ?_
  clear HFM c0 c1 c2 c3 c4 c5 c6 x0 x1 x2 x3 x4 hlt1 hlt2
  rintro e w2 ⟨rfl, hb2⟩
  have hBx := H1.out.below hb2
  have H2 := Lib.hid hBx
  have c0 : w2.cell? ⟨w.heap.size, 0, none⟩ = some (.int .i64 T.val.k) := hBx.t.cell 0
  have c1 : w2.cell? ⟨w.heap.size, 1, none⟩ = some (.int .i64 T.val.n) := hBx.t.cell 1
  have c2 : w2.cell? ⟨w.heap.size, 2, none⟩ = some (.string T.val.s) := hBx.t.cell 2
  have c3 : w2.cell? ⟨w.heap.size, 3, none⟩ = some (.int .i64 T.val.o) := hBx.t.cell 3
  have c4 : w2.cell? ⟨w.heap.size, 4, none⟩ = some (.int .i64 T.val.p) := hBx.t.cell 4
  have c5 : w2.cell? ⟨w.heap.size, 5, none⟩ = some (.slice T.kA T.keys.length T.kc) := hBx.t.cell 5
  have c6 : w2.cell? ⟨w.heap.size, 6, none⟩ = some (.slice T.cA T.kids.length T.cc) := hBx.t.cell 6
  have x0 : w2.cell? ⟨w.heap.size + 1, 0, none⟩ = some (.int .i64 x.k) := hBx.v.cell 0
  have x1 : w2.cell? ⟨w.heap.size + 1, 1, none⟩ = some (.int .i64 x.n) := hBx.v.cell 1
  have x2 : w2.cell? ⟨w.heap.size + 1, 2, none⟩ = some (.string x.s) := hBx.v.cell 2
  have x3 : w2.cell? ⟨w.heap.size + 1, 3, none⟩ = some (.int .i64 x.o) := hBx.v.cell 3
  have x4 : w2.cell? ⟨w.heap.size + 1, 4, none⟩ = some (.int .i64 x.p) := hBx.v.cell 4
  have hlt1 := hBx.t.lt
  have hlt2 := hBx.v.lt
  clear hb2 hBx
  obtain ⟨fb, hfb⟩ : ∃ fb, (PT.bare x).tree.formed = fb := ⟨_, rfl⟩
  rw [hfb]
  have HF := Lib.hid hfb
  clear hfb
  by_cases h0 : n0 = 0
  · subst h0
    cases fb with
    | true =>
      go_wp2_with fail
      have hsz := (checkV_ok (show checkV T.tree = .nilIface from by rcases check_both T.tree with ⟨h, _⟩ | ⟨_, h, _⟩; exact h; exact absurd HN.out h)).2
      have hr := rpaths_any x T w HH.out.1 (rcheck_formed2 HN.out) (fun _ => False) none 0 [] w2 H2.out.bel (fun _ h => h.elim) (.inl rfl) (by simp only [List.length_nil]; omega)
      rw [PT.value_eq] at hr
      refine hr.mono ?_
      clear hr hsz c0 c1 c2 c3 c4 c5 c6 x0 x1 x2 x3 x4 hlt1 hlt2
      rintro e w3 ⟨WA, wc, lw, rfl, hlw, hW, hWi, hb3⟩
      have hBx := H2.out.below hb3
      have HW := Lib.hid (show WantP T.tree x lw 0 from .inr (.inr ⟨HN.out, HF.out, hlw, rfl⟩))
      have H3 := Lib.hid (And.intro hBx (And.intro hW hWi))
      have c0 : w3.cell? ⟨w.heap.size, 0, none⟩ = some (.int .i64 T.val.k) := hBx.t.cell 0
      have c1 : w3.cell? ⟨w.heap.size, 1, none⟩ = some (.int .i64 T.val.n) := hBx.t.cell 1
      have c2 : w3.cell? ⟨w.heap.size, 2, none⟩ = some (.string T.val.s) := hBx.t.cell 2
      have c3 : w3.cell? ⟨w.heap.size, 3, none⟩ = some (.int .i64 T.val.o) := hBx.t.cell 3
      have c4 : w3.cell? ⟨w.heap.size, 4, none⟩ = some (.int .i64 T.val.p) := hBx.t.cell 4
      have c5 : w3.cell? ⟨w.heap.size, 5, none⟩ = some (.slice T.kA T.keys.length T.kc) := hBx.t.cell 5
      have c6 : w3.cell? ⟨w.heap.size, 6, none⟩ = some (.slice T.cA T.kids.length T.cc) := hBx.t.cell 6
      have x0 : w3.cell? ⟨w.heap.size + 1, 0, none⟩ = some (.int .i64 x.k) := hBx.v.cell 0
      have x1 : w3.cell? ⟨w.heap.size + 1, 1, none⟩ = some (.int .i64 x.n) := hBx.v.cell 1
      have x2 : w3.cell? ⟨w.heap.size + 1, 2, none⟩ = some (.string x.s) := hBx.v.cell 2
      have x3 : w3.cell? ⟨w.heap.size + 1, 3, none⟩ = some (.int .i64 x.o) := hBx.v.cell 3
      have x4 : w3.cell? ⟨w.heap.size + 1, 4, none⟩ = some (.int .i64 x.p) := hBx.v.cell 4
      have hlt1 := hBx.t.lt
      have hlt2 := hBx.v.lt
      clear hlw hW hWi hb3 hBx
      go_wp2_with fail
      refine calls_at (fun W => Boxes w T x W ∧ SlAt W WA (List.map SP.cell lw) ∧ PathsIn W (fun _ => False) lw) ⟨H3.out.1, H3.out.2.1, H3.out.2.2⟩ ?_
      clear c0 c1 c2 c3 c4 c5 c6 x0 x1 x2 x3 x4 hlt1 hlt2
      rintro W3 ⟨hB3, hw3, hi3⟩
      have HB3 := Lib.hid (And.intro hB3 (And.intro hw3 hi3))
      have hp := paths_any T x W3 (HH.out.1.below hB3.bel) HH.out.2.1
      rw [PT.value_eq] at hp
      refine hp.mono ?_
      clear hp hB3 hw3 hi3
      rintro en W4 hq
      have hb4 := hq.1
      obtain ⟨GA, gc, lg, ev, rfl, hps, hg, hgi, hE, hlen⟩ := paths_like hq HW.out
      obtain ⟨n, hn⟩ : ∃ n, lg.length = n := ⟨_, rfl⟩
      have hlw : List.length (lw : List SP) = n := by rw [← hn]; have := congrArg List.length hps; simpa using this.symm
      have HA4 := Lib.hid (show Alike2 GA WA lg lw n W4 from ⟨hps, hg, HB3.out.2.1.below hb4, hgi, HB3.out.2.2.below hb4, hn⟩)
      have HB4 := Lib.hid (HB3.out.1.bel.trans (hb4.mono HB3.out.1.bel.size))
      have HE4 := Lib.hid hE
      rw [hn]
      have hnl : n ≤ 400 := by rw [← hn]; exact hlen
      rw [hlw]
      clear hq hb4 hps hg hgi hE hlen hn hlw
      go_wp2_with fail
      refine (error_like ev 0 W4 HE4.out (HH.out.2.2.below HB4.out)).mono ?_
      rintro e5 W5 ⟨rfl, hb5⟩
      have HA := Lib.hid (HA4.out.below hb5)
      have HB := Lib.hid (HB4.out.trans (hb5.mono HB4.out.size))
      clear hb5
      go_wp2_with fail
      go_loopw [11] (fun iv wr => ∃ i : Nat, iv = .int .i64 i ∧ i ≤ n ∧ Below W5.heap.size W5 wr) (fun iv _ => n - (intOf iv).toNat)
      case atStart => exact ⟨0, rfl, by omega, Below.refl _ _⟩
      case round =>
        obtain ⟨i, rfl, hi, hb⟩ := hrel
        by_cases hlt : i < n
        · have hlti : (i : Int) < (n : Int) := by omega
          obtain ⟨s1, s2, b1, o1, b2, o2, hGA, hWA, c1, c2, hpp, hs1, hs2, hpl⟩ := (HA.out.below hb).at_ hlt
          rw [hGA, hWA]
          obtain ⟨p, hp⟩ : ∃ p, s1.p = p := ⟨_, rfl⟩
          rw [hp] at c1 c2 hs1 hs2 hpl
          obtain ⟨A1, hA1⟩ : ∃ A1, s1.A = A1 := ⟨_, rfl⟩
          obtain ⟨A2, hA2⟩ : ∃ A2, s2.A = A2 := ⟨_, rfl⟩
          rw [hA1] at c1 hs1
          rw [hA2] at c2 hs2
          have HS := Lib.hid (And.intro hb (And.intro hs1 hs2))
          clear hb hs1 hs2 hp hA1 hA2 hpp hGA hWA
          go_wp2_with fail
          go_quiet ((fail))
          go_wp2_with fail
          go_loopw [12] (fun kv w3 => ∃ k : Nat, kv = .int .i64 k ∧ k ≤ p.length ∧ Below wr.heap.size wr w3) (fun kv _ => p.length - (intOf kv).toNat)
          case atStart => exact ⟨0, rfl, by omega, ⟨rfl, rfl, rfl, Nat.le_refl _, fun _ _ => rfl⟩⟩
          case round =>
            obtain ⟨k, rfl, hk, hb3⟩ := hrel
            have d1 := cell_below hb3 c1
            have d2 := cell_below hb3 c2
            by_cases hltk : k < p.length
            · have hltki : (k : Int) < (p.length : Int) := by omega
              obtain ⟨st, hst⟩ : ∃ st, p[k]? = some st := ⟨_, List.getElem?_eq_getElem hltk⟩
              obtain ⟨b3, o3, e3, g0, g1⟩ := (HS.out.2.1.below hb3).step hst
              obtain ⟨b4, o4, e4, h0, h1⟩ := (HS.out.2.2.below hb3).step hst
              rw [e3] at d1
              rw [e4] at d2
              have H3 := Lib.hid hb3
              clear hb3 hst e3 e4 c1 c2
              go_wp2_with fail
              go_quiet ((fail))
              go_wp2_with fail
              go_roundw
              case rel => exact ⟨k + 1, by go_num, by omega, ⟨H3.out.os, H3.out.tape, H3.out.output, H3.out.size, H3.out.block⟩⟩
              case measure => simp [intOf] <;> omega
            · have hltki : ¬ (k : Int) < (p.length : Int) := by omega
              have H3 := Lib.hid (HS.out.1.trans (hb3.mono HS.out.1.size))
              clear hb3 c1 c2
              go_wp2_with fail
              go_roundw
              case rel => exact ⟨i + 1, by go_num, by omega, H3.out⟩
              case measure => simp [intOf] <;> omega
        · have hlti : ¬ (i : Int) < (n : Int) := by omega
          have H3 := Lib.hid (HB.out.trans (hb.mono HB.out.size))
          clear hb
          go_wp2_with fail
          go_ret
          exact ⟨rfl, H3.out⟩
    | false =>
      have HW := Lib.hid (show WantP T.tree x [] 1 from .inr (.inl ⟨HN.out, HF.out, rfl, rfl⟩))
      go_wp2_with fail
      refine calls_at (fun W => Boxes w T x W ∧ SlAt W none (List.map SP.cell []) ∧ PathsIn W (fun _ => False) []) ⟨H2.out, .inl rfl, by intro s hs; simp at hs⟩ ?_
      clear c0 c1 c2 c3 c4 c5 c6 x0 x1 x2 x3 x4 hlt1 hlt2
      rintro W3 ⟨hB3, hw3, hi3⟩
      have HB3 := Lib.hid (And.intro hB3 (And.intro hw3 hi3))
      have hp := paths_any T x W3 (HH.out.1.below hB3.bel) HH.out.2.1
      rw [PT.value_eq] at hp
      refine hp.mono ?_
      clear hp hB3 hw3 hi3
      rintro en W4 hq
      have hb4 := hq.1
      obtain ⟨GA, gc, lg, ev, rfl, hps, hg, hgi, hE, hlen⟩ := paths_like hq HW.out
      obtain ⟨n, hn⟩ : ∃ n, lg.length = n := ⟨_, rfl⟩
      have hlw : List.length ([] : List SP) = n := by rw [← hn]; have := congrArg List.length hps; simpa using this.symm
      have HA4 := Lib.hid (show Alike2 GA none lg [] n W4 from ⟨hps, hg, HB3.out.2.1.below hb4, hgi, HB3.out.2.2.below hb4, hn⟩)
      have HB4 := Lib.hid (HB3.out.1.bel.trans (hb4.mono HB3.out.1.bel.size))
      have HE4 := Lib.hid hE
      rw [hn]
      have hnl : n ≤ 400 := by rw [← hn]; exact hlen
      obtain rfl : n = 0 := hlw.symm
      clear hq hb4 hps hg hgi hE hlen hn hlw
      go_wp2_with fail
      refine (error_like ev 1 W4 HE4.out (HH.out.2.2.below HB4.out)).mono ?_
      rintro e5 W5 ⟨rfl, hb5⟩
      have HA := Lib.hid (HA4.out.below hb5)
      have HB := Lib.hid (HB4.out.trans (hb5.mono HB4.out.size))
      clear hb5
      go_wp2_with fail
      go_loopw [11] (fun iv wr => iv = .int .i64 0 ∧ Below W5.heap.size W5 wr) (fun _ _ => 0)
      case atStart => exact ⟨rfl, Below.refl _ _⟩
      case round =>
        obtain ⟨rfl, hb⟩ := hrel
        have H3 := Lib.hid (HB.out.trans (hb.mono HB.out.size))
        clear hb
        go_wp2_with fail
        go_ret
        exact ⟨rfl, H3.out⟩
  · have h0b : (n0 == 0) = false := by simpa using h0
    have HW := Lib.hid (show WantP T.tree x [] n0 from .inl ⟨by rw [HN.out]; exact h0, rfl, HN.out.symm⟩)
    go_wp2_with fail
    refine calls_at (fun W => Boxes w T x W ∧ SlAt W none (List.map SP.cell []) ∧ PathsIn W (fun _ => False) []) ⟨H2.out, .inl rfl, by intro s hs; simp at hs⟩ ?_
    clear c0 c1 c2 c3 c4 c5 c6 x0 x1 x2 x3 x4 hlt1 hlt2 h0b
    rintro W3 ⟨hB3, hw3, hi3⟩
    have HB3 := Lib.hid (And.intro hB3 (And.intro hw3 hi3))
    have hp := paths_any T x W3 (HH.out.1.below hB3.bel) HH.out.2.1
    rw [PT.value_eq] at hp
    refine hp.mono ?_
    clear hp hB3 hw3 hi3
    rintro en W4 hq
    have hb4 := hq.1
    obtain ⟨GA, gc, lg, ev, rfl, hps, hg, hgi, hE, hlen⟩ := paths_like hq HW.out
    obtain ⟨n, hn⟩ : ∃ n, lg.length = n := ⟨_, rfl⟩
    have hlw : List.length ([] : List SP) = n := by rw [← hn]; have := congrArg List.length hps; simpa using this.symm
    have HA4 := Lib.hid (show Alike2 GA none lg [] n W4 from ⟨hps, hg, HB3.out.2.1.below hb4, hgi, HB3.out.2.2.below hb4, hn⟩)
    have HB4 := Lib.hid (HB3.out.1.bel.trans (hb4.mono HB3.out.1.bel.size))
    have HE4 := Lib.hid hE
    rw [hn]
    have hnl : n ≤ 400 := by rw [← hn]; exact hlen
    obtain rfl : n = 0 := hlw.symm
    clear hq hb4 hps hg hgi hE hlen hn hlw
    go_wp2_with fail
    refine (error_like ev n0 W4 HE4.out (HH.out.2.2.below HB4.out)).mono ?_
    rintro e5 W5 ⟨rfl, hb5⟩
    have HA := Lib.hid (HA4.out.below hb5)
    have HB := Lib.hid (HB4.out.trans (hb5.mono HB4.out.size))
    clear hb5
    go_wp2_with fail
    go_loopw [11] (fun iv wr => iv = .int .i64 0 ∧ Below W5.heap.size W5 wr) (fun _ _ => 0)
    case atStart => exact ⟨rfl, Below.refl _ _⟩
    case round =>
      obtain ⟨rfl, hb⟩ := hrel
      have H3 := Lib.hid (HB.out.trans (hb.mono HB.out.size))
      clear hb
      go_wp2_with fail
      go_ret
      exact ⟨rfl, H3.out⟩
end Go.Proofs.YtljemaapicaioaaDoor
