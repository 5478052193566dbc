/- json.Get: the contract. -/
import Derived.Test.YtljemaapicaioaaDoorIndex
import Derived.Test.YtljemaapicaioaaDoorJsonCheck
import Derived.Laws.ResultCell
namespace Go.Proofs.YtljemaapicaioaaDoor
open Go.RowKit
set_option linter.unusedVariables false
set_option linter.unusedSimpArgs false

/-- A struct and one more result. -/
theorem results_row_tmp {P : Program} {fn : Func} {p u : Tmp} {ty : TypeId} (h : fn.results = #[.cell p ty, .tmp u]) (tmps : Array Value) (w : World) (g : Nat) (t : TypeId) (cs : Array Value) (d : TypeDesc)
    (hp : tmps.getD p undef = .pointer (some ⟨g, 0, none⟩)) (hg : Blk w g t cs)
    (hu : P.underlying ty = some d) (hd : (match d with | .struct _ | .array _ _ => true | _ => false) = true) (hi : (P.info? ty).map (·.size) = some cs.size) :
    (results fn tmps).run P w = .ok (.tuple #[.agg cs, tmps.getD u undef]) w := by
  have hp' : tmps[p]?.getD undef = .pointer (some ⟨g, 0, none⟩) := by simpa using hp
  simp [results, h, hp', asAddr, run_loadVar_row w g t ty cs (0, 0) d hg hu hd hi]

theorem boxes2 {w w' : World} {cs cs2 : Array Value} {t t2 : TypeId} (h : Below ((w.alloc (.cells cs t (0, 0))).alloc (.cells cs2 t2 (0, 0))).heap.size ((w.alloc (.cells cs t (0, 0))).alloc (.cells cs2 t2 (0, 0))) w') :
    Below w.heap.size w w' ∧ Blk w' w.heap.size t cs ∧ Blk w' (w.heap.size + 1) t2 cs2 ∧ w.heap.size + 2 ≤ w'.heap.size := by
  refine ⟨below_al2 h, ((Blk.new w t cs).alloc _).below h (by simp; omega), (Blk.newer (w.alloc (.cells cs t (0, 0))) t2 cs2 (g := w.heap.size + 1) (by simp)).below h (by simp), ?_⟩
  have := h.size
  simp at this
  omega
/-- What Get gives. -/
def GetQ (w : World) (T : PT) (p : List St) (e : Ending) (w' : World) : Prop :=
  Below w.heap.size w w' ∧ ((checkV T.tree ≠ .nilIface ∧ e = .returned (.tuple #[zTree, checkV T.tree])) ∨
    (checkV T.tree = .nilIface ∧ ((T.tree.get p = none ∧ e = .returned (.tuple #[zTree, .iface 100 (.int .i64 6)])) ∨
      ∃ T' : PT, T.tree.get p = some T'.tree ∧ e = .returned (.tuple #[T'.value, .nilIface]) ∧ OwnJ 9 47 w' T' ∧ T'.own.Nodup ∧ ∀ b ∈ T'.own, w.heap.size ≤ b)))

theorem checkV_ok {t : JT} (h : checkV t = .nilIface) : t.formed = true ∧ t.size ≤ 400 := by
  unfold checkV at h
  split at h
  · split at h
    · rename_i h1 h2; exact ⟨h2, h1⟩
    · cases h
  · cases h
theorem checkV_cases (t : JT) : checkV t = .nilIface ∨ ∃ n, checkV t = .iface 100 (.int .i64 n) := by
  unfold checkV
  split
  · split
    · exact .inl rfl
    · exact .inr ⟨1, rfl⟩
  · exact .inr ⟨4, rfl⟩

set_option maxRecDepth 100000 in
set_option maxHeartbeats 2000000 in
theorem get_any (T : PT) (A : Option Addr) (c : Nat) (p : List St) (w : World) (hT : InJ w T) (hA : SlAt w A (stCells p)) (hl : p.length ≤ maxLen) :
    Calls Tryd.prog 23 #[T.value, .slice A p.length c] w (GetQ w T p) := by
  have HC := Lib.hid (fun (w1 : World) (h1 : Below w.heap.size w w1) => check_any T w w1 hT h1)
  have HH := Lib.hid (And.intro hT (And.intro hA hl))
  clear hT hA hl
  unfold PT.value PT.cells JV.cells
  go_enter Tryd.func23, Tryd.ntmps23
  go_wp2_with fail
  have hA1 := ((Below.refl w.heap.size w).alloc (Nat.le_refl _) (.cells T.cells.toArray 47)).alloc (by simp) (.cells #[.int .i64 0, .int .i64 0, .string ⟨#[]⟩, .int .i64 0, .int .i64 0, .slice none 0 0, .slice none 0 0] 47)
  refine (HC.out _ hA1).mono ?_
  clear hA1
  rintro e w1 ⟨rfl, hb1⟩
  obtain ⟨hb, hB, hR, hs⟩ := boxes2 hb1
  have H1 := Lib.hid (And.intro hb (And.intro hB hR))
  clear hb1 hb hB hR HC
  have r0 : w1.cell? ⟨w.heap.size + 1, 0, none⟩ = some (.int .i64 0) := H1.out.2.2.cell 0
  have r1 : w1.cell? ⟨w.heap.size + 1, 1, none⟩ = some (.int .i64 0) := H1.out.2.2.cell 1
  have r2 : w1.cell? ⟨w.heap.size + 1, 2, none⟩ = some (.string ⟨#[]⟩) := H1.out.2.2.cell 2
  have r3 : w1.cell? ⟨w.heap.size + 1, 3, none⟩ = some (.int .i64 0) := H1.out.2.2.cell 3
  have r4 : w1.cell? ⟨w.heap.size + 1, 4, none⟩ = some (.int .i64 0) := H1.out.2.2.cell 4
  have r5 : w1.cell? ⟨w.heap.size + 1, 5, none⟩ = some (.slice none 0 0) := H1.out.2.2.cell 5
  have r6 : w1.cell? ⟨w.heap.size + 1, 6, none⟩ = some (.slice none 0 0) := H1.out.2.2.cell 6
  have zr := H1.out.2.2.frozen
  have hcv := checkV_cases T.tree
  obtain ⟨cv, hcv'⟩ : ∃ cv, checkV T.tree = cv := ⟨_, rfl⟩
  rw [hcv'] at hcv ⊢
  have HV := Lib.hid hcv'
  clear hcv'
  rcases hcv with rfl | ⟨n, rfl⟩
  · clear r0 r1 r2 r3 r4 r5 r6 zr
    go_wp2_with fail
    obtain ⟨hfm, hsz⟩ := checkV_ok HV.out
    have HFS := Lib.hid (And.intro hfm hsz)
    have HCL := Lib.hid (fun (X : PT) (w2 : World) (h1 : Below w.heap.size w w2) (hx : InJ w X) (h2 : X.tree.formed = true) (h3 : X.tree.size ≤ 400) => clone_any X w hx h2 h3 w2 h1)
    refine (find_any T w.heap.size A c p w1 (AtP.of_blk H1.out.2.1) (HH.out.1.below H1.out.1) hfm hsz (HH.out.2.1.below H1.out.1) HH.out.2.2).mono ?_
    clear hfm hsz
    rintro e w2 ⟨hb2, hr⟩
    have hbb := H1.out.1.trans (hb2.mono H1.out.1.size)
    have hR2 := H1.out.2.2.below hb2 H1.out.2.2.lt
    have hs2 := Nat.le_trans hs hb2.size
    have H2 := Lib.hid (And.intro hbb hR2)
    clear hbb hR2 hb2 H1
    have zr := H2.out.2.frozen
    rcases hr with ⟨is, X, b, o, rfl, hL, _, hP⟩ | ⟨rfl, hn, _⟩
    · have q0 : w2.cell? ⟨b, o, none⟩ = some (.int .i64 X.val.k) := hP 0 (by omega)
      have q1 : w2.cell? ⟨b, o + 1, none⟩ = some (.int .i64 X.val.n) := hP 1 (by omega)
      have q2 : w2.cell? ⟨b, o + 2, none⟩ = some (.string X.val.s) := hP 2 (by omega)
      have q3 : w2.cell? ⟨b, o + 3, none⟩ = some (.int .i64 X.val.o) := hP 3 (by omega)
      have q4 : w2.cell? ⟨b, o + 4, none⟩ = some (.int .i64 X.val.p) := hP 4 (by omega)
      have q5 : w2.cell? ⟨b, o + 5, none⟩ = some (.slice X.kA X.keys.length X.kc) := hP 5 (by omega)
      have q6 : w2.cell? ⟨b, o + 6, none⟩ = some (.slice X.cA X.kids.length X.cc) := hP 6 (by omega)
      have HX := Lib.hid (And.intro (HCL.out X w2 H2.out.1 (hL.inJ HH.out.1) (hL.formed HFS.out.1) (Nat.le_trans hL.size HFS.out.2)) hL)
      clear hL hP
      go_wp2_with fail
      clear q0 q1 q2 q3 q4 q5 q6 zr
      refine HX.out.1.mono ?_
      rintro e w3 ⟨T', rfl, hb3, ho3, hn3, hl3, ht3⟩
      have hR3 := H2.out.2.below hb3 H2.out.2.lt
      have hB3 := H2.out.1.trans (hb3.mono H2.out.1.size)
      have hl3' : ∀ b ∈ T'.own, w.heap.size + 2 ≤ b := fun b hb => Nat.le_trans hs2 (hl3 b hb)
      have H3 := Lib.hid (And.intro hB3 (And.intro hR3 (And.intro ho3 (And.intro hn3 (And.intro hl3' ht3)))))
      clear hb3 ho3 hn3 hl3 ht3 hR3 hB3 hl3'
      have zr := H3.out.2.1.frozen
      have r0 : w3.cell? ⟨w.heap.size + 1, 0, none⟩ = some (.int .i64 0) := H3.out.2.1.cell 0
      have r1 : w3.cell? ⟨w.heap.size + 1, 1, none⟩ = some (.int .i64 0) := H3.out.2.1.cell 1
      have r2 : w3.cell? ⟨w.heap.size + 1, 2, none⟩ = some (.string ⟨#[]⟩) := H3.out.2.1.cell 2
      have r3 : w3.cell? ⟨w.heap.size + 1, 3, none⟩ = some (.int .i64 0) := H3.out.2.1.cell 3
      have r4 : w3.cell? ⟨w.heap.size + 1, 4, none⟩ = some (.int .i64 0) := H3.out.2.1.cell 4
      have r5 : w3.cell? ⟨w.heap.size + 1, 5, none⟩ = some (.slice none 0 0) := H3.out.2.1.cell 5
      have r6 : w3.cell? ⟨w.heap.size + 1, 6, none⟩ = some (.slice none 0 0) := H3.out.2.1.cell 6
      rw [PT.value_eq]
      go_wp2_with fail
      clear r0 r1 r2 r3 r4 r5 r6
      refine bodyPost_ret (results_row_tmp Tryd.results23 _ _ (w.heap.size + 1) _ _ _ rfl (blk7 _ _ _ _ _ _ _ H3.out.2.1) Tryd.underlying47 rfl (by kernel_rfl)) rfl ?_
      have ho := only7 w3 (w.heap.size + 1) (.int .i64 T'.val.k) (.int .i64 T'.val.n) (.string T'.val.s) (.int .i64 T'.val.o) (.int .i64 T'.val.p) (.slice T'.kA T'.keys.length T'.kc) (.slice T'.cA T'.kids.length T'.cc) 0 1 2 3 4 5 6
      refine ⟨H3.out.1.trans (ho.below H3.out.1.size (fun q hq e => by omega)), .inr ⟨HV.out, .inr ⟨T', ?_, rfl, H3.out.2.2.1.only ho ?_, H3.out.2.2.2.1, ?_⟩⟩⟩
      · have := Lead.get [] HX.out.2
        rw [List.append_nil] at this
        rw [this, H3.out.2.2.2.2.2]
        rfl
      · intro b hb e
        have := H3.out.2.2.2.2.1 b hb
        omega
      · intro b hb
        have := H3.out.2.2.2.2.1 b hb
        omega
    · have HN := Lib.hid hn
      clear hn
      have r0 : w2.cell? ⟨w.heap.size + 1, 0, none⟩ = some (.int .i64 0) := H2.out.2.cell 0
      have r1 : w2.cell? ⟨w.heap.size + 1, 1, none⟩ = some (.int .i64 0) := H2.out.2.cell 1
      have r2 : w2.cell? ⟨w.heap.size + 1, 2, none⟩ = some (.string ⟨#[]⟩) := H2.out.2.cell 2
      have r3 : w2.cell? ⟨w.heap.size + 1, 3, none⟩ = some (.int .i64 0) := H2.out.2.cell 3
      have r4 : w2.cell? ⟨w.heap.size + 1, 4, none⟩ = some (.int .i64 0) := H2.out.2.cell 4
      have r5 : w2.cell? ⟨w.heap.size + 1, 5, none⟩ = some (.slice none 0 0) := H2.out.2.cell 5
      have r6 : w2.cell? ⟨w.heap.size + 1, 6, none⟩ = some (.slice none 0 0) := H2.out.2.cell 6
      go_wp2_with fail
      clear r0 r1 r2 r3 r4 r5 r6
      refine bodyPost_ret (results_row_tmp Tryd.results23 _ _ (w.heap.size + 1) _ _ _ rfl (blk7 _ _ _ _ _ _ _ H2.out.2) Tryd.underlying47 rfl (by kernel_rfl)) rfl ?_
      exact ⟨H2.out.1.trans ((only7 w2 (w.heap.size + 1) _ _ _ _ _ _ _ _ _ _ _ _ _ _).below H2.out.1.size (fun q hq e => by omega)), .inr ⟨HV.out, .inl ⟨HN.out, rfl⟩⟩⟩
  · go_wp2_with fail
    clear r0 r1 r2 r3 r4 r5 r6
    refine bodyPost_ret (results_row_tmp Tryd.results23 _ _ (w.heap.size + 1) _ _ _ rfl (blk7 _ _ _ _ _ _ _ H1.out.2.2) Tryd.underlying47 rfl (by kernel_rfl)) rfl ?_
    refine ⟨H1.out.1.trans ((only7 w1 (w.heap.size + 1) _ _ _ _ _ _ _ _ _ _ _ _ _ _).below H1.out.1.size (fun q hq e => by omega)), .inl ⟨by rw [HV.out]; simp, by rw [HV.out]; rfl⟩⟩
end Go.Proofs.YtljemaapicaioaaDoor
