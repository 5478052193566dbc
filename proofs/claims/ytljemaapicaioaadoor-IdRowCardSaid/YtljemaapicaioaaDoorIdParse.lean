/- package id: Parse at names that Name gives: contracts. -/
import Derived.Test.YtljemaapicaioaaDoorIdName
namespace Go.Proofs.YtljemaapicaioaaDoor
open Go.RowKit
set_option linter.unusedVariables false
set_option linter.unusedSimpArgs false

/-- A struct and one more result. -/
theorem results_row_tmp2 {P : Program} {fn : Func} {p u : Tmp} {ty : TypeId} (h : fn.results = #[.cell p ty, .tmp u]) (tmps : Array Value) (w : World) (g : Nat) (t : TypeId) (cs : Array Value) (d : TypeDesc)
    (hp : tmps.getD p undef = .pointer (some ⟨g, 0, none⟩)) (hg : Blk w g t cs)
    (hu : P.underlying ty = some d) (hd : (match d with | .struct _ | .array _ _ => true | _ => false) = true) (hi : (P.info? ty).map (·.size) = some cs.size) :
    (results fn tmps).run P w = .ok (.tuple #[.agg cs, tmps.getD u undef]) w := by
  have hp' : tmps[p]?.getD undef = .pointer (some ⟨g, 0, none⟩) := by simpa using hp
  simp [results, h, hp', asAddr, run_loadVar_row w g t ty cs (0, 0) d hg hu hd hi]

/-- What Parse gives. -/
def ParseQ (w : World) (o p : Int) (e : Ending) (w' : World) : Prop := e = .returned (.tuple #[.agg #[.int .i64 o, .int .i64 p], .nilIface]) ∧ Below w.heap.size w w'

set_option maxRecDepth 100000 in
theorem parse_root (w : World) : Calls Tryd.prog 39 #[.string ⟨#[114, 111, 111, 116]⟩] w (ParseQ w 0 0) := by
  go_enter Tryd.func39, Tryd.ntmps39
  go_wp2_with fail
  refine bodyPost_ret (results_row_tmp2 Tryd.results39 _ _ w.heap.size _ _ _ rfl (Blk.new w 41 #[.int .i64 0, .int .i64 0]) Tryd.underlying41 rfl (by kernel_rfl)) rfl ?_
  exact ⟨rfl, (Below.refl _ _).alloc (Nat.le_refl _) _⟩

set_option maxRecDepth 100000 in
set_option maxHeartbeats 800000 in
theorem parse_name (nm : ByteArray) (u a : Nat) (w : World) (hnm : nm.data.toList = Lib.decDigits u ++ 64 :: Lib.decDigits a) (hu : 1 ≤ u) (hu7 : u ≤ 1000000) (ha : 1 ≤ a) (ha7 : a ≤ 99) (m : Int) (hm : w.cell? ⟨1, 0, none⟩ = some (.int .i64 m)) :
    Calls Tryd.prog 39 #[.string nm] w (ParseQ w u a) := by
  have hsz : nm.size ≤ 15 := by
    have h1 : nm.size = nm.data.toList.length := rfl
    rw [h1, hnm, List.length_append, List.length_cons]
    have := dd_len 6 u (by omega)
    have := dd_len 6 a (by omega)
    omega
  have hroot : (nm.toList == [114, 111, 111, 116]) = false := by
    rw [ByteArray.toList_eq, hnm]
    cases hd : Lib.decDigits u with
    | nil => exact absurd hd (dd_ne u)
    | cons b r =>
      have hb := dd_digit u b (by rw [hd]; simp)
      have : b ≠ 114 := by rintro rfl; simp at hb
      simp [this]
  obtain ⟨su, hsu⟩ : ∃ su, (⟨(Lib.decDigits u).toArray⟩ : ByteArray) = su := ⟨_, rfl⟩
  obtain ⟨sa, hsa⟩ : ∃ sa, (⟨(Lib.decDigits a).toArray⟩ : ByteArray) = sa := ⟨_, rfl⟩
  have hcut : ∀ w1, Below w.heap.size w w1 → Calls Tryd.prog 73 #[.string nm, .string ⟨#[64]⟩] w1 fun e w' => e = .returned (.tuple #[.string su, .string sa, .bool true]) ∧ Below w1.heap.size w1 w' := by
    intro w1 hb
    refine (Tryd.strings_Cut nm ⟨#[64]⟩ m w1 (by omega) (by exact (hb.cell (p := ⟨1, 0, none⟩) (cell_lt hm)).trans hm)).mono ?_
    rintro e w' ⟨rfl, n, rfl⟩
    have hc := name_cut u a
    refine ⟨?_, ⟨rfl, rfl, rfl, Nat.le_refl _, fun _ _ => rfl⟩⟩
    rw [hnm, show (⟨#[64]⟩ : ByteArray).data.toList = [64] from rfl, hc, hsu, hsa]
  have hdu : DigS su u := ⟨by rw [← hsu], hu, by omega⟩
  have hda : DigS sa a := ⟨by rw [← hsa], ha, by omega⟩
  have HD1 := Lib.hid (fun w1 => digits_num su u hdu w1)
  have HD2 := Lib.hid (fun w1 => digits_num sa a hda w1)
  have HC := Lib.hid hcut
  have hreal : idReal (u : Int) (a : Int) = true := by simp [idReal]; omega
  have HRL := Lib.hid (fun w1 => by have h := real_any (u : Int) (a : Int) w1; rw [hreal] at h; exact h)
  clear hnm hsz hsu hsa hcut hdu hda hreal hm
  go_enter Tryd.func39, Tryd.ntmps39
  go_wp2_with fail
  refine (HC.out _ ((Below.refl _ _).alloc (Nat.le_refl _) _)).mono ?_
  rintro e w1 ⟨rfl, hb1⟩
  have hB1 := (Blk.new w 41 #[.int .i64 0, .int .i64 0]).below hb1 (by simp)
  have H1 := Lib.hid (And.intro (((Below.refl _ _).alloc (Nat.le_refl _) _).trans (hb1.mono (by simp)) : Below w.heap.size w w1) hB1)
  clear hb1 hB1
  go_wp2_with fail
  refine (HD1.out _).mono ?_
  rintro e w2 ⟨rfl, hb2⟩
  have H2 := Lib.hid (And.intro (H1.out.1.trans (hb2.mono H1.out.1.size)) (H1.out.2.below hb2 H1.out.2.lt))
  clear hb2
  go_wp2_with fail
  refine (HD2.out _).mono ?_
  rintro e w3 ⟨rfl, hb3⟩
  have H3 := Lib.hid (And.intro (H2.out.1.trans (hb3.mono H2.out.1.size)) (H2.out.2.below hb3 H2.out.2.lt))
  clear hb3
  go_wp2_with fail
  refine (HRL.out _).mono ?_
  rintro e w4 ⟨rfl, hb4⟩
  have hX4 := (Blk.new w3 41 #[.int .i64 u, .int .i64 a]).below hb4 (by simp)
  have hR4 := (H3.out.2.alloc (.cells #[.int .i64 u, .int .i64 a] 41)).below hb4 (H3.out.2.alloc _).lt
  have hbb : Below w.heap.size w w4 := H3.out.1.trans ((((Below.refl _ w3).alloc (Nat.le_refl _) _).trans (hb4.mono (by simp))).mono H3.out.1.size)
  have x0 : w4.cell? ⟨w3.heap.size, 0, none⟩ = some (.int .i64 u) := hX4.cell 0
  have x1 : w4.cell? ⟨w3.heap.size, 1, none⟩ = some (.int .i64 a) := hX4.cell 1
  have r0 : w4.cell? ⟨w.heap.size, 0, none⟩ = some (.int .i64 0) := hR4.cell 0
  have r1 : w4.cell? ⟨w.heap.size, 1, none⟩ = some (.int .i64 0) := hR4.cell 1
  have zr := hR4.frozen
  have H4 := Lib.hid (And.intro hbb hR4)
  clear hb4 hX4 hR4 hbb
  go_wp2_with fail
  clear x0 x1 r0 r1
  have hB : Blk ((w4.setCell ⟨w.heap.size, 0, none⟩ (.int .i64 u)).setCell ⟨w.heap.size, 1, none⟩ (.int .i64 a)) w.heap.size 41 #[.int .i64 u, .int .i64 a] := by
    have := (H4.out.2.set_ 0 (.int .i64 u)).set_ 1 (.int .i64 a)
    simpa using this
  refine bodyPost_ret (results_row_tmp2 Tryd.results39 _ _ w.heap.size _ _ _ rfl hB Tryd.underlying41 rfl (by kernel_rfl)) rfl ?_
  exact ⟨rfl, (H4.out.1.setCell (Nat.le_refl _) _).setCell (Nat.le_refl _) _⟩
end Go.Proofs.YtljemaapicaioaaDoor
