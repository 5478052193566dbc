/- BloomKeeps: the walk. -/
import Derived.Test.YtnhmbpeicgnjaaaBloomPlain
import Derived.Test.YtnhmbpeicgnjaaaOpen
namespace Go.Proofs.Ytnhmbpeicgnjaaa
open Go.RowKit Go.ChangeShapes Go.WideShapes
set_option linter.unusedVariables false

/-- A slice of refs that came in. -/
def IsRefs (W : World) (v : Value) (l : List (Int × Int)) : Prop := ∃ A c, v = .slice A l.length c ∧ SlAt W A (refs l) ∧ (∀ r ∈ l, I64 r.1 ∧ I64 r.2) ∧ l.length ≤ maxLen

theorem open_IsRefs {H : Type} {enc : TypeId × Value → H} {W : World} {b0 base : Nat} {spare : Nat → Bool} {held : Bool} {r : Reach} {v : Value} {d : DataW H} {p : List MemPlace} (hv : Value.okWide Try.prog W r b0 26 v) (h : DataW.Trod enc Try.prog W base spare held 26 v d p) :
    ∃ l, IsRefs W v l := by
  obtain ⟨a, len, cap, rfl⟩ := okWide_slice Try.underlying26 hv
  obtain ⟨fuel, hf⟩ := h
  obtain ⟨A, c, l, hcs, h1, h2, h3⟩ := trod_refs Try.underlying26 Try.underlying32 (by kernel_rfl) rfl rfl (by kernel_rfl) (by kernel_rfl) Try.underlying3 Try.underlying3 hf
  simp [Value.cells] at hcs
  obtain ⟨rfl, rfl, rfl⟩ := hcs
  exact ⟨l, _, _, rfl, h1, h2, h3⟩

def fact8 : List Int := makeBits 8 [(1, 1)]

set_option maxRecDepth 100000 in
set_option maxHeartbeats 800000 in
theorem bloomKeeps_walk (w : World) (v : Value) (l : List (Int × Int)) (hv : IsRefs w v l) (n : Int) (wn : (Lit.int .i64 n).wf = true) :
    Calls Try.prog 4 #[v, .int .i64 n] w fun e w' => e = .returned (.bool true) ∧ Below w.heap.size w w' := by
  obtain ⟨A, c, rfl, hA, _, hlen⟩ := hv
  have H1 := make_has (n := 8) (by decide) [(1, 1)]
  have hok1 : allOk [(1, 1)] = true := by decide
  have HOK := Lib.hid hok1
  have HH1 := Lib.hid H1
  clear H1 hok1
  go_enter Try.func4, Try.ntmps4
  go_wp2_with fail
  refine (make_ok _ _ [(1, 1)] 8 (by decide) (by decide) _ (.inr ⟨w.heap.size, 0, rfl, ?_⟩)).mono ?_
  · intro j u hu
    match j, hu with
    | 0, hu => simpa [refs] using hu
    | 1, hu => simpa [refs] using hu
  rintro e w1 (⟨-, g, rfl, hs1, hb1⟩ | ⟨hbad, -⟩)
  rotate_left
  · rw [HOK.out] at hbad; cases hbad
  obtain ⟨bs, hbs⟩ : ∃ bs, makeBits 8 [(1, 1)] = bs := ⟨_, rfl⟩
  rw [hbs] at hs1 HH1
  rw [show ((8 : Int) / 8).toNat = bs.length from HH1.out.1.symm]
  go_wp2_with fail
  have hl1 : bs.length = 1 := HH1.out.1
  refine (has_ok _ _ bs 1 1 (by decide) (by omega) (by omega) _ hs1).mono ?_
  have hh := HH1.out.2 (1, 1) (by simp)
  rw [show (8 : Int) * bs.length = 8 from by omega, show hasBits bs (bplaces (1 * 1000003 + 1) 8 3) = true from hh]
  rintro e w2 ⟨rfl, hb2⟩
  have hbb : Below w.heap.size w w2 := (((Below.refl _ _).alloc (Nat.le_refl _) _).trans (hb1.mono (by simp))).trans (hb2.mono (by have := hb1.size; simp at this; omega))
  have hA2 := hA.below hbb
  clear hb1 hb2 hs1 hh hbs HH1 HOK hA hl1
  cases hm : manyB n with
  | false =>
    go_wp2_with fail
    refine (make_no1 _ _ l n hm _).mono ?_
    rintro e w3 ⟨rfl, hb3⟩
    go_wp2_with fail
    go_ret
    exact ⟨rfl, hbb.trans (hb3.mono hbb.size)⟩
  | true =>
    by_cases hl : 400 < l.length
    · go_wp2_with fail
      refine (make_no4 _ _ l n hm hl _).mono ?_
      rintro e w3 ⟨rfl, hb3⟩
      go_wp2_with fail
      go_ret
      exact ⟨rfl, hbb.trans (hb3.mono hbb.size)⟩
    · go_wp2_with fail
      refine (make_ok _ _ l n hm (by omega) _ hA2).mono ?_
      rintro e w3 (⟨hall, g, rfl, hs3, hb3⟩ | ⟨hall, rfl, hb3⟩)
      · have hbb3 := hbb.trans (hb3.mono hbb.size)
        have hA3 := hA2.below hb3
        have hn : 8 ≤ n ∧ n ≤ 4096 ∧ n % 8 = 0 := by simp [manyB] at hm; omega
        obtain ⟨m1, m2⟩ := make_has hm l
        obtain ⟨bs, hbs⟩ : ∃ bs, makeBits n l = bs := ⟨_, rfl⟩
        rw [hbs] at hs3 m1 m2
        rw [← m1]
        have hn8 : n = 8 * (bs.length : Int) := by omega
        have hk1 : 1 ≤ bs.length := by omega
        have hk2 : bs.length ≤ 512 := by omega
        have M := Lib.hid m2
        have HN := Lib.hid hn8
        have HALL := Lib.hid hall
        clear m1 m2 hbs hn hn8 hall hb3 hm
        go_wp2_with fail
        go_loopw [11] (fun i wr => ∃ k : Nat, k ≤ l.length ∧ i = .int .i64 k ∧ Below w3.heap.size w3 wr) (fun i _ => l.length - (intOf i).toNat)
        case atStart => exact ⟨0, by omega, rfl, Below.refl _ _⟩
        case round =>
          obtain ⟨k, hk, rfl, hbr⟩ := hrel
          have hmax : l.length ≤ 9223372036854775807 := by unfold maxLen at hlen; omega
          by_cases hlt : k < l.length
          · obtain ⟨b, off, r, rfl, hr, hx, hy⟩ := (hA3.below hbr).ref hlt
            have hmem := List.mem_of_getElem? hr
            have hrok : refB r.1 r.2 = true := by
              have := HALL.out
              simp only [allOk, List.all_eq_true] at this
              exact this r hmem
            have hfin : hasBits bs (bplaces (r.1 * 1000003 + r.2) (8 * (bs.length : Int)) 3) = true := by
              have := M.out r hmem
              rwa [HN.out] at this
            clear hr
            go_wp2_with fail
            refine (has_ok _ _ bs r.1 r.2 hrok hk1 hk2 _ (hs3.below hbr)).mono ?_
            rw [hfin]
            rintro e w4 ⟨rfl, hb4⟩
            clear hx hy hfin
            have hb5 := hbr.trans (hb4.mono hbr.size)
            go_wp2_with fail
            go_roundw
            case rel => exact ⟨k + 1, by omega, by go_num, hb5⟩
            case measure => simp [intOf]; omega
          · go_wp2_with fail
            go_ret
            exact ⟨rfl, hbb3.trans (hbr.mono hbb3.size)⟩
      · go_wp2_with fail
        go_ret
        exact ⟨rfl, hbb.trans (hb3.mono hbb.size)⟩
end Go.Proofs.Ytnhmbpeicgnjaaa
