/- NumN, Build. -/
import Derived.Test.YtpeckpiidgkgoaaGreatDoorPg9
import Derived.Lib.AtoiAllCases
import Derived.Test.YtpeckpiidgkgoaaGreatDoorPg5
import Derived.Test.YtpeckpiidgkgoaaGreatDoorPg6
import Derived.Test.YtpeckpiidgkgoaaGreatDoorPg4
import Derived.Test.YtpeckpiidgkgoaaGreatDoorShelfB
import Derived.WalkKit
import Derived.BigCall
/- What a run of digits and signs is, by strconv.Atoi and strconv.Itoa. Over no program. -/
namespace Go.Proofs.YtpeckpiidgkgoaaGreatDoor
open Go.RowKit
set_option linter.unusedVariables false
set_option linter.unusedSimpArgs false

theorem parseUint_snoc : ∀ (l : List UInt8) (acc : Nat) (c : UInt8) (a : Nat), Go.Lib.parseUint10 acc l = .ok a → Go.Lib.parseUint10 acc (l ++ [c]) = Go.Lib.parseUint10 a [c]
  | [], acc, c, a, h => by
    simp only [Go.Lib.parseUint10] at h
    injection h with h
    subst h
    rfl
  | x :: r, acc, c, a, h => by
    rw [Go.Lib.parseUint10] at h
    rw [List.cons_append, Go.Lib.parseUint10]
    split at h
    · rename_i h1
      rw [if_pos h1]
      split at h
      · cases h
      · rename_i h2
        rw [if_neg h2]
        split at h
        · cases h
        · rename_i h3
          rw [if_neg h3]
          exact parseUint_snoc r _ c a h
    · cases h
theorem decDigits_dig (u : Nat) : (∀ c ∈ Go.Lib.decDigits u, 48 ≤ c.toNat ∧ c.toNat ≤ 57) ∧ Go.Lib.decDigits u ≠ [] := by
  induction u using Nat.strongRecOn with
  | ind u ih =>
    rw [Go.Lib.decDigits]
    split
    · rename_i h
      refine ⟨fun c hc => ?_, by simp⟩
      simp only [List.mem_singleton] at hc
      subst hc
      rw [UInt8.toNat_ofNat']
      omega
    · rename_i h
      refine ⟨fun c hc => ?_, by simp⟩
      rcases List.mem_append.1 hc with hc | hc
      · exact (ih (u / 10) (by omega)).1 c hc
      · simp only [List.mem_singleton] at hc
        subst hc
        rw [UInt8.toNat_ofNat']
        omega
theorem parse_dig (u : Nat) (hu : u < 18446744073709551616) : Go.Lib.parseUint10 0 (Go.Lib.decDigits u) = .ok u := by
  induction u using Nat.strongRecOn with
  | ind u ih =>
    rw [Go.Lib.decDigits]
    split
    · rename_i h
      have e : (UInt8.ofNat (48 + u)).toNat = 48 + u := by rw [UInt8.toNat_ofNat']; omega
      rw [Go.Lib.parseUint10, e, if_pos (by omega), if_neg (by omega), if_neg (by omega), Go.Lib.parseUint10]
      congr 1
      omega
    · rename_i h
      have e : (UInt8.ofNat (48 + u % 10)).toNat = 48 + u % 10 := by rw [UInt8.toNat_ofNat']; omega
      rw [parseUint_snoc _ _ _ _ (ih (u / 10) (by omega) (by omega)), Go.Lib.parseUint10, e, if_pos (by omega), if_neg (by omega), if_neg (by omega), Go.Lib.parseUint10]
      congr 1
      omega
theorem atoi_itoa (x : Int) (h : I64 x) : Go.Lib.atoiAll (Go.Lib.itoa x) = .ok x := by
  obtain ⟨h0, h1⟩ := h
  unfold Go.Lib.itoa
  split
  · rename_i hx
    obtain ⟨hd, hne⟩ := decDigits_dig x.natAbs
    unfold Go.Lib.atoiAll
    simp only
    have e45 : (45 : UInt8).toNat = 45 := rfl
    rw [e45, if_pos (Or.inr rfl)]
    unfold Go.Lib.parseMag
    rw [if_neg hne, parse_dig _ (by omega)]
    simp only
    rw [if_neg (by simp), if_neg (by omega), if_pos trivial]
    congr 1
    omega
  · rename_i hx
    obtain ⟨hd, hne⟩ := decDigits_dig x.toNat
    have hp := parse_dig x.toNat (by omega)
    cases hl : Go.Lib.decDigits x.toNat with
    | nil => exact absurd hl hne
    | cons c r =>
      have hc := hd c (by rw [hl]; simp)
      rw [hl] at hp
      unfold Go.Lib.atoiAll
      simp only
      rw [if_neg (by omega)]
      unfold Go.Lib.parseMag
      rw [if_neg (by simp), hp]
      simp only
      rw [if_neg (by omega), if_neg (by omega), if_neg (by omega)]
      congr 1
      omega
/-- What a run of digits and signs is, if it is a number that prints so. -/
def Num (l : List Nat) : Option Int := match Go.Lib.atoiAll (l.map UInt8.ofNat) with
  | .ok v => if (Go.Lib.itoa v).map UInt8.toNat = l then some v else none
  | _ => none
theorem map_of_to (l : List UInt8) : (l.map UInt8.toNat).map UInt8.ofNat = l := by
  rw [List.map_map]
  have : (UInt8.ofNat ∘ UInt8.toNat) = id := by funext c; simp
  rw [this, List.map_id]
theorem num_ok : NumOk Num where
  get x hx := by
    unfold Num
    rw [map_of_to, atoi_itoa x hx]
    simp
  back l x h := by
    unfold Num at h
    split at h
    · rename_i v hv
      split at h
      · rename_i hl
        cases h
        have := Go.Lib.atoiAll_bounds hv
        exact ⟨⟨this.1, this.2⟩, hl.symm⟩
      · cases h
    · cases h
end Go.Proofs.YtpeckpiidgkgoaaGreatDoor
/- strings.Builder, made by the call itself: WriteByte, Write, WriteString, String: contracts, with a frame of one's own choice. -/
namespace Go.Proofs.YtpeckpiidgkgoaaGreatDoor
open Go.RowKit
set_option linter.unusedVariables false
set_option linter.unusedSimpArgs false

theorem sizeBu : (Tryz.prog.info? 108).map (·.size) = some 2 := by kernel_rfl
theorem liesBu : liesAt Tryz.prog Tryz.prog.depth 108 (2 / Tryz.prog.cellsOf 108) 0 108 1 = true := by kernel_rfl

/-- A builder in a block of the call's own, b, holding these bytes; S: what may turn. -/
def Bu (S : Nat → Prop) (b : Nat) (bs : List UInt8) (w : World) : Prop :=
  S b ∧ ∃ p A c, (p = Value.pointer none ∨ p = .pointer (some ⟨b, 0, none⟩)) ∧ Blk w b 108 #[p, .slice A bs.length c] ∧ w.ownsRow 0 5 1 (.slice A bs.length c) bs.length (Lib.byteCells bs) ∧ ∀ a, A = some a → S a.block ∧ a.block ≠ b
theorem Bu.fresh {S : Nat → Prop} (w : World) (h : S w.heap.size) : Bu S w.heap.size [] (w.alloc (.cells #[.pointer none, .slice none 0 0] 108)) :=
  ⟨h, .pointer none, none, 0, .inl rfl, Blk.new _ _ _, World.ownsRow_nil _ _ _ _, by intro a h; cases h⟩
theorem Bu.lt {S : Nat → Prop} {b : Nat} {bs : List UInt8} {w : World} (h : Bu S b bs w) : b < w.heap.size := by
  obtain ⟨_, _, _, _, _, hb, _⟩ := h
  exact hb.lt
theorem Bu.mono {S T : Nat → Prop} {b : Nat} {bs : List UInt8} {w : World} (h : Bu S b bs w) (hs : ∀ k, k < w.heap.size → S k → T k) : Bu T b bs w := by
  have hlt := h.lt
  obtain ⟨h0, p, A, c, h1, h2, h3, h4⟩ := h
  refine ⟨hs b hlt h0, p, A, c, h1, h2, h3, ?_⟩
  intro a ha
  refine ⟨hs _ ?_ (h4 a ha).1, (h4 a ha).2⟩
  exact (h3.lt a.block (by rw [ha]; rfl)).2
theorem Bu.below {S : Nat → Prop} {b : Nat} {bs : List UInt8} {w w' : World} (h : Bu S b bs w) (hb : Below w.heap.size w w') : Bu S b bs w' := by
  obtain ⟨h0, p, A, c, h1, h2, h3, h4⟩ := h
  exact ⟨h0, p, A, c, h1, h2.below hb h2.lt, owns_below h3 hb, h4⟩
theorem Bu.isB {S : Nat → Prop} {b B : Nat} {bs : List UInt8} {w : World} (h : Bu S b bs w) (hS : ∀ k, S k → B ≤ k) : Lib.IsBuilderF 108 5 B b (Lib.byteCells bs) w := by
  obtain ⟨h0, p, A, c, h1, h2, h3, h4⟩ := h
  refine Lib.IsBuilderF.of ?_
  have : Lib.BuilderAt 108 5 B b p (Lib.byteCells bs) w := by
    refine ⟨hS b h0, _, h2, ?_, ?_⟩
    · rw [Lib.byteCells_length]
      refine ⟨h3.1, h3.2.imp id ?_⟩
      rintro ⟨g, cap, cur, e1, e2, e3⟩
      refine ⟨g, cap, cur, e1, ?_, e3⟩
      injection e1 with hA _ _
      exact hS _ (h4 _ hA).1
    · cases A with
      | none => simp [Value.ownBlock]
      | some a => simpa [Value.ownBlock] using (h4 a rfl).2
  rcases h1 with rfl | rfl
  · exact .inl this
  · exact .inr this

set_option maxRecDepth 100000 in
set_option maxHeartbeats 1000000 in
theorem copy_check (b : Nat) (p x : Value) (w : World) (hp : p = .pointer none ∨ p = .pointer (some ⟨b, 0, none⟩)) (hb : Blk w b 108 #[p, x]) :
    Calls Tryz.prog 76 #[.pointer (some ⟨b, 0, none⟩)] w fun e w' => e = .returned (.tuple #[]) ∧ Blk w' b 108 #[.pointer (some ⟨b, 0, none⟩), x] ∧ Only (fun k => k = b) w w' := by
  obtain ⟨j, hj, hjs⟩ := Option.map_eq_some_iff.1 sizeBu
  have h0 : w.cell? ⟨b, 0, none⟩ = some p := hb.cell 0
  rcases hp with rfl | rfl
  · have hsh : w.shape? b = some (108, 2) := by
      have := hb
      unfold Blk at this
      simp [World.shape?, this]
    have hfz := hb.frozen 0
    have hn := hb.set_ 0 (.pointer (some ⟨b, 0, none⟩))
    have ho := (Only.refl (fun k => k = b) w).setCell (p := ⟨b, 0, none⟩) rfl (.pointer (some ⟨b, 0, none⟩))
    have HN := Lib.hid (And.intro hn ho); clear hn ho hb
    go_enter Tryz.func76, Tryz.ntmps76
    go_wp2
    rw [Lib.run_to_unsafe w ⟨b, 0, none⟩ Tryz.underlying106 Tryz.underlying122 hj (by rw [hjs]; decide) hsh (Nat.zero_lt_succ 1)]
    simp only [Result.andThen]
    rw [Oper.upon_value]
    go_wp2
    rw [run_callFunc_extern Tryz.func90 (by kernel_rfl) (by kernel_rfl) (by kernel_rfl) (e := Extern.AbiNoEscape.same) (by kernel_rfl)]
    rw [Lib.run_noEscape]
    simp only [Result.andThen]
    rw [Oper.upon_value]
    go_wp2
    rw [Lib.run_from_unsafe w ⟨b, 0, none⟩ Tryz.underlying122 Tryz.underlying106 hj hsh liesBu]
    simp only [Result.andThen]
    rw [Oper.upon_value]
    go_wp2
    go_end0
    exact ⟨rfl, by simpa using HN.out.1, HN.out.2⟩
  · have HN := Lib.hid hb; clear hb
    go_enter Tryz.func76, Tryz.ntmps76
    go_wp2
    rw [Lib.run_neq_ptr_same w _ Tryz.underlying106 hj]
    go_wp2
    go_end0
    exact ⟨rfl, HN.out, Only.refl _ _⟩
end Go.Proofs.YtpeckpiidgkgoaaGreatDoor
