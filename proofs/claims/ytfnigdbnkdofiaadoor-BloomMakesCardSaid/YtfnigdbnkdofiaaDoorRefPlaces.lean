/- bookref3.Places, bookref1.Ref: contracts. -/
import Derived.Test.YtfnigdbnkdofiaaDoorNumRsh
import Derived.Test.YtfnigdbnkdofiaaDoorNumCmp
import Derived.Test.YtfnigdbnkdofiaaDoorBloom
namespace Go.Proofs.YtfnigdbnkdofiaaDoor
open Go.RowKit
set_option linter.unusedVariables false
set_option linter.unusedSimpArgs false

def nbx (x : Nat) : Nat → Nat
  | 0 => x
  | k + 1 => (nbx x k * 6364136223846793005 + 1442695040888963407) % 18446744073709551616
theorem nbx_bx (x : Nat) : ∀ k, bx (x : Int) k = (nbx x k : Int) := by
  intro k
  induction k with
  | zero => rfl
  | succ k ih =>
    show bstep (bx x k) = _
    rw [ih]
    unfold bstep
    rw [IntKind.wrap_u64, IntKind.wrap_u64]
    show _ = (((nbx x k * 6364136223846793005 + 1442695040888963407) % 18446744073709551616 : Nat) : Int)
    generalize nbx x k = y
    omega
theorem nbx_lt (x : Nat) (hx : x < 18446744073709551616) : ∀ k, nbx x k < 18446744073709551616 := by
  intro k
  cases k with
  | zero => exact hx
  | succ k => exact Nat.mod_lt _ (by decide)
theorem bplace_nat (x n k : Nat) (hn : 0 < n) (hn2 : n ≤ 4096) : bplace (x : Int) (n : Int) k = ((nbx x (k + 1) / 8589934592 % n : Nat) : Int) := by
  unfold bplace
  have h1 : bstep (bx (x : Int) k) = (nbx x (k + 1) : Int) := nbx_bx x (k + 1)
  rw [h1]
  generalize nbx x (k + 1) = y
  have h2 : ((y : Nat) : Int) / 8589934592 = ((y / 8589934592 : Nat) : Int) := by omega
  rw [h2]
  generalize y / 8589934592 = q
  have h3 : ((q : Nat) : Int).tmod (n : Int) = ((q % n : Nat) : Int) := by
    rw [Int.tmod_eq_emod_of_nonneg (by omega)]
    exact (Int.natCast_emod q n).symm
  rw [h3]
  have h4 : q % n < n := Nat.mod_lt _ hn
  exact IntWalk.wrap64_in _ ⟨by omega, by omega⟩

theorem refR_any (a s : Int) (w : World) : Calls Tryd.prog 10 #[.agg #[.int .i64 a, .int .i64 s]] w fun e w' => e = .returned (.bool (refB a s)) ∧ Below w.heap.size w w' := by
  by_cases h1 : 1 ≤ a <;> by_cases h2 : a ≤ 99 <;> by_cases h3 : 1 ≤ s <;> by_cases h4 : s ≤ 1000000
  all_goals try (exfalso; omega)
  all_goals
    go_enter Tryd.func10, Tryd.ntmps10
    go_wp2_with fail
    go_ret
    refine ⟨?_, (Below.refl _ _).alloc (Nat.le_refl _) _⟩
    simp [refB, actorB, numB, h1, h2, h3, h4]

/-- What stands while Places goes on: mod at z0, x at z1. -/
structure Pl (w W : World) (z0 z1 x : Nat) : Prop where
  below : Below w.heap.size w W
  l0 : w.heap.size ≤ z0
  l1 : w.heap.size ≤ z1
  ne : z0 ≠ z1
  n0 : IsN W z0 18446744073709551616
  n1 : IsN W z1 x
theorem Pl.new {w W W' : World} {z0 z1 x : Nat} (h : Pl w W z0 z1 x) (hb : Below W.heap.size W W') : Pl w W' z0 z1 x :=
  ⟨h.below.trans (hb.mono h.below.size), h.l0, h.l1, h.ne, h.n0.below hb, h.n1.below hb⟩
theorem Only.below_of {w W W' : World} {z : Nat} (hb : Below w.heap.size w W) (hl : w.heap.size ≤ z) (ho : Only (fun k => k = z) W W') : Below w.heap.size w W' :=
  hb.trans (ho.below hb.size (fun k hk he => by omega))
theorem Pl.op {w W W' : World} {z0 z1 x y : Nat} (h : Pl w W z0 z1 x) (hN : IsN W' z1 y) (ho : Only (fun k => k = z1) W W') : Pl w W' z0 z1 y :=
  ⟨Only.below_of h.below h.l1 ho, h.l0, h.l1, h.ne, h.n0.only h.n1.z ho h.ne, hN⟩
theorem Pl.other {w W W' : World} {z0 z1 x y : Nat} (h : Pl w W z0 z1 x) (hz : IsZ W y) (hl : w.heap.size ≤ y) (h0 : z0 ≠ y) (h1 : z1 ≠ y) (ho : Only (fun k => k = y) W W') : Pl w W' z0 z1 x :=
  ⟨Only.below_of h.below hl ho, h.l0, h.l1, h.ne, h.n0.only hz ho h0, h.n1.only hz ho h1⟩

theorem ofI {w : World} {g : Nat} (n : Nat) {x : Int} (h : IsI w g x) (hx : x = (n : Int)) : IsN w g n := IsN.of (hx ▸ h)
/-- One round's numbers. -/
theorem round_mul {w W W1 : World} {z0 z1 g x : Nat} (h : Pl w W z0 z1 x) (hx : x < 18446744073709551616) (hI : IsI W1 g 6364136223846793005) (hb : Below W.heap.size W W1) :
    Pl w W1 z0 z1 x ∧ Calls Tryd.prog 27 #[.pointer (some ⟨z1, 0, none⟩), .pointer (some ⟨z1, 0, none⟩), .pointer (some ⟨g, 0, none⟩)] W1 (OpQ W1 z1 (x * 6364136223846793005)) :=
  ⟨h.new hb, mulop z1 z1 g x 6364136223846793005 W1 (h.new hb).n1.z (h.new hb).n1 (ofI _ hI rfl) (by omega) (by decide)⟩
theorem round_add {w W W1 : World} {z0 z1 g x : Nat} (h : Pl w W z0 z1 (x * 6364136223846793005)) (hx : x < 18446744073709551616) (hI : IsI W1 g 1442695040888963407) (hb : Below W.heap.size W W1) :
    Pl w W1 z0 z1 (x * 6364136223846793005) ∧ Calls Tryd.prog 28 #[.pointer (some ⟨z1, 0, none⟩), .pointer (some ⟨z1, 0, none⟩), .pointer (some ⟨g, 0, none⟩)] W1 (OpQ W1 z1 (x * 6364136223846793005 + 1442695040888963407)) :=
  ⟨h.new hb, addop z1 z1 g (x * 6364136223846793005) 1442695040888963407 W1 (h.new hb).n1.z (h.new hb).n1 (ofI _ hI rfl) (by omega) (by decide)⟩
theorem round_mod {w W : World} {z0 z1 x : Nat} (h : Pl w W z0 z1 (x * 6364136223846793005 + 1442695040888963407)) (hx : x < 18446744073709551616) :
    Calls Tryd.prog 29 #[.pointer (some ⟨z1, 0, none⟩), .pointer (some ⟨z1, 0, none⟩), .pointer (some ⟨z0, 0, none⟩)] W fun e w' => OpQ W z1 ((x * 6364136223846793005 + 1442695040888963407) % 18446744073709551616) e w' ∧ Own True W.heap.size w' z1 :=
  modop z1 z1 z0 _ _ W True (DivOk.p64 (by omega)) h.n1.z h.n1 h.n0
end Go.Proofs.YtfnigdbnkdofiaaDoor
