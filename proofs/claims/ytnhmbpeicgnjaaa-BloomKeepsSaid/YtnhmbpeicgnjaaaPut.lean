/- bytes.Put: what it writes, for every number: a contract. -/
import Derived.Test.YtnhmbpeicgnjaaaProg
import Derived.Test.YtnhmbpeicgnjaaaKit
import Derived.Outline
namespace Go.Proofs.Ytnhmbpeicgnjaaa
open Go.RowKit

def putF : Nat → Nat → List Nat
  | 0, n => [n % 128]
  | f + 1, n => if n < 128 then [n] else (n % 128 + 128) :: putF f (n / 128)
def IsU64 (n : Nat) : Prop := n < 18446744073709551616
def putL (n : Nat) : List Nat := putF 10 n

def b8 (l : List Nat) : List Value := l.map fun (b : Nat) => Value.int .u8 b

def PutRel (n k : Nat) (l : List Nat) : Prop := k * 128 ^ l.length ≤ n ∧ putL n = l ++ putF (10 - l.length) k ∧ l.length ≤ 9

theorem put_start (n : Nat) : PutRel n n [] := ⟨by simp, by simp [putL], by simp⟩
theorem put_step {n k : Nat} {l : List Nat} (hn : IsU64 n) (h : PutRel n k l) (hk : 128 ≤ k) : PutRel n (k / 128) (l ++ [k % 128 + 128]) := by
  obtain ⟨h1, h2, h3⟩ := h
  have h8 : l.length ≤ 8 := by
    rcases Nat.lt_or_ge 8 l.length with h | h
    · have e : l.length = 9 := by omega
      rw [e] at h1
      unfold IsU64 at hn
      omega
    · exact h
  refine ⟨?_, ?_, by simp; omega⟩
  · rw [List.length_append, List.length_singleton, Nat.pow_succ]
    refine Nat.le_trans ?_ h1
    rw [Nat.mul_comm (128 ^ l.length) 128, ← Nat.mul_assoc]
    exact Nat.mul_le_mul_right _ (Nat.div_mul_le_self k 128)
  · rw [h2, List.append_assoc]
    congr 1
    rw [show 10 - l.length = (10 - (l ++ [k % 128 + 128]).length) + 1 from by simp; omega]
    rw [putF, if_neg (by omega)]
    rfl
theorem put_end {n k : Nat} {l : List Nat} (h : PutRel n k l) (hk : k < 128) : putL n = l ++ [k] := by
  obtain ⟨_, h2, h3⟩ := h
  rw [h2, show 10 - l.length = (9 - l.length) + 1 from by omega, putF, if_pos hk]
theorem b8_append (l m : List Nat) : b8 (l ++ m) = b8 l ++ b8 m := by simp [b8]
theorem or128' : ∀ x : Fin 256, bits .or .u8 ((x.val : Nat) : Int) 128 = ((x.val % 128 + 128 : Nat) : Int) := by decide +kernel
theorem or128 (k : Nat) : bits .or .u8 ((k : Int) % 256) 128 = ((k % 128 + 128 : Nat) : Int) := by
  have h := or128' ⟨k % 256, by omega⟩
  simp only at h
  rw [show ((k : Int) % 256) = ((k % 256 : Nat) : Int) from by omega, h]
  omega

theorem info8 : (Try.prog.info? 5).map (fun i => (i.zero, i.size, i.bytes)) = some (some (.int .u8 0), 1, 1) := by kernel_rfl

set_option maxRecDepth 100000 in
set_option maxHeartbeats 400000 in
theorem put_any (n : Nat) (hn : IsU64 n) (w : World) :
    Calls Try.prog 6 #[.int .u64 n] w fun e w' => ∃ A c, e = .returned (.slice A (putL n).length c) ∧ w'.ownsRow w.heap.size 5 1 (.slice A (putL n).length c) (putL n).length (b8 (putL n)) ∧ Below w.heap.size w w' := by
  go_enter Try.func6, Try.ntmps6
  go_wp2_with fail
  go_loopw [0, 2] (fun m v wr => ∃ (k : Nat) (l : List Nat) (A : Option Addr) (c : Nat), m = .int .u64 k ∧ PutRel n k l ∧ v = .slice A l.length c ∧ wr.ownsRow w.heap.size 5 1 (.slice A l.length c) l.length (b8 l) ∧ Below w.heap.size w wr)
    (fun m _ _ => (intOf m).toNat)
  case atStart => exact ⟨n, [], none, 0, rfl, put_start n, rfl, World.ownsRow_nil _ _ _ _, Below.refl _ _⟩
  case round =>
    obtain ⟨k, l, A, c, rfl, hr, rfl, hown, hb⟩ := hrel
    have hbs := hb.size
    have hll := hr.2.2
    go_wp2_with (first
      | (at_builtin; refine wpList_push _ rfl (.tmp 5) (.tmp 9) _ rfl w.heap.size 5 Try.underlying23 info8 rfl (by decide) (by decide) _ _ _ rfl hown _ rfl rfl ?_ (by omega) hbs ?_)
      | (at_builtin; refine wpList_push _ rfl (.tmp 13) (.tmp 16) _ rfl w.heap.size 5 Try.underlying23 info8 rfl (by decide) (by decide) _ _ _ rfl hown _ rfl rfl ?_ (by omega) hbs ?_))
    · rfl
    · intro A' c' w1 hown' hg
      have hlt : (128 : Int) ≤ k := by assumption
      rw [or128] at hown'
      have hown2 : w1.ownsRow w.heap.size 5 1 (.slice A' (l ++ [k % 128 + 128]).length c') (l ++ [k % 128 + 128]).length (b8 (l ++ [k % 128 + 128])) := by
        rw [b8_append]; simpa [b8] using hown'
      have hb2 := hb.grown hg hbs (ownBlock_ge hown)
      have hr2 := put_step hn hr (by omega)
      clear hown' hg hown hb hr
      go_wp2
      go_roundw
      case rel => exact ⟨k / 128, l ++ [k % 128 + 128], A', c', by go_num, hr2, by simp, hown2, hb2⟩
      case measure => simp [intOf]; omega
    · rfl
    · intro A' c' w1 hown' hg
      have hlt : (k : Int) < 128 := by assumption
      have e := put_end hr (by omega)
      have hb2 := hb.grown hg hbs (ownBlock_ge hown)
      clear hg hown hb hr
      have HE := Lib.hid e; clear e
      go_wp2
      go_ret
      rw [HE.out]
      exact ⟨A', c', by simp, by rw [b8_append]; simpa [b8] using hown', hb2⟩
end Go.Proofs.Ytnhmbpeicgnjaaa
