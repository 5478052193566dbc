/- BytesShort: the walk. -/
import Derived.Test.YtnhmbpeicgnjaaaPut
namespace Go.Proofs.Ytnhmbpeicgnjaaa
open Go.RowKit

theorem putF_pos (f n : Nat) : 1 ≤ (putF f n).length := by
  cases f with
  | zero => simp [putF]
  | succ f => unfold putF; split <;> simp
theorem putF_mono (f : Nat) : ∀ a b : Nat, a ≤ b → (putF f a).length ≤ (putF f b).length := by
  induction f with
  | zero => intro a b _; simp [putF]
  | succ f ih =>
    intro a b h
    by_cases hb : b < 128
    · rw [putF, if_pos (by omega), putF, if_pos hb]; simp
    · by_cases ha : a < 128
      · rw [putF, if_pos ha, putF, if_neg hb]; simp
      · rw [putF, if_neg ha, putF, if_neg hb]
        have := ih (a / 128) (b / 128) (Nat.div_le_div_right h)
        simp; omega
theorem putL_mono {a b : Nat} (h : a ≤ b) : (putL a).length ≤ (putL b).length := putF_mono 10 a b h
theorem wf_u64 {a : Int} (h : (Lit.int .u64 a).wf = true) : ∃ n : Nat, a = n ∧ IsU64 n := by
  simp only [Lit.wf, Bool.and_eq_true, decide_eq_true_eq] at h
  have e0 : IntKind.u64.min = 0 := rfl
  have e1 : IntKind.u64.max = 18446744073709551615 := rfl
  rw [e0, e1] at h
  refine ⟨a.toNat, by omega, ?_⟩
  unfold IsU64
  omega

theorem put_le {n k : Nat} {l : List Nat} (hn : IsU64 n) (h : PutRel n k l) : (k : Int) ≤ 18446744073709551615 := by
  have h1 : k * 1 ≤ k * 128 ^ l.length := Nat.mul_le_mul_left _ (Nat.pos_of_ne_zero (by simp))
  have := h.1
  unfold IsU64 at hn
  omega

set_option maxRecDepth 100000 in
set_option maxHeartbeats 400000 in
theorem bytesShort_walk (a0 : Int) (w0 : (Lit.int .u64 a0).wf = true) (a1 : Int) (w1 : (Lit.int .u64 a1).wf = true) (w : World) :
    Calls Try.prog 3 #[.int .u64 a0, .int .u64 a1] w fun e w' => e = .returned (.bool true) ∧ Below w.heap.size w w' := by
  obtain ⟨a, rfl, ha⟩ := wf_u64 w0
  obtain ⟨b, rfl, hb⟩ := wf_u64 w1
  clear w0 w1
  have h127 : (putL 127).length = 1 := by decide
  have H127 := Lib.hid h127; clear h127
  go_enter Try.func3, Try.ntmps3
  go_wp2_with fail
  refine (put_any 127 (by unfold IsU64; omega) _).mono ?_
  rintro e w1 ⟨A1, c1, rfl, -, hb1⟩
  rw [H127.out]
  go_wp2_with fail
  refine (put_any a ha _).mono ?_
  rintro e w2 ⟨A2, c2, rfl, -, hb2⟩
  go_wp2_with fail
  refine (put_any b hb _).mono ?_
  rintro e w3 ⟨A3, c3, rfl, -, hb3⟩
  go_wp2_with fail
  have hbb : Below w.heap.size w w3 := (hb1.trans (hb2.mono hb1.size)).trans (hb3.mono (Nat.le_trans hb1.size hb2.size))
  go_loop [8, 9] (fun n v => ∃ (k : Nat) (l : List Nat), v = .int .u64 k ∧ PutRel a k l ∧ n = .int .i64 ((l.length + 1 : Nat) : Int))
    (fun _ v => (intOf v).toNat)
  case atStart => exact ⟨a, [], rfl, put_start a, rfl⟩
  case round =>
    obtain ⟨k, l, rfl, hr, rfl⟩ := hrel
    have hll := hr.2.2
    by_cases hk : 127 < k
    · have hr2 := put_step ha hr (by omega)
      have hku := put_le ha hr
      clear hr
      go_wp2
      go_round
      case rel => exact ⟨k / 128, l ++ [k % 128 + 128], by go_num, hr2, by simp⟩
      case measure => simp [intOf]; omega
    · have e := put_end hr (by omega)
      have e2 : (((putL a).length : Int) == (l.length : Int) + 1) = true := by rw [e]; simp
      clear hr e
      by_cases hab : b < a
      · go_wp2
        go_ret
        exact ⟨by simp, hbb⟩
      · have h3 := putL_mono (show a ≤ b by omega)
        have h3 : l.length + 1 ≤ (putL b).length := by
          have : ((putL a).length : Int) = (l.length : Int) + 1 := by simpa using e2
          omega
        go_wp2
        go_ret
        exact ⟨by simp, hbb⟩
end Go.Proofs.Ytnhmbpeicgnjaaa
