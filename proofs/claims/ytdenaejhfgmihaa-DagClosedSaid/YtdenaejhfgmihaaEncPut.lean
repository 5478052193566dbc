/- bookref1.Put, PutSigned, nums: contracts. -/
import Derived.Test.YtdenaejhfgmihaaInfo8
import Derived.Test.YtdenaejhfgmihaaMem
import Derived.Test.YtdenaejhfgmihaaBlk
import Derived.Test.YtdenaejhfgmihaaPushN
import Derived.Test.YtdenaejhfgmihaaAppend
import Derived.Test.YtdenaejhfgmihaaDagClW
import Derived.Lib.Hide
import Derived.Lib.AppendStr
import Derived.Outline
namespace Go.Proofs.Ytdenaejhfgmihaa
open Go.RowKit
set_option linter.unusedVariables false
set_option linter.unusedSimpArgs false

def putF : Nat → Nat → List Nat
  | 0, n => [n % 128]
  | f + 1, n => if n < 128 then [n] else (n % 128 + 128) :: putF f (n / 128)
def IsU64 (n : Nat) : Prop := n < 18446744073709551616
def putL (n : Nat) : List Nat := putF 10 n

def b8 (l : List Nat) : List Value := l.map fun (b : Nat) => Value.int .u8 b

def PutRel (n k : Nat) (l : List Nat) : Prop := k * 128 ^ l.length ≤ n ∧ putL n = l ++ putF (10 - l.length) k ∧ l.length ≤ 9

theorem put_start (n : Nat) : PutRel n n [] := ⟨by simp, by simp [putL], by simp⟩
theorem put_step {n k : Nat} {l : List Nat} (hn : IsU64 n) (h : PutRel n k l) (hk : 128 ≤ k) : PutRel n (k / 128) (l ++ [k % 128 + 128]) := by
  obtain ⟨h1, h2, h3⟩ := h
  have h8 : l.length ≤ 8 := by
    rcases Nat.lt_or_ge 8 l.length with h | h
    · have e : l.length = 9 := by omega
      rw [e] at h1
      unfold IsU64 at hn
      omega
    · exact h
  refine ⟨?_, ?_, by simp; omega⟩
  · rw [List.length_append, List.length_singleton, Nat.pow_succ]
    refine Nat.le_trans ?_ h1
    rw [Nat.mul_comm (128 ^ l.length) 128, ← Nat.mul_assoc]
    exact Nat.mul_le_mul_right _ (Nat.div_mul_le_self k 128)
  · rw [h2, List.append_assoc]
    congr 1
    rw [show 10 - l.length = (10 - (l ++ [k % 128 + 128]).length) + 1 from by simp; omega]
    rw [putF, if_neg (by omega)]
    rfl
theorem put_end {n k : Nat} {l : List Nat} (h : PutRel n k l) (hk : k < 128) : putL n = l ++ [k] := by
  obtain ⟨_, h2, h3⟩ := h
  rw [h2, show 10 - l.length = (9 - l.length) + 1 from by omega, putF, if_pos hk]
theorem b8_append (l m : List Nat) : b8 (l ++ m) = b8 l ++ b8 m := by simp [b8]
theorem run_append_str {P : Program} (w : World) (t u ty e : TypeId) (i : TypeInfo) (ht : P.underlying t = some (.slice e)) (hu : P.underlying u = some .string) (hi : P.info? e = some i) (hz : i.zero = some (.int .u8 0)) (hsize : i.size = 1) (hby : i.bytes = 1)
    (A : Option Addr) (n c : Nat) (xs : List Value) (hown : w.ownsRow 0 e 1 (.slice A n c) n xs) (s : ByteArray) (h63 : n + s.size ≤ maxLen) (hbytes : n + s.size ≤ 140737488355328) :
    ∃ A' c' w', (Builtin.append_ #[t, u] ty #[.slice A n c, .string s]).run P w = .ok (.slice A' (n + s.size) c') w' ∧ w'.ownsRow 0 e 1 (.slice A' (n + s.size) c') (n + s.size) (xs ++ Lib.strCells s) ∧
      w.grownBy w' (Value.slice A n c).ownBlock ∧ ((A' = A ∧ c' = c) ∨ A' = some ⟨w.heap.size, 0, none⟩) := by
  have hsmall : n + s.size ≤ 9223372036854775807 := by simp only [maxLen] at h63; omega
  obtain ⟨v', w', r1, r2, r3, r5⟩ := Lib.run_append_own_string (P := P) w 0 t u ty e i ht hu hi hz hsize hby _ n xs hown s h63 hbytes (Nat.zero_le _)
  obtain ⟨A', c', rfl⟩ := slice_of_owns r2
  refine ⟨A', c', w', r1, r2, r3, ?_⟩
  rcases hown.2 with ⟨hv, h0⟩ | ⟨g, cap, cur, hv, hbg, hg, hnc, hcm, hcs, htake⟩
  · injection hv with q1 q2 q3
    subst q1 q2 q3
    by_cases hm : s.size = 0
    · have := r5.2 ⟨rfl, hm⟩
      injection this with a1 a2 a3
      exact .inl ⟨a1, a3⟩
    · have hr := run_append_nil_string (P := P) w t u ty e i (.int .u8 0) ht hu hi hz s (by omega) (by omega) (by rw [hby]; omega)
      rw [Nat.zero_add] at r1
      rw [r1] at hr
      injection hr with e1 e2
      injection e1 with a1 a2 a3
      exact .inr a1
  · injection hv with q1 q2 q3
    subst q1 q3
    by_cases hroom : n + s.size ≤ c
    · have hr := Lib.run_append_room_string (P := P) w t u ty e i ht hu hi hsize g n c cur hg s hroom (by omega)
      rw [r1] at hr
      injection hr with e1 e2
      injection e1 with a1 a2 a3
      exact .inl ⟨a1, a3⟩
    · have hr := Lib.run_append_grow_string (P := P) w t u ty e i (.int .u8 0) ht hu hi hz ⟨g, 0, none⟩ n c xs (by rw [hsize]; exact hown.1) (fun j v hj => by
        have := SlAt.of_owns hown
        rcases this with h | ⟨b, off, hb, hc⟩
        · rw [h] at hj; simp at hj
        · injection hb with hb; injection hb with b1 b2; subst b1 b2
          have h2 := hc j v hj
          rw [Nat.zero_add] at h2
          have hadd : (⟨g, 0, none⟩ : Addr).add j = ⟨g, j, none⟩ := by unfold Addr.add; split <;> simp_all
          rw [hadd]; exact h2) s (by omega) (by omega) (by rw [hby]; exact growslice_fits (by omega) (by omega))
      rw [r1] at hr
      injection hr with e1 e2
      injection e1 with a1 a2 a3
      exact .inr a1


set_option maxRecDepth 100000 in
set_option maxHeartbeats 400000 in
theorem rput_any (n : Nat) (hn : IsU64 n) (w : World) :
    Calls Try.prog 69 #[.int .u64 n] w fun e w' => ∃ A c, e = .returned (.slice A (putL n).length c) ∧ w'.ownsRow w.heap.size 5 1 (.slice A (putL n).length c) (putL n).length (b8 (putL n)) ∧ Below w.heap.size w w' := by
  go_enter Try.func69, Try.ntmps69
  go_wp2_with fail
  go_loopw [0, 3] (fun m v wr => ∃ (k : Nat) (l : List Nat) (A : Option Addr) (c : Nat), m = .int .u64 k ∧ PutRel n k l ∧ v = .slice A l.length c ∧ wr.ownsRow w.heap.size 5 1 (.slice A l.length c) l.length (b8 l) ∧ Below w.heap.size w wr)
    (fun m _ _ => (intOf m).toNat)
  case atStart => exact ⟨n, [], none, 0, rfl, put_start n, rfl, World.ownsRow_nil _ _ _ _, Below.refl _ _⟩
  case round =>
    obtain ⟨k, l, A, c, rfl, hr, rfl, hown, hb⟩ := hrel
    have hbs := hb.size
    have hll := hr.2.2
    have hkn : k < 18446744073709551616 := by
      have h1 := hr.1
      have h2 : k ≤ k * 128 ^ l.length := Nat.le_mul_of_pos_right _ (Nat.pow_pos (by decide))
      unfold IsU64 at hn
      omega
    have hwr : IntKind.u64.wrap ((k : Int) / 128) = (k : Int) / 128 := by
      have : IntKind.u64.wrap ((k : Int) / 128) = ((k : Int) / 128) % 18446744073709551616 := rfl
      rw [this]
      omega
    clear hkn
    go_wp2_with (first
      | (at_builtin; refine wpList_push _ rfl (.tmp 6) (.tmp 11) _ rfl w.heap.size 5 Try.underlying79 info8 rfl (by decide) (by decide) _ _ _ rfl hown _ rfl rfl ?_ (by omega) hbs ?_)
      | (at_builtin; refine wpList_push _ rfl (.tmp 15) (.tmp 18) _ rfl w.heap.size 5 Try.underlying79 info8 rfl (by decide) (by decide) _ _ _ rfl hown _ rfl rfl ?_ (by omega) hbs ?_))
    · rfl
    · intro A' c' w1 hown' hg
      have hlt : (127 : Int) < k := by assumption
      have hown2 : w1.ownsRow w.heap.size 5 1 (.slice A' (l ++ [k % 128 + 128]).length c') (l ++ [k % 128 + 128]).length (b8 (l ++ [k % 128 + 128])) := by
        rw [b8_append]; simpa [b8] using hown'
      have hb2 := hb.grown hg hbs (ownBlock_ge hown)
      have hr2 := put_step hn hr (by omega)
      clear hown' hg hown hb hr
      go_wp2
      go_roundw
      case rel => exact ⟨k / 128, l ++ [k % 128 + 128], A', c', by go_num, hr2, by simp, hown2, hb2⟩
      case measure => simp [intOf]; omega
    · rfl
    · intro A' c' w1 hown' hg
      have hlt : (k : Int) ≤ 127 := by assumption
      have e := put_end hr (by omega)
      have hb2 := hb.grown hg hbs (ownBlock_ge hown)
      clear hg hown hb hr
      have HE := Lib.hid e; clear e
      go_wp2
      go_ret
      rw [HE.out]
      exact ⟨A', c', by simp, by rw [b8_append]; simpa [b8] using hown', hb2⟩

/-- A number's bytes. -/
def natI (n : Nat) : List Int := (putL n).map fun (b : Nat) => (b : Int)
theorem b8_natI (n : Nat) : b8 (putL n) = u8s (natI n) := by simp [b8, u8s, natI]
theorem natI_len (n : Nat) : (natI n).length = (putL n).length := by simp [natI]
theorem putF_len : ∀ f n, (putF f n).length ≤ f + 1
  | 0, n => by simp [putF]
  | f + 1, n => by
    unfold putF
    split
    · simp
    · have := putF_len f (n / 128); simp; omega
theorem natI_le (n : Nat) : (natI n).length ≤ 11 := by rw [natI_len]; exact putF_len 10 n
def u64n (x : Int) : Nat := (x % 18446744073709551616).toNat
theorem u64n_lt (x : Int) : IsU64 (u64n x) := by
  unfold IsU64 u64n
  have h1 := Int.emod_nonneg x (show (18446744073709551616 : Int) ≠ 0 by decide)
  have h2 := Int.emod_lt_of_pos x (show (0 : Int) < 18446744073709551616 by decide)
  generalize x % 18446744073709551616 = y at *
  omega
theorem u64n_wrap (x : Int) : IntKind.u64.wrap x = (u64n x : Int) := by
  have : IntKind.u64.wrap x = x % 18446744073709551616 := rfl
  rw [this]
  unfold u64n
  have h1 := Int.emod_nonneg x (show (18446744073709551616 : Int) ≠ 0 by decide)
  generalize x % 18446744073709551616 = y at *
  omega
def numI (x : Int) : List Int := natI (u64n x)
def sgnI (x : Int) : List Int := natI (if x < 0 then (-(x + 1)).toNat * 2 + 1 else x.toNat * 2)
theorem u8s_append (a b : List Int) : u8s (a ++ b) = u8s a ++ u8s b := by simp [u8s]
theorem u8s_one (l : List Int) : ∀ v ∈ u8s l, v.oneCell' = true := by
  intro v hv
  simp only [u8s, List.mem_map] at hv
  obtain ⟨b, _, rfl⟩ := hv
  rfl
/-- Bytes of a call's own, as a slice. -/
def ByR (w : World) (A : Option Addr) (c : Nat) (xs : List Int) : Prop := w.ownsRow 0 5 1 (.slice A xs.length c) xs.length (u8s xs)
/-- A step that writes behind what is there. -/
structure Stp (w w' : World) (A A' : Option Addr) : Prop where
  only : Only (· ∈ blkOf A) w w'
  new : ∀ b ∈ blkOf A', b ∈ blkOf A ∨ w.heap.size ≤ b
theorem Stp.refl (w : World) (A : Option Addr) : Stp w w A A := ⟨Only.refl _ _, fun b h => .inl h⟩
theorem Stp.trans {w w1 w2 : World} {A A1 A2 : Option Addr} (h : Stp w w1 A A1) (k : Stp w1 w2 A1 A2) : Stp w w2 A A2 :=
  ⟨⟨k.only.os.trans h.only.os, k.only.tape.trans h.only.tape, k.only.output.trans h.only.output, Nat.le_trans h.only.size k.only.size, fun i hi hn => (k.only.block i (Nat.lt_of_lt_of_le hi h.only.size) (fun e => by
      rcases h.new i e with h1 | h1
      · exact hn h1
      · omega)).trans (h.only.block i hi hn)⟩, fun b hb => by
      rcases k.new b hb with h1 | h1
      · exact h.new b h1
      · exact .inr (Nat.le_trans h.only.size h1)⟩
theorem Stp.below {w w1 : World} (A : Option Addr) (h : Below w.heap.size w w1) : Stp w w1 A A := ⟨Only.of_below h, fun b h => .inl h⟩
theorem Stp.blk {w w' : World} {A A' : Option Addr} (h : Stp w w' A A') {g : Nat} {t : TypeId} {cs : Array Value} (hb : Blk w g t cs) (hn : g ∉ blkOf A) : Blk w' g t cs ∧ g ∉ blkOf A' :=
  ⟨hb.only h.only hn, fun e => by
    rcases h.new g e with h1 | h1
    · exact hn h1
    · have := hb.lt; omega⟩
def PutE (bs : List Int) (w : World) (e : Ending) (w' : World) : Prop := ∃ A c, e = .returned (.slice A bs.length c) ∧ ByR w' A c bs ∧ Below w.heap.size w w' ∧ ∀ b ∈ blkOf A, w.heap.size ≤ b
theorem rput_e (n : Nat) (hn : IsU64 n) (w : World) : Calls Try.prog 69 #[.int .u64 n] w (PutE (natI n) w) :=
  (rput_any n hn w).mono (fun e w' ⟨A, c, h1, h2, h3⟩ => by
    rw [← natI_len] at h1 h2
    refine ⟨A, c, h1, ?_, h3, ?_⟩
    · rw [b8_natI] at h2
      obtain ⟨q1, q2⟩ := h2
      refine ⟨q1, ?_⟩
      rcases q2 with q2 | ⟨g, cap, cur, hv, hb, hr⟩
      · exact .inl q2
      · exact .inr ⟨g, cap, cur, hv, Nat.zero_le _, hr⟩
    · rcases h2.2 with ⟨hv, _⟩ | ⟨g, cap, cur, hv, hb, _⟩
      · injection hv with hA _ _
        subst hA
        intro b hb
        cases hb
      · injection hv with hA _ _
        subst hA
        intro b hb'
        simp [blkOf] at hb'
        omega)
set_option maxRecDepth 100000 in
set_option maxHeartbeats 400000 in
theorem rputS_any (x : Int) (hx : I64 x) (w : World) : Calls Try.prog 56 #[.int .i64 x] w (PutE (sgnI x) w) := by
  unfold I64 at hx
  obtain ⟨h1, h2⟩ := hx
  by_cases hlt : x < 0
  · have HC := Lib.hid (rput_e ((-(x + 1)).toNat * 2 + 1) (by unfold IsU64; omega) w)
    have HS := Lib.hid (show sgnI x = natI ((-(x + 1)).toNat * 2 + 1) by unfold sgnI; rw [if_pos hlt])
    have he : ((-(x + 1)).toNat * 2 + 1 : Nat) = (-(x + 1) * 2 + 1 : Int) := by push_cast; omega
    have HE := Lib.hid he
    clear he
    rw [HS.out]
    go_enter Try.func56, Try.ntmps56
    have HC2 := HC.out
    rw [HE.out] at HC2
    have HC3 := Lib.hid HC2
    clear HC2 HC
    go_wp2_with fail
    refine HC3.out.mono ?_
    rintro e w1 ⟨A, c, rfl, hq1, hq2, hq3⟩
    go_wp2_with fail
    go_ret
    exact ⟨A, c, rfl, hq1, hq2, hq3⟩
  · have HC := Lib.hid (rput_e (x.toNat * 2) (by unfold IsU64; omega) w)
    have HS := Lib.hid (show sgnI x = natI (x.toNat * 2) by unfold sgnI; rw [if_neg hlt])
    rw [HS.out]
    go_enter Try.func56, Try.ntmps56
    have HE := Lib.hid (show ((x.toNat * 2 : Nat) : Int) = x * 2 by push_cast; omega)
    have HC2 := HC.out
    rw [HE.out] at HC2
    have HC3 := Lib.hid HC2
    clear HC2 HC
    go_wp2_with fail
    refine HC3.out.mono ?_
    rintro e w1 ⟨A, c, rfl, hq1, hq2, hq3⟩
    go_wp2_with fail
    go_ret
    exact ⟨A, c, rfl, hq1, hq2, hq3⟩

/-- A slice's bytes, behind what is there. -/
theorem by_append {w : World} {A B : Option Addr} {c cb : Nat} {xs bs : List Int} (h : ByR w A c xs) (hb : SlAt w B (u8s bs)) (hs : xs.length + bs.length ≤ 1000000) :
    ∃ A' c' w', (∀ ty, (Builtin.append_ #[79, 79] ty #[.slice A xs.length c, .slice B bs.length cb]).run Try.prog w = .ok (.slice A' (xs ++ bs).length c') w') ∧ ByR w' A' c' (xs ++ bs) ∧ Stp w w' A A' := by
  obtain ⟨A', c', w', r1, r2, r3, r4⟩ := run_append_sl (P := Try.prog) w 79 0 5 Try.underlying79 info8 rfl (by decide) A xs.length c (u8s xs) h B bs.length cb (u8s bs) (by simp [u8s]) hb (u8s_one bs) (by unfold maxLen; omega) (by omega)
  rw [← List.length_append] at r1 r2
  refine ⟨A', c', w', fun _ => r1, ?_, ⟨r3.os, r3.tape, r3.output, r3.size, fun k hk hn => r3.block k hk (fun e => hn ?_)⟩, fun b hb' => ?_⟩
  · unfold ByR; rw [u8s_append]; exact r2
  · cases A with
    | none => cases e
    | some a =>
      have : k = a.block := Option.some.inj e
      simp [blkOf, this]
  · rcases r4 with ⟨rfl, _⟩ | rfl
    · exact .inl hb'
    · simp [blkOf] at hb'
      exact .inr (by omega)
/-- A text's bytes. -/
def strI (s : ByteArray) : List Int := s.data.toList.map fun b => (b.toNat : Int)
theorem strI_len (s : ByteArray) : (strI s).length = s.size := by simp [strI]
theorem strCells_u8s (s : ByteArray) : Lib.strCells s = u8s (strI s) := by simp [Lib.strCells, u8s, strI]
theorem by_string {w : World} {A : Option Addr} {c : Nat} {xs : List Int} {s : ByteArray} (h : ByR w A c xs) (hs : xs.length + s.size ≤ 1000000) :
    ∃ A' c' w', (∀ ty, (Builtin.append_ #[79, 9] ty #[.slice A xs.length c, .string s]).run Try.prog w = .ok (.slice A' (xs ++ strI s).length c') w') ∧ ByR w' A' c' (xs ++ strI s) ∧ Stp w w' A A' := by
  obtain ⟨i, hi, hz1, hs1, hb1⟩ := info_parts (P := Try.prog) (e := 5) info8
  obtain ⟨A', c', w', r1, r2, r3, r4⟩ := run_append_str (P := Try.prog) w 79 9 0 5 i Try.underlying79 Try.underlying9 hi hz1 hs1 hb1 A xs.length c (u8s xs) h s (by unfold maxLen; omega) (by omega)
  rw [← strI_len, ← List.length_append] at r1 r2
  refine ⟨A', c', w', fun _ => r1, ?_, ⟨r3.os, r3.tape, r3.output, r3.size, fun k hk hn => r3.block k hk (fun e => hn ?_)⟩, fun b hb' => ?_⟩
  · unfold ByR; rw [u8s_append, ← strCells_u8s]; exact r2
  · cases A with
    | none => cases e
    | some a =>
      have : k = a.block := Option.some.inj e
      simp [blkOf, this]
  · rcases r4 with ⟨rfl, _⟩ | rfl
    · exact .inl hb'
    · simp [blkOf] at hb'
      exact .inr (by omega)
theorem ByR.keep {w w' : World} {A : Option Addr} {c : Nat} {xs : List Int} (h : ByR w A c xs) (hb : Below w.heap.size w w') : ByR w' A c xs := own_keepD h (fun b _ hl => hb.block b hl)
theorem ByR.lt {w : World} {A : Option Addr} {c : Nat} {xs : List Int} (h : ByR w A c xs) : ∀ b ∈ blkOf A, b < w.heap.size := own_ltD h
theorem ByR.at {w : World} {A : Option Addr} {c : Nat} {xs : List Int} (h : ByR w A c xs) : SlAt w A (u8s xs) := SlAt.of_owns h

/-- Numbers, one behind the other. -/
def numsI (l : List Int) : List Int := l.flatMap numI
theorem numsI_le (l : List Int) : (numsI l).length ≤ 11 * l.length := by
  induction l with
  | nil => simp [numsI]
  | cons x l ih =>
    have := natI_le (u64n x)
    simp only [numsI, numI, List.flatMap_cons, List.length_append, List.length_cons] at *
    omega
theorem numsI_snoc (l : List Int) (x : Int) : numsI (l ++ [x]) = numsI l ++ numI x := by simp [numsI]
def NumsQ (w : World) (A : Option Addr) (bs : List Int) (e : Ending) (w' : World) : Prop := ∃ A' c', e = .returned (.slice A' bs.length c') ∧ ByR w' A' c' bs ∧ Stp w w' A A'

set_option maxRecDepth 100000 in
set_option maxHeartbeats 1000000 in
theorem nums_any (A : Option Addr) (c : Nat) (xs : List Int) (l : List Int) (Bl : Option Addr) (cl : Nat) (w : World) (h : ByR w A c xs) (hl : SlAt w Bl (ints l)) (hBl : ∀ b off s, Bl = some ⟨b, off, s⟩ → b ∉ blkOf A) (hn : l.length ≤ 1000) (hx : xs.length ≤ 500000) :
    Calls Try.prog 55 #[.slice A xs.length c, .slice Bl l.length cl] w (NumsQ w A (xs ++ numsI l)) := by
  have H0 := Lib.hid (And.intro h (And.intro hl hBl))
  clear h hl hBl
  go_enter Try.func55, Try.ntmps55
  go_wp2_with fail
  go_loopw [0, 5] (fun bv iv wr => ∃ (k : Nat) (A' : Option Addr) (c' : Nat), bv = .slice A' (xs ++ numsI (l.take k)).length c' ∧ iv = .int .i64 k ∧ k ≤ l.length ∧ ByR wr A' c' (xs ++ numsI (l.take k)) ∧ Stp w wr A A') (fun _ iv _ => l.length - (intOf iv).toNat)
  case atStart => exact ⟨0, A, c, by simp [numsI], rfl, Nat.zero_le _, by simpa [numsI] using H0.out.1, Stp.refl _ _⟩
  case round =>
    obtain ⟨k, A', c', rfl, rfl, hk, hB, hS⟩ := hrel
    by_cases hlt : k < l.length
    · obtain ⟨b, off, x, ha, hx0, hx1⟩ := (H0.out.2.1.only hS.only (fun b off s e => H0.out.2.2 b off s e)).int hlt
      have hB4 := hB
      have hxl : (xs ++ numsI (l.take k)).length + (numI x).length ≤ 1000000 := by
        have h1 := numsI_le (l.take k)
        have h2 := natI_le (u64n x)
        have h3 : (l.take k).length ≤ l.length := List.length_take_le' _ _
        rw [List.length_append]
        unfold numI
        omega
      have hsn : numsI (l.take (k + 1)) = numsI (l.take k) ++ numI x := by rw [List.take_add_one, hx0, Option.toList_some, numsI_snoc]
      have HP := Lib.hid (And.intro hB (And.intro hS (And.intro hxl (And.intro hsn ha))))
      have HCP := Lib.hid (show Calls Try.prog 69 #[.int .u64 (IntKind.u64.wrap x)] wr (PutE (numI x) wr) by rw [u64n_wrap]; exact rput_e _ (u64n_lt x) wr)
      have hml : l.length ≤ 1000 := hn
      obtain ⟨ys, hys⟩ : ∃ ys, xs ++ numsI (l.take k) = ys := ⟨_, rfl⟩
      rw [hys] at HP ⊢
      have HYS := Lib.hid hys
      clear hB4 hB hS hxl hsn hx0 hys
      rw [ha]
      clear ha
      go_wp2_with fail
      refine HCP.out.mono ?_
      rintro e w1 ⟨B, cb, rfl, hb1, hb2, hb3⟩
      obtain ⟨A2, c2, w2, hr2, hB2, hS2⟩ := by_append (cb := cb) (HP.out.1.keep hb2) hb1.at HP.out.2.2.1
      have HR := Lib.hid hr2
      have HF := Lib.hid (And.intro hB2 ((HP.out.2.1.trans (Stp.below _ hb2)).trans hS2))
      clear hr2 hB2 hS2 hb1 hb2 hb3
      go_wp2_with (first
        | (refine wpList_append_run (o := ⟨some 19, _, _, _, _, _⟩) rfl _ _ _ _ rfl rfl rfl (HR.out _) ?_))
      have he : ys ++ numI x = xs ++ numsI (l.take (k + 1)) := by rw [HP.out.2.2.2.1, ← HYS.out, List.append_assoc]
      have HG := Lib.hid (show ByR w2 A2 c2 (xs ++ numsI (l.take (k + 1))) ∧ Stp w w2 A A2 by rw [← he]; exact HF.out)
      exact ⟨⟨k + 1, A2, c2, by rw [← he, List.length_append], by push_cast; rfl, by omega, HG.out.1, HG.out.2⟩, by simp [intOf]; omega⟩
    · obtain rfl : k = l.length := by omega
      rw [List.take_length] at hB ⊢
      have HB := Lib.hid (And.intro hB hS)
      clear hB hS
      go_wp2_with fail
      go_ret
      exact ⟨A', c', rfl, HB.out.1, HB.out.2⟩
end Go.Proofs.Ytdenaejhfgmihaa
