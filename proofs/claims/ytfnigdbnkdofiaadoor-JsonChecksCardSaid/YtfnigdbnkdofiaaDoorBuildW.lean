/- strings.Builder, made by the call itself: WriteByte, Write, WriteString, String: the contracts. -/
import Derived.Test.YtfnigdbnkdofiaaDoorBuild
import Derived.Lib.AppendStr
namespace Go.Proofs.YtfnigdbnkdofiaaDoor
open Go.RowKit
set_option linter.unusedVariables false
set_option linter.unusedSimpArgs false

theorem owns_only {w w' : World} {e : TypeId} {A : Option Addr} {n c : Nat} {xs : List Value} {S : Nat → Prop} (h : w.ownsRow 0 e 1 (.slice A n c) n xs) (ho : Only S w w') (hn : ∀ a, A = some a → ¬ S a.block) : w'.ownsRow 0 e 1 (.slice A n c) n xs := by
  refine ⟨h.1, h.2.imp id ?_⟩
  rintro ⟨g, cap, cur, h1, h2, h3, h4⟩
  refine ⟨g, cap, cur, h1, h2, ?_, h4⟩
  injection h1 with hA _ _
  rw [ho.block g (Array.getElem?_eq_some_iff.1 h3).1 (hn _ hA)]
  exact h3

theorem bu_put {S : Nat → Prop} {b n m : Nat} {bs l : List UInt8} {A A' : Option Addr} {c c' : Nat} {w w1 w2 w' : World} (h0 : S b)
    (hB : Blk w1 b 63 #[.pointer (some ⟨b, 0, none⟩), .slice A n c]) (h4 : ∀ a, A = some a → S a.block ∧ a.block ≠ b) (ho : Only S w w1) (hS : ∀ k, w.heap.size ≤ k → S k)
    (hb : Below w1.heap.size w1 w2) (r2 : w'.ownsRow 0 5 1 (.slice A' m c') m (Lib.byteCells (bs ++ l))) (hm : m = (bs ++ l).length) (r3 : w2.grownBy w' (Value.slice A n c).ownBlock) (r4 : (A' = A ∧ c' = c) ∨ A' = some ⟨w2.heap.size, 0, none⟩) :
    Blk w' b 63 #[.pointer (some ⟨b, 0, none⟩), .slice A n c] ∧ Bu S b (bs ++ l) (w'.setCell ⟨b, 1, none⟩ (.slice A' m c')) ∧ Only S w (w'.setCell ⟨b, 1, none⟩ (.slice A' m c')) := by
  have hB2 := hB.below hb hB.lt
  have hne : some b ≠ (Value.slice A n c).ownBlock := by
    cases A with
    | none => simp [Value.ownBlock]
    | some a => simpa [Value.ownBlock] using fun e => (h4 a rfl).2 e.symm
  have hB3 : Blk w' b 63 #[.pointer (some ⟨b, 0, none⟩), .slice A n c] := by
    unfold Blk
    rw [r3.block b hB2.lt hne]
    exact hB2
  have hA' : ∀ a, A' = some a → S a.block ∧ a.block ≠ b := by
    intro a ha
    rcases r4 with ⟨e1, _⟩ | e1
    · exact h4 a (by rw [← e1]; exact ha)
    · rw [e1] at ha
      injection ha with ha
      subst ha
      have h1 := hb.size
      have h2 := ho.size
      have h3 := hB2.lt
      exact ⟨hS _ (by show w.heap.size ≤ w2.heap.size; omega), by show w2.heap.size ≠ b; omega⟩
  have ho2 : Only S w w' := by
    refine ho.trans ((Only.of_below hb).trans ⟨r3.os, r3.tape, r3.output, r3.size, fun k hk hn => r3.block k hk ?_⟩)
    intro e
    cases A with
    | none => simp [Value.ownBlock] at e
    | some a =>
      simp only [Value.ownBlock, Option.some.injEq] at e
      exact hn (by rw [e]; exact (h4 a rfl).1)
  have hset := hB3.set_ 1 (.slice A' m c')
  have ho3 := (Only.refl (fun k => k = b) w').setCell (p := ⟨b, 1, none⟩) rfl (.slice A' m c')
  refine ⟨hB3, ⟨h0, _, A', c', .inr rfl, ?_, ?_, hA'⟩, ho2.setCell (p := ⟨b, 1, none⟩) h0 _⟩
  · rw [← hm]; simpa using hset
  · rw [← hm]; exact owns_only r2 ho3 (fun a ha => (hA' a ha).2)

set_option maxRecDepth 100000 in
set_option maxHeartbeats 1000000 in
theorem bu_byte (S : Nat → Prop) (b : Nat) (bs : List UInt8) (x : UInt8) (w : World) (h : Bu S b bs w) (hS : ∀ k, w.heap.size ≤ k → S k) (hl : bs.length ≤ 1000000000) :
    Calls Tryd.prog 47 #[.pointer (some ⟨b, 0, none⟩), .int .u8 x.toNat] w fun e w' => e = .returned .nilIface ∧ Bu S b (bs ++ [x]) w' ∧ Only S w w' := by
  obtain ⟨h0, p, A, c, h1, h2, h3, h4⟩ := h
  go_enter Tryd.func47, Tryd.ntmps47
  go_wp2_with (go_at_call 69; refine (copy_check b p _ _ h1 h2).mono ?_)
  rintro e w1 ⟨rfl, hb1, ho1⟩
  have h31 := owns_only h3 ho1 (fun a ha => (h4 a ha).2)
  have ho : Only S w w1 := ho1.mono (fun k _ hk => by rw [hk]; exact h0)
  have c1 : w1.cell? ⟨b, 1, none⟩ = some (.slice A bs.length c) := hb1.cell 1
  have hbel := (Below.refl w1.heap.size w1).alloc (Nat.le_refl _) (.cells #[.int .u8 x.toNat] 5 (0, 0))
  have hnew : SlAt (w1.alloc (.cells #[.int .u8 x.toNat] 5 (0, 0))) (some ⟨w1.heap.size, 0, none⟩) [.int .u8 x.toNat] :=
    .inr ⟨_, 0, rfl, fun j u hu => by rw [Nat.zero_add, (Blk.new w1 5 #[.int .u8 x.toNat]).cell]; simpa using hu⟩
  obtain ⟨A', c', w', r1, r2, r3, r4⟩ := run_append_sl (P := Tryd.prog) (w1.alloc (.cells #[.int .u8 x.toNat] 5 (0, 0))) 40 40 5 Tryd.underlying40 infoB rfl (by decide) A bs.length c (Lib.byteCells bs) (h31.alloc _) (some ⟨w1.heap.size, 0, none⟩) 1 1 [.int .u8 x.toNat] rfl hnew (bytes_one [x]) (by simp only [maxLen]; omega) (by omega)
  obtain ⟨f1, f2, f3⟩ := bu_put (l := [x]) h0 hb1 h4 ho hS hbel (by rw [Lib.byteCells_append]; exact r2) (by simp) r3 r4
  have d1 := f1.cell 1
  have e1 := f1.frozen 1
  have HF := Lib.hid (And.intro f2 f3)
  clear f1 f2 f3 r2 r3 r4 hnew hbel h31 ho ho1 hb1 h2 h3 h4 hS
  go_wp2_with (at_builtin; refine wpList_append_run rfl _ _ _ _ rfl rfl rfl r1 ?_)
  go_wp2_with fail
  go_ret
  exact ⟨rfl, HF.out.1, HF.out.2⟩

set_option maxRecDepth 100000 in
set_option maxHeartbeats 1000000 in
theorem bu_bytes (S : Nat → Prop) (b : Nat) (bs l : List UInt8) (Al : Option Addr) (cl : Nat) (w : World) (h : Bu S b bs w) (hS : ∀ k, w.heap.size ≤ k → S k) (hl : bs.length + l.length ≤ 1000000000)
    (hAl : SlAt w Al (Lib.byteCells l)) (hnb : ∀ a, Al = some a → a.block ≠ b) :
    Calls Tryd.prog 73 #[.pointer (some ⟨b, 0, none⟩), .slice Al l.length cl] w fun e w' => e = .returned (.tuple #[.int .i64 l.length, .nilIface]) ∧ Bu S b (bs ++ l) w' ∧ Only S w w' := by
  obtain ⟨h0, p, A, c, h1, h2, h3, h4⟩ := h
  go_enter Tryd.func73, Tryd.ntmps73
  go_wp2_with (go_at_call 69; refine (copy_check b p _ _ h1 h2).mono ?_)
  rintro e w1 ⟨rfl, hb1, ho1⟩
  have h31 := owns_only h3 ho1 (fun a ha => (h4 a ha).2)
  have ho : Only S w w1 := ho1.mono (fun k _ hk => by rw [hk]; exact h0)
  have c1 : w1.cell? ⟨b, 1, none⟩ = some (.slice A bs.length c) := hb1.cell 1
  have hAl1 := hAl.only ho1 (fun q off s e => hnb _ e)
  obtain ⟨A', c', w', r1, r2, r3, r4⟩ := run_append_sl (P := Tryd.prog) w1 40 40 5 Tryd.underlying40 infoB rfl (by decide) A bs.length c (Lib.byteCells bs) h31 Al l.length cl (Lib.byteCells l) (by rw [Lib.byteCells_length]; omega) hAl1 (bytes_one l) (by simp only [maxLen]; omega) (by omega)
  obtain ⟨f1, f2, f3⟩ := bu_put (l := l) h0 hb1 h4 ho hS (Below.refl _ _) (by rw [Lib.byteCells_append]; exact r2) (by simp) r3 r4
  have d1 := f1.cell 1
  have e1 := f1.frozen 1
  have HF := Lib.hid (And.intro f2 f3)
  clear f1 f2 f3 r2 r3 r4 hAl1 h31 ho ho1 hb1 h2 h3 h4 hS hAl hnb
  go_wp2_with (at_builtin; refine wpList_append_run rfl _ _ _ _ rfl rfl rfl r1 ?_)
  go_wp2_with fail
  go_ret2
  exact ⟨rfl, HF.out.1, HF.out.2⟩

theorem run_append_str {P : Program} (w : World) (t u ty e : TypeId) (i : TypeInfo) (ht : P.underlying t = some (.slice e)) (hu : P.underlying u = some .string) (hi : P.info? e = some i) (hz : i.zero = some (.int .u8 0)) (hsize : i.size = 1) (hby : i.bytes = 1)
    (A : Option Addr) (n c : Nat) (xs : List Value) (hown : w.ownsRow 0 e 1 (.slice A n c) n xs) (s : ByteArray) (h63 : n + s.size ≤ maxLen) (hbytes : n + s.size ≤ 140737488355328) :
    ∃ A' c' w', (Builtin.append_ #[t, u] ty #[.slice A n c, .string s]).run P w = .ok (.slice A' (n + s.size) c') w' ∧ w'.ownsRow 0 e 1 (.slice A' (n + s.size) c') (n + s.size) (xs ++ Lib.strCells s) ∧
      w.grownBy w' (Value.slice A n c).ownBlock ∧ ((A' = A ∧ c' = c) ∨ A' = some ⟨w.heap.size, 0, none⟩) := by
  have hsmall : n + s.size ≤ 9223372036854775807 := by simp only [maxLen] at h63; omega
  obtain ⟨v', w', r1, r2, r3, r5⟩ := Lib.run_append_own_string (P := P) w 0 t u ty e i ht hu hi hz hsize hby _ n xs hown s h63 hbytes (Nat.zero_le _)
  obtain ⟨A', c', rfl⟩ := slice_of_owns r2
  refine ⟨A', c', w', r1, r2, r3, ?_⟩
  rcases hown.2 with ⟨hv, h0⟩ | ⟨g, cap, cur, hv, hbg, hg, hnc, hcm, hcs, htake⟩
  · injection hv with q1 q2 q3
    subst q1 q2 q3
    by_cases hm : s.size = 0
    · have := r5.2 ⟨rfl, hm⟩
      injection this with a1 a2 a3
      exact .inl ⟨a1, a3⟩
    · have hr := run_append_nil_string (P := P) w t u ty e i (.int .u8 0) ht hu hi hz s (by omega) (by omega) (by rw [hby]; omega)
      rw [Nat.zero_add] at r1
      rw [r1] at hr
      injection hr with e1 e2
      injection e1 with a1 a2 a3
      exact .inr a1
  · injection hv with q1 q2 q3
    subst q1 q3
    by_cases hroom : n + s.size ≤ c
    · have hr := Lib.run_append_room_string (P := P) w t u ty e i ht hu hi hsize g n c cur hg s hroom (by omega)
      rw [r1] at hr
      injection hr with e1 e2
      injection e1 with a1 a2 a3
      exact .inl ⟨a1, a3⟩
    · have hr := Lib.run_append_grow_string (P := P) w t u ty e i (.int .u8 0) ht hu hi hz ⟨g, 0, none⟩ n c xs (by rw [hsize]; exact hown.1) (fun j v hj => by
        have := SlAt.of_owns hown
        rcases this with h | ⟨b, off, hb, hc⟩
        · rw [h] at hj; simp at hj
        · injection hb with hb; injection hb with b1 b2; subst b1 b2
          have h2 := hc j v hj
          rw [Nat.zero_add] at h2
          have hadd : (⟨g, 0, none⟩ : Addr).add j = ⟨g, j, none⟩ := by unfold Addr.add; split <;> simp_all
          rw [hadd]; exact h2) s (by omega) (by omega) (by rw [hby]; exact growslice_fits (by omega) (by omega))
      rw [r1] at hr
      injection hr with e1 e2
      injection e1 with a1 a2 a3
      exact .inr a1

set_option maxRecDepth 100000 in
set_option maxHeartbeats 1000000 in
theorem bu_str (S : Nat → Prop) (b : Nat) (bs : List UInt8) (s : ByteArray) (w : World) (h : Bu S b bs w) (hS : ∀ k, w.heap.size ≤ k → S k) (hl : bs.length + s.size ≤ 1000000000) :
    Calls Tryd.prog 45 #[.pointer (some ⟨b, 0, none⟩), .string s] w fun e w' => e = .returned (.tuple #[.int .i64 s.size, .nilIface]) ∧ Bu S b (bs ++ s.data.toList) w' ∧ Only S w w' := by
  obtain ⟨h0, p, A, c, h1, h2, h3, h4⟩ := h
  obtain ⟨i0, hi, hz0, hz1, hz2⟩ := info_parts infoB
  go_enter Tryd.func45, Tryd.ntmps45
  go_wp2_with (go_at_call 69; refine (copy_check b p _ _ h1 h2).mono ?_)
  first | (rintro e w1 rfl hb1 ho1) | (rintro e w1 ⟨rfl, hb1, ho1⟩)
  have h31 := owns_only h3 ho1 (fun a ha => (h4 a ha).2)
  have ho : Only S w w1 := ho1.mono (fun k _ hk => by rw [hk]; exact h0)
  have c1 : w1.cell? ⟨b, 1, none⟩ = some (.slice A bs.length c) := hb1.cell 1
  obtain ⟨A', c', w', r1, r2, r3, r4⟩ := run_append_str (P := Tryd.prog) w1 40 9 40 5 i0 Tryd.underlying40 Tryd.underlying9 hi hz0 hz1 hz2 A bs.length c (Lib.byteCells bs) h31 s (by simp only [maxLen]; omega) (by omega)
  have hlen : bs.length + s.size = (bs ++ s.data.toList).length := by rw [List.length_append]; rfl
  obtain ⟨f1, f2, f3⟩ := bu_put (l := s.data.toList) h0 hb1 h4 ho hS (Below.refl _ _) (by rw [Lib.byteCells_append, ← Lib.strCells_eq]; exact r2) hlen r3 r4
  have d1 := f1.cell 1
  have e1 := f1.frozen 1
  have HF := Lib.hid (And.intro f2 f3)
  clear f1 f2 f3 r2 r3 r4 h31 ho ho1 hb1 h2 h3 h4 hS hlen
  go_wp2_with (at_builtin; refine wpList_append_run rfl _ _ _ _ rfl rfl rfl r1 ?_)
  go_wp2_with fail
  go_ret2
  exact ⟨rfl, HF.out.1, HF.out.2⟩
end Go.Proofs.YtfnigdbnkdofiaaDoor
