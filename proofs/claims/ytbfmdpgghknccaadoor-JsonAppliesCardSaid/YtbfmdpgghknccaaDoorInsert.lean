/- slices.Insert of one element into an owned row, at strings, at trees. -/
import Derived.Test.YtbfmdpgghknccaaDoorJsonOwn
import Derived.Test.YtbfmdpgghknccaaDoorRow
import Derived.Test.YtbfmdpgghknccaaDoorSlicesClone
import Derived.Lib.Overlaps
import Derived.StillTailTactics
import Derived.Outline
namespace Go.Proofs.YtbfmdpgghknccaaDoor
open Go.RowKit
set_option linter.unusedVariables false
set_option linter.unusedSimpArgs false

/-- 'copy' where its run is known. -/
theorem wp_copy_run {P : Program} (w : World) {o : Oper} {a : Act} {K : Act → World → Prop} {Q : Exit → Act → World → Prop} (d s : Operand) (t t' : TypeId)
    (ho : o.op = .call { callee := .builtin .copy, args := #[d, s], argTypes := #[t, t'] }) (v u : Value) (hd : a.eval d = v) (hs : a.eval s = u) {v' : Value} {w' : World}
    (hr : (Builtin.copy_ #[t, t'] o.type #[v, u]).run P w = .ok v' w') (h : K (a.put o.dst v') w') : o.wp P a w K Q := by
  unfold Oper.wp execOp
  simp only [ho, resolve, invoke, builtin, Sem.run_bind, Sem.run_pure, Result.andThen_ok, List.map_toArray, List.map_cons, List.map_nil, hd, hs, hr]
  exact h
theorem wpList_copy_run {P : Program} (w : World) {ops : Array Oper} {rest : List Oper} {o : Oper} {a : Act} {Q : Exit → Act → World → Prop} (hgd : o.guard = none) (d s : Operand) (t t' : TypeId)
    (ho : o.op = .call { callee := .builtin .copy, args := #[d, s], argTypes := #[t, t'] }) (v u : Value) (hd : a.eval d = v) (hs : a.eval s = u) {v' : Value} {w' : World}
    (hr : (Builtin.copy_ #[t, t'] o.type #[v, u]).run P w = .ok v' w') (h : wpList P ops Q rest (a.put o.dst v') w') : wpList P ops Q (o :: rest) a w :=
  wpList_plain hgd fun _ hK => wp_copy_run w d s t t' ho v u hd hs hr (hK _ _ h)

/-- The row with one element more; nothing else has turned. -/
def InsQ (E : TypeId) (sz : Nat) (w : World) (A : Option Addr) (n : Nat) (xs : List Value) (e : Ending) (w' : World) : Prop :=
  ∃ A' c', e = .returned (.slice A' (n + 1) c') ∧ w'.ownsRow 0 E sz (.slice A' (n + 1) c') (n + 1) xs ∧ Only (· ∈ blkOf A) w w' ∧ ∀ b ∈ blkOf A', b ∈ blkOf A ∨ w.heap.size ≤ b
theorem setRow_blk {w : World} {g : Nat} {t : TypeId} {cur : Array Value} (h : Blk w g t cur) (cur' : Array Value) : Blk (w.setRow g cur') g t cur' := setRow_heap w g cur cur' t (0, 0) h
theorem setRow_only (w : World) (g : Nat) (cur' : Array Value) : Only (· = g) w (w.setRow g cur') := ⟨rfl, rfl, rfl, by simp, fun k _ hk => setRow_other w g k cur' hk⟩
theorem ins_room {cur : List Value} {xs vs : List Value} {c n i sz : Nat} (hcs : cur.length = c * sz) (htk : cur.take (n * sz) = xs) (hvl : vs.length = sz) (hi : i < n) (hr : n + 1 ≤ c) {cur1 cur2 : List Value}
    (h1 : cur1 = cur.take ((i + 1) * sz) ++ xs.drop (i * sz) ++ cur.drop ((i + 1) * sz + (xs.drop (i * sz)).length)) (h2 : cur2 = cur1.take (i * sz) ++ vs ++ cur1.drop (i * sz + vs.length)) :
    cur1.length = c * sz ∧ cur2.length = c * sz ∧ cur2.take ((n + 1) * sz) = xs.take (i * sz) ++ vs ++ xs.drop (i * sz) := by
  have a1 : i * sz + sz = (i + 1) * sz := by rw [Nat.add_mul, Nat.one_mul]
  have a2 : n * sz + sz = (n + 1) * sz := by rw [Nat.add_mul, Nat.one_mul]
  have a3 : (i + 1) * sz ≤ n * sz := Nat.mul_le_mul_right _ hi
  have a4 : (n + 1) * sz ≤ c * sz := Nat.mul_le_mul_right _ hr
  have hxl : xs.length = n * sz := by rw [← htk, List.length_take]; omega
  have hdl : (xs.drop (i * sz)).length = n * sz - i * sz := by rw [List.length_drop, hxl]
  have e1 : (cur.take ((i + 1) * sz)).length = (i + 1) * sz := by rw [List.length_take]; omega
  have e2 : cur1.take (i * sz) = xs.take (i * sz) := by
    rw [h1, List.append_assoc, List.take_append_of_le_length (by omega), List.take_take, ← htk, List.take_take]
    congr 1
    omega
  have e3 : cur1.drop (i * sz + vs.length) = xs.drop (i * sz) ++ cur.drop ((n + 1) * sz) := by
    rw [h1, List.append_assoc, hvl, a1, List.drop_append, e1, Nat.sub_self, List.drop_zero, List.drop_of_length_le (by omega), List.nil_append, hdl]
    congr 2
    omega
  have l1 : cur1.length = c * sz := by
    rw [h1]
    simp only [List.length_append, List.length_drop, e1, hdl, hcs, hxl]
    omega
  have e4 : cur2 = (xs.take (i * sz) ++ vs ++ xs.drop (i * sz)) ++ cur.drop ((n + 1) * sz) := by rw [h2, e2, e3]; simp [List.append_assoc]
  have e5 : (xs.take (i * sz) ++ vs ++ xs.drop (i * sz)).length = (n + 1) * sz := by
    simp only [List.length_append, List.length_take, hdl, hvl, hxl]
    omega
  refine ⟨l1, ?_, ?_⟩
  · rw [e4, List.length_append, e5, List.length_drop, hcs]; omega
  · rw [e4, ← e5, List.take_left]
theorem ins_grow {cur0 : List Value} {xs vs : List Value} {G n i sz : Nat} (hxl : xs.length = n * sz) (hc0 : cur0.length = G * sz) (ht0 : cur0.take (i * sz) = xs.take (i * sz)) (hvl : vs.length = sz) (hi : i < n) (hr : n + 1 ≤ G) {cur1 cur2 : List Value}
    (h1 : cur1 = cur0.take (i * sz) ++ vs ++ cur0.drop (i * sz + vs.length)) (h2 : cur2 = cur1.take ((i + 1) * sz) ++ xs.drop (i * sz) ++ cur1.drop ((i + 1) * sz + (xs.drop (i * sz)).length)) :
    cur1.length = G * sz ∧ cur2.length = G * sz ∧ cur2.take ((n + 1) * sz) = xs.take (i * sz) ++ vs ++ xs.drop (i * sz) := by
  have a1 : i * sz + sz = (i + 1) * sz := by rw [Nat.add_mul, Nat.one_mul]
  have a2 : n * sz + sz = (n + 1) * sz := by rw [Nat.add_mul, Nat.one_mul]
  have a3 : (i + 1) * sz ≤ n * sz := Nat.mul_le_mul_right _ hi
  have a4 : (n + 1) * sz ≤ G * sz := Nat.mul_le_mul_right _ hr
  have hdl : (xs.drop (i * sz)).length = n * sz - i * sz := by rw [List.length_drop, hxl]
  have htl : (xs.take (i * sz)).length = i * sz := by rw [List.length_take, hxl]; omega
  have l1 : cur1.length = G * sz := by
    rw [h1, ht0]
    simp only [List.length_append, List.length_drop, htl, hvl, hc0]
    omega
  have e1 : cur1.take ((i + 1) * sz) = xs.take (i * sz) ++ vs := by
    rw [h1, ht0]
    have : (xs.take (i * sz) ++ vs).length = (i + 1) * sz := by rw [List.length_append, htl, hvl, a1]
    rw [← this, List.take_left]
  have e4 : cur2 = (xs.take (i * sz) ++ vs ++ xs.drop (i * sz)) ++ cur1.drop ((i + 1) * sz + (xs.drop (i * sz)).length) := by rw [h2, e1]
  have e5 : (xs.take (i * sz) ++ vs ++ xs.drop (i * sz)).length = (n + 1) * sz := by
    simp only [List.length_append, htl, hdl, hvl]
    omega
  refine ⟨l1, ?_, ?_⟩
  · rw [e4, List.length_append, e5, List.length_drop, l1, hdl]; omega
  · rw [e4, ← e5, List.take_left]
theorem only_grown {w w' : World} {A : Option Addr} {n c : Nat} (h : w.grownBy w' (Value.slice A n c).ownBlock) : Only (· ∈ blkOf A) w w' :=
  ⟨h.os, h.tape, h.output, h.size, fun k hk hn => h.block k hk (fun e => hn (by
    cases A with
    | none => cases e
    | some a => simp only [Value.ownBlock] at e; injection e with e; subst e; simp [blkOf]))⟩

set_option maxRecDepth 100000 in
set_option maxHeartbeats 2000000 in
/-- At the end. -/
theorem insertStr_end (A : Option Addr) (n c : Nat) (xs : List Value) (vb : Nat) (vs : List Value) (w : World) (hown : w.ownsRow 0 9 1 (.slice A n c) n xs) (hn : n ≤ 1000) (hv : Blk w vb 9 vs.toArray) (hvl : vs.length = 1) (h1 : ∀ u ∈ vs, u.oneCell' = true) :
    Calls Tryd.prog 53 #[.slice A n c, .int .i64 n, .slice (some ⟨vb, 0, none⟩) 1 1] w (InsQ 9 1 w A n (xs ++ vs)) := by
  obtain ⟨A', c', w', hr, ho, hg, hA'⟩ := run_append_own2 (P := Tryd.prog) w 26 26 9 Tryd.underlying26 infoStr rfl (by decide) A n c xs hown ⟨vb, 0, none⟩ 1 1 (by omega) vs (by simpa using hvl)
    (fun j u hu => by rw [Addr.add_lit, Nat.zero_add, hv.cell j]; simpa using hu) h1 (by simp only [maxLen]; omega) (by omega)
  have HR := Lib.hid (show ∀ ty, (Builtin.append_ #[26, 26] ty #[.slice A n c, .slice (some ⟨vb, 0, none⟩) 1 1]).run Tryd.prog w = .ok (.slice A' (n + 1) c') w' from fun _ => hr)
  have HO := Lib.hid (And.intro ho (only_grown hg))
  have hnew : ∀ b ∈ blkOf A', b ∈ blkOf A ∨ w.heap.size ≤ b := by
    rcases hA' with ⟨rfl, _⟩ | rfl
    · intro b hb; exact .inl hb
    · intro b hb; simp [blkOf] at hb; exact .inr (by omega)
  have HN := Lib.hid hnew
  have hnc : n ≤ c ∧ c ≤ 9223372036854775807 := by
    rcases hown.2 with ⟨hv, h0⟩ | ⟨g, cap, cur, hv, _, _, h1, h2, _⟩
    · injection hv with _ _ hc; subst hc; omega
    · injection hv with _ _ hc; subst hc; exact ⟨h1, Nat.le_trans h2 (by decide)⟩
  obtain ⟨hnc, hcm⟩ := hnc
  have hA0 : A = none ∨ ∃ g, A = some ⟨g, 0, none⟩ := by
    rcases hown.2 with ⟨hv, h0⟩ | ⟨g, cap, cur, hv, _⟩
    · injection hv with hv; exact .inl hv
    · injection hv with hv; exact .inr ⟨g, hv⟩
  clear hr ho hg hA' hnew hown hv hvl h1
  rcases hA0 with rfl | ⟨g, rfl⟩
  all_goals
    go_enter Tryd.func53, Tryd.ntmps53
    go_wp2_with (at_builtin; refine Lib.wpList_append_run _ rfl _ _ _ _ rfl _ _ rfl rfl _ _ (HR.out _) ?_)
    all_goals
      go_ret
      exact ⟨A', c', rfl, HO.out.1, HO.out.2, HN.out⟩

theorem overlapsStr_no (w : World) (vb g off la ca lb cb : Nat) (hne : vb ≠ g) {cs cur : Array Value} (hv : Blk w vb 9 cs) (hg : Blk w g 9 cur) (hk : cur.size ≠ 0) :
    (callFunc 71 #[.slice (some ⟨vb, 0, none⟩) la ca, .slice (some ⟨g, off, none⟩) lb cb]).run Tryd.prog w = .ok (.value (.bool false)) w := by
  have hs1 : w.shape? vb = some (9, cs.size) := by unfold Blk at hv; simp [World.shape?, hv]
  have hs2 : w.shape? g = some (9, cur.size) := by unfold Blk at hg; simp [World.shape?, hg]
  rw [run_callFunc_extern Tryd.func71 (by kernel_rfl) (by kernel_rfl) (by kernel_rfl) (e := Extern.SlicesOverlaps.overlaps #[26, 26] #[4]) (by kernel_rfl),
    Lib.run_overlaps_apart w 26 4 9 Tryd.underlying26 1 Tryd.sizeOf9 ⟨vb, 0, none⟩ ⟨g, off, none⟩ la ca lb cb hne _ _ _ _ hs1 hs2 hk (hv.frozen 0) (hv.frozen _)]
  rfl

set_option maxRecDepth 100000 in
set_option maxHeartbeats 2000000 in
/-- Ahead of some, where there is room. -/
theorem insertStr_room (g n c i : Nat) (xs : List Value) (vb : Nat) (vs : List Value) (w : World) (hown : w.ownsRow 0 9 1 (.slice (some ⟨g, 0, none⟩) n c) n xs) (hn : n ≤ 1000) (hi : i < n) (hroom : n + 1 ≤ c) (hv : Blk w vb 9 vs.toArray) (hvl : vs.length = 1) (h1 : ∀ u ∈ vs, u.oneCell' = true) (h2 : ∀ u ∈ xs, u.oneCell' = true) (hne : vb ≠ g) :
    Calls Tryd.prog 53 #[.slice (some ⟨g, 0, none⟩) n c, .int .i64 i, .slice (some ⟨vb, 0, none⟩) 1 1] w (InsQ 9 1 w (some ⟨g, 0, none⟩) n (xs.take (i * 1) ++ vs ++ xs.drop (i * 1))) := by
  have hni : ¬ (i : Int) = (n : Int) := by omega
  have hcm : c ≤ 9223372036854775807 := by
    rcases hown.2 with ⟨hv, h0⟩ | ⟨g, cap, cur, hv, _, _, h1, h2, _⟩
    · cases hv
    · injection hv with _ _ hc; subst hc; exact Nat.le_trans h2 (by decide)
  obtain ⟨cur, hg, hcs, htk⟩ : ∃ cur, Blk w g 9 cur ∧ cur.size = c * 1 ∧ cur.toList.take (n * 1) = xs := by
    rcases hown.2 with ⟨hv, h0⟩ | ⟨g', cap, cur, hv, _, hg, _, _, h3, h4⟩
    · cases hv
    · injection hv with hv _ hc; injection hv with hv; injection hv with hv; subst hv hc; exact ⟨cur, hg, h3, h4⟩
  have hov : ∀ lb cb off, (callFunc 71 #[.slice (some ⟨vb, 0, none⟩) 1 1, .slice (some ⟨g, off, none⟩) lb cb]).run Tryd.prog w = .ok (.value (.bool false)) w := fun lb cb off => overlapsStr_no w vb g off 1 1 lb cb hne hv hg (by rw [hcs]; omega)
  have HH := Lib.hid (And.intro hown (And.intro hv (And.intro hvl (And.intro h1 (And.intro h2 (And.intro hg (And.intro hcs htk)))))))
  clear hown hv hvl h1 h2 hg hcs htk
  go_enter Tryd.func53, Tryd.ntmps53
  go_wp2_with (simp only [hov])
  have hb1 : (0 : Int) ≤ (i : Int) + 1 := by omega
  have hb2 : ¬ (c = i + 1) := by omega
  have hb3 : (i : Int) ≤ (n : Int) + 1 := by omega
  have hb4 : ¬ (c = i) := by omega
  have hb5 : (i : Int) + 1 ≤ (n : Int) + 1 := by omega
  have htn : ((i : Int) + 1).toNat = i + 1 := by omega
  have hw1 : IntKind.i64.wrap ((i : Int) + 1) = (i : Int) + 1 := by rw [IntKind.wrap_i64]; omega
  obtain ⟨hown, hv, hvl, h1, h2, hg, hcs, htk⟩ := HH.out
  have hxl : xs.length = n * 1 := hown.1
  have hdl : (xs.drop (i * 1)).length = (n - i) * 1 := by rw [List.length_drop, hxl, Nat.sub_mul]
  obtain ⟨cur1, hc1⟩ : ∃ cur1, (cur.toList.take (i + 1) ++ xs.drop (i * 1) ++ cur.toList.drop (i + 1 + (xs.drop (i * 1)).length)).toArray = cur1 := ⟨_, rfl⟩
  obtain ⟨cur2, hc2⟩ : ∃ cur2, (cur1.toList.take (i) ++ vs ++ cur1.toList.drop (i + vs.length)).toArray = cur2 := ⟨_, rfl⟩
  have hins := ins_room (cur := cur.toList) (by simpa using hcs) htk hvl hi hroom (cur1 := cur1.toList) (cur2 := cur2.toList) (by rw [← hc1]; try simp) (by rw [← hc2]; try simp)
  have hcp1 : ∀ ty dc sc, (Builtin.copy_ #[26, 26] ty #[.slice (some ⟨g, i + 1, none⟩) (n + 1 - (i + 1)) dc, .slice (some ⟨g, i, none⟩) (n + 1 - i) sc]).run Tryd.prog w.drew = .ok (goInt (Nat.min (n + 1 - i) (n + 1 - (i + 1)) : Nat)) (w.drew.setRow g cur1) := fun ty dc sc => by
    rw [← hc1]
    exact run_copy_rowK w.drew _ _ ty 9 1 g (i + 1) (n + 1 - (i + 1)) dc ⟨g, i, none⟩ (n + 1 - i) sc cur 9 (xs.drop (i * 1)) Tryd.underlying26 (by kernel_rfl) hg (by rw [hdl]; try (simp only [Nat.min_def]; split <;> omega))
      (fun j u hj => by
        rw [Addr.add_lit]
        rw [List.getElem?_drop, ← htk, List.getElem?_take] at hj
        split at hj
        · rw [(show Blk w.drew g _ cur from hg).cell]; simpa using hj
        · cases hj) (by rw [hdl, hcs]; omega) (fun u hu => h2 u (List.mem_of_mem_drop hu))
  have hB1 : Blk (w.drew.setRow g cur1) g 9 cur1 := setRow_blk (show Blk w.drew g _ cur from hg) cur1
  have hV1 : Blk (w.drew.setRow g cur1) vb 9 vs.toArray := (show Blk w.drew vb _ _ from hv).only (setRow_only _ _ _) hne
  have hcp2 : ∀ ty dc, (Builtin.copy_ #[26, 26] ty #[.slice (some ⟨g, i, none⟩) (n + 1 - i) dc, .slice (some ⟨vb, 0, none⟩) 1 1]).run Tryd.prog (w.drew.setRow g cur1) = .ok (goInt (Nat.min 1 (n + 1 - i) : Nat)) ((w.drew.setRow g cur1).setRow g cur2) := fun ty dc => by
    rw [← hc2]
    exact run_copy_rowK _ _ _ ty 9 1 g (i) (n + 1 - i) dc ⟨vb, 0, none⟩ 1 1 cur1 9 vs Tryd.underlying26 (by kernel_rfl) hB1 (by rw [hvl]; try (simp only [Nat.min_def]; split <;> omega))
      (fun j u hj => by rw [Addr.add_lit, Nat.zero_add, hV1.cell]; simpa using hj) (by have := hins.1; rw [Array.length_toList] at this; rw [hvl, this]; omega) h1
  have HF : Hid (InsQ 9 1 w (some ⟨g, 0, none⟩) n (xs.take (i * 1) ++ vs ++ xs.drop (i * 1)) (.returned (.slice (some ⟨g, 0, none⟩) (n + 1) c)) ((w.drew.setRow g cur1).setRow g cur2)) := Lib.hid (by
    refine ⟨some ⟨g, 0, none⟩, c, rfl, ⟨?_, .inr ⟨g, c, cur2, rfl, Nat.zero_le _, setRow_blk hB1 cur2, hroom, ?_, ?_, hins.2.2⟩⟩, ?_, fun b hb => .inl hb⟩
    · have := congrArg List.length hins.2.2
      rw [List.length_take, hins.2.1] at this
      rw [← this]; omega
    · rcases hown.2 with ⟨hv, h0⟩ | ⟨g', cap, cur, hv, _, hg, _, h3, _⟩
      · cases hv
      · have hc : c = cap := by injection hv
        rw [hc]; exact h3
    · have := hins.2.1; rwa [Array.length_toList] at this
    · have o1 : Only (· = g) w (w.drew.setRow g cur1) := ((Only.refl (· = g) w).drew).trans (setRow_only _ _ _)
      exact (o1.trans (setRow_only _ _ _)).mono (fun k _ h => by rw [h]; simp [blkOf]))
  have HC1 := Lib.hid hcp1
  have HC2 := Lib.hid hcp2
  clear hown hv hvl h1 h2 hg hcs htk hxl hdl hc1 hc2 hins hcp1 hcp2 hB1 hV1 hov
  go_still_tail 8, (by kernel_rfl)
  refine wpList_copy_run w.drew rfl _ _ 26 26 rfl (.slice (some ⟨g, i + 1, none⟩) (n + 1 - (i + 1)) (c - (i + 1))) (.slice (some ⟨g, i, none⟩) (n + 1 - i) (c - i)) (by simp [Act.eval, Act.put]) (by simp [Act.eval, Act.put]) (HC1.out _ _ _) ?_
  have hcp2 := HC2.out
  go_wp2_with fail
  go_ret
  exact HF.out

set_option maxRecDepth 100000 in
set_option maxHeartbeats 2000000 in
/-- Ahead of some, where there is no room. -/
theorem insertStr_grow (g n c i : Nat) (xs : List Value) (vb : Nat) (vs : List Value) (w : World) (hown : w.ownsRow 0 9 1 (.slice (some ⟨g, 0, none⟩) n c) n xs) (hn : n ≤ 1000) (hi : i < n) (hroom : c < n + 1) (hv : Blk w vb 9 vs.toArray) (hvl : vs.length = 1) (h1 : ∀ u ∈ vs, u.oneCell' = true) (h2 : ∀ u ∈ xs, u.oneCell' = true) :
    Calls Tryd.prog 53 #[.slice (some ⟨g, 0, none⟩) n c, .int .i64 i, .slice (some ⟨vb, 0, none⟩) 1 1] w (InsQ 9 1 w (some ⟨g, 0, none⟩) n (xs.take (i * 1) ++ vs ++ xs.drop (i * 1))) := by
  have hni : ¬ (i : Int) = (n : Int) := by omega
  obtain ⟨cur, hg, hcs, htk, hnc⟩ : ∃ cur, Blk w g 9 cur ∧ cur.size = c * 1 ∧ cur.toList.take (n * 1) = xs ∧ n ≤ c := by
    rcases hown.2 with ⟨hv, h0⟩ | ⟨g', cap, cur, hv, _, hg, h5, _, h3, h4⟩
    · cases hv
    · have hc : c = cap := by injection hv
      have hgg : g = g' := by injection hv with hv; injection hv with hv; injection hv
      subst hc hgg
      exact ⟨cur, hg, h3, h4, h5⟩
  obtain rfl : c = n := by omega
  obtain ⟨i0, hi0, hz0, hzs, hzb⟩ := info_parts infoStr
  have hxl : xs.length = c * 1 := hown.1
  have hdl : (xs.drop (i * 1)).length = (c - i) * 1 := by rw [List.length_drop, hxl, Nat.sub_mul]
  have htl : (xs.take (i * 1)).length = i * 1 := by rw [List.length_take, hxl]; omega
  have hxc : ∀ j u, xs[j]? = some u → w.cell? ⟨g, j, none⟩ = some u := fun j u hj => by
    rw [← htk, List.getElem?_take] at hj
    split at hj
    · rw [hg.cell]; simpa using hj
    · cases hj
  have hold : (Builtin.firstCells i0.size i (.slice (some ⟨g, 0, none⟩) i c)).run Tryd.prog w.drew = .ok (xs.take (i * 1)).toArray w.drew :=
    run_firstCells_some w.drew i0.size i ⟨g, 0, none⟩ i c (xs.take (i * 1)) (by rw [htl, hzs]) (fun j u hj => by
      rw [Addr.add_lit, Nat.zero_add]
      rw [List.getElem?_take] at hj
      split at hj
      · exact hxc j u hj
      · cases hj)
  have hik : i + (c + 1 - i) = c + 1 := by omega
  have hkk : (c : Int) + 1 - (i : Int) = ((c + 1 - i : Nat) : Int) := by omega
  obtain ⟨G, hG⟩ : ∃ G, grownCap w (c + 1) c 9 = G := ⟨_, rfl⟩
  have hGn : c + 1 ≤ G := by rw [← hG]; exact grownCap_ge w _ _ _
  have hGm : G ≤ maxLen := by rw [← hG]; exact grownCap_le_maxLen w _ _ _ (by simp only [maxLen]; omega)
  obtain ⟨Z1, hZ1⟩ : ∃ Z1, Builtin.zeroCells (.string ⟨#[]⟩ : Value).cells (c + 1 - i) = Z1 := ⟨_, rfl⟩
  obtain ⟨Z2, hZ2⟩ : ∃ Z2, Builtin.zeroCells (.string ⟨#[]⟩ : Value).cells (G - (c + 1)) = Z2 := ⟨_, rfl⟩
  have hZ1s : Z1.size = (c + 1 - i) * 1 := by rw [← hZ1, size_zeroCells]; rfl
  have hZ2s : Z2.size = (G - (c + 1)) * 1 := by rw [← hZ2, size_zeroCells]; rfl
  obtain ⟨cur0, hc0⟩ : ∃ cur0, (xs.take (i * 1)).toArray ++ Z1 ++ Z2 = cur0 := ⟨_, rfl⟩
  have hrz : ∀ ty, (Builtin.append_ #[26, 3] ty #[.slice (some ⟨g, 0, none⟩) i c, .int .i64 ((c : Int) + 1 - (i : Int))]).run Tryd.prog w = .ok (.slice (some ⟨w.heap.size, 0, none⟩) (c + 1) G) (w.drew.alloc (.cells cur0 9)) := fun ty => by
    have h := Lib.run_append_grow_zeros w 26 3 ty 9 i0 _ .i64 .i64 Tryd.underlying26 Tryd.underlying3 hi0 hz0 (some ⟨g, 0, none⟩) i c (xs.take (i * 1)) hold (c + 1 - i) (by omega) (by rw [hzs]; omega) (by omega) (by omega) (by rw [hzb]; omega) (by rw [hzb, hik]; exact growslice_fits (by omega) (by omega))
    rw [hik, hG, hZ1, hZ2, hc0] at h
    rw [hkk]
    exact h
  have hc0l : cur0.toList.length = G * 1 := by rw [← hc0]; simp only [Array.toList_append, List.length_append, Array.length_toList, hZ1s, hZ2s, htl, List.size_toArray]; omega
  have hc0t : cur0.toList.take (i * 1) = xs.take (i * 1) := by
    rw [← hc0]
    simp only [Array.toList_append, List.append_assoc]
    rw [List.take_append_of_le_length (by rw [htl]; exact Nat.le_refl _), List.take_of_length_le (by rw [htl]; exact Nat.le_refl _)]
  obtain ⟨cur1, hc1⟩ : ∃ cur1, (cur0.toList.take (i) ++ vs ++ cur0.toList.drop (i + vs.length)).toArray = cur1 := ⟨_, rfl⟩
  obtain ⟨cur2, hc2⟩ : ∃ cur2, (cur1.toList.take (i + 1) ++ xs.drop (i * 1) ++ cur1.toList.drop (i + 1 + (xs.drop (i * 1)).length)).toArray = cur2 := ⟨_, rfl⟩
  have hins := ins_grow (n := c) hxl hc0l hc0t hvl hi hGn (cur1 := cur1.toList) (cur2 := cur2.toList) (by rw [← hc1]; try simp) (by rw [← hc2]; try simp)
  have hgw : g ≠ w.heap.size := by have := hg.lt; omega
  have hvw : vb ≠ w.heap.size := by have := hv.lt; omega
  have oA : Only (fun _ => False) w (w.drew.alloc (.cells cur0 9)) := ((Only.refl _ w).drew).alloc _
  have hB0 : Blk (w.drew.alloc (.cells cur0 9)) w.heap.size 9 cur0 := Blk.new w.drew _ _
  have hV0 : Blk (w.drew.alloc (.cells cur0 9)) vb 9 vs.toArray := hv.only oA (fun h => h)
  have hG0 : Blk (w.drew.alloc (.cells cur0 9)) g 9 cur := hg.only oA (fun h => h)
  obtain ⟨W1, hW1⟩ : ∃ W1, w.drew.alloc (.cells cur0 9) = W1 := ⟨_, rfl⟩
  rw [hW1] at hrz oA hB0 hV0 hG0
  have hcp1 : ∀ ty dc, (Builtin.copy_ #[26, 26] ty #[.slice (some ⟨w.heap.size, i, none⟩) (c + 1 - i) dc, .slice (some ⟨vb, 0, none⟩) 1 1]).run Tryd.prog W1 = .ok (goInt (Nat.min 1 (c + 1 - i) : Nat)) (W1.setRow w.heap.size cur1) := fun ty dc => by
    rw [← hc1]
    exact run_copy_rowK W1 _ _ ty 9 1 w.heap.size (i) (c + 1 - i) dc ⟨vb, 0, none⟩ 1 1 cur0 9 vs Tryd.underlying26 (by kernel_rfl) hB0 (by rw [hvl]; try (simp only [Nat.min_def]; split <;> omega))
      (fun j u hj => by rw [Addr.add_lit, Nat.zero_add, hV0.cell]; simpa using hj) (by rw [Array.length_toList] at hc0l; rw [hvl, hc0l]; omega) h1
  have hB1 : Blk (W1.setRow w.heap.size cur1) w.heap.size 9 cur1 := setRow_blk hB0 cur1
  have hG1 : Blk (W1.setRow w.heap.size cur1) g 9 cur := hG0.only (setRow_only _ _ _) hgw
  obtain ⟨W2, hW2⟩ : ∃ W2, W1.setRow w.heap.size cur1 = W2 := ⟨_, rfl⟩
  rw [hW2] at hcp1 hB1 hG1
  have hcp2 : ∀ ty dc sc, (Builtin.copy_ #[26, 26] ty #[.slice (some ⟨w.heap.size, i + 1, none⟩) (c - i) dc, .slice (some ⟨g, i, none⟩) (c - i) sc]).run Tryd.prog W2.drew = .ok (goInt (Nat.min (c - i) (c - i) : Nat)) (W2.drew.setRow w.heap.size cur2) := fun ty dc sc => by
    rw [← hc2]
    exact run_copy_rowK W2.drew _ _ ty 9 1 w.heap.size (i + 1) (c - i) dc ⟨g, i, none⟩ (c - i) sc cur1 9 (xs.drop (i * 1)) Tryd.underlying26 (by kernel_rfl) hB1 (by rw [hdl]; try (simp only [Nat.min_def]; split <;> omega))
      (fun j u hj => by
        rw [Addr.add_lit]
        rw [List.getElem?_drop] at hj
        have := hxc _ u hj
        rw [hg.cell] at this
        rw [(show Blk W2.drew g _ cur from hG1).cell]
        first | exact this | (simp only [Nat.mul_one] at this ⊢; exact this)) (by have := hins.1; rw [Array.length_toList] at this; rw [hdl, this]; omega) (fun u hu => h2 u (List.mem_of_mem_drop hu))
  have HF : Hid (InsQ 9 1 w (some ⟨g, 0, none⟩) c (xs.take (i * 1) ++ vs ++ xs.drop (i * 1)) (.returned (.slice (some ⟨w.heap.size, 0, none⟩) (c + 1) G)) (W2.drew.setRow w.heap.size cur2)) := Lib.hid (by
    refine ⟨some ⟨w.heap.size, 0, none⟩, G, rfl, ⟨?_, .inr ⟨w.heap.size, G, cur2, rfl, Nat.zero_le _, setRow_blk (show Blk W2.drew _ _ cur1 from hB1) cur2, hGn, hGm, ?_, hins.2.2⟩⟩, ?_, fun b hb => .inr ?_⟩
    · have := congrArg List.length hins.2.2
      rw [List.length_take, hins.2.1] at this
      rw [← this]; omega
    · have := hins.2.1; rwa [Array.length_toList] at this
    · have o2 : Only (· = w.heap.size) w W2 := by rw [← hW2]; exact (oA.mono (fun _ _ h => h.elim)).trans (setRow_only _ _ _)
      have o3 := (o2.drew).trans (setRow_only W2.drew w.heap.size cur2)
      exact o3.mono (fun k hk h => absurd h (by omega))
    · simp [blkOf] at hb; omega)
  have HCZ := Lib.hid hrz
  have HC1 := Lib.hid hcp1
  have HC2 := Lib.hid hcp2
  have HW2 := Lib.hid hW2
  clear hown hv hvl h1 h2 hg hcs htk hxl hdl htl hc1 hc2 hins hcp1 hcp2 hB1 hV0 hG0 hB0 hG1 oA hrz hc0l hc0t hc0 hZ1 hZ2 hZ1s hZ2s hi0 hz0 hzs hzb hold hxc hG hkk hW1 hW2
  have hb1 : (0 : Int) ≤ (i : Int) + 1 := by omega
  have hb2 : ¬ (G = i + 1) := by omega
  have hb3 : (i : Int) ≤ (c : Int) := by omega
  have hb4 : ¬ (c = i) := by omega
  have hb5 : (i : Int) + 1 ≤ (c : Int) + 1 := by omega
  have hb6 : ¬ (G = i) := by omega
  have htn : ((i : Int) + 1).toNat = i + 1 := by omega
  have hw1 : IntKind.i64.wrap ((i : Int) + 1) = (i : Int) + 1 := by rw [IntKind.wrap_i64]; omega
  have hlt : (c : Int) < (c : Int) + 1 := by omega
  have hcp1 := HC1.out
  go_enter Tryd.func53, Tryd.ntmps53
  go_wp2_with (at_builtin; refine Lib.wpList_append_run _ rfl _ _ _ _ rfl _ _ rfl rfl _ _ (HCZ.out _) ?_)
  go_still_tail 8, (by kernel_rfl)
  have hcp2 := HC2.out
  go_wp2_with fail
  go_ret
  exact HF.out

/-- One element more, anywhere. -/
theorem insertStr_any (A : Option Addr) (n c i : Nat) (xs : List Value) (vb : Nat) (vs : List Value) (w : World) (hown : w.ownsRow 0 9 1 (.slice A n c) n xs) (hn : n ≤ 1000) (hi : i ≤ n) (hv : Blk w vb 9 vs.toArray) (hvl : vs.length = 1) (h1 : ∀ u ∈ vs, u.oneCell' = true) (h2 : ∀ u ∈ xs, u.oneCell' = true) (hne : vb ∉ blkOf A) :
    Calls Tryd.prog 53 #[.slice A n c, .int .i64 i, .slice (some ⟨vb, 0, none⟩) 1 1] w (InsQ 9 1 w A n (xs.take (i * 1) ++ vs ++ xs.drop (i * 1))) := by
  by_cases h : i = n
  · subst h
    have := hown.1
    rw [List.take_of_length_le (by omega), List.drop_of_length_le (by omega), List.append_nil]
    exact insertStr_end A i c xs vb vs w hown hn hv hvl h1
  · obtain ⟨g, rfl⟩ : ∃ g, A = some ⟨g, 0, none⟩ := by
      rcases hown.2 with ⟨hv, h0⟩ | ⟨g, cap, cur, hv, _⟩
      · omega
      · injection hv with hv; exact ⟨g, hv⟩
    by_cases hr : n + 1 ≤ c
    · exact insertStr_room g n c i xs vb vs w hown hn (by omega) hr hv hvl h1 h2 (by simpa [blkOf] using hne)
    · exact insertStr_grow g n c i xs vb vs w hown hn (by omega) (by omega) hv hvl h1 h2

set_option maxRecDepth 100000 in
set_option maxHeartbeats 2000000 in
/-- At the end. -/
theorem insertTree_end (A : Option Addr) (n c : Nat) (xs : List Value) (vb : Nat) (vs : List Value) (w : World) (hown : w.ownsRow 0 29 7 (.slice A n c) n xs) (hn : n ≤ 1000) (hv : Blk w vb 29 vs.toArray) (hvl : vs.length = 7) (h1 : ∀ u ∈ vs, u.oneCell' = true) :
    Calls Tryd.prog 54 #[.slice A n c, .int .i64 n, .slice (some ⟨vb, 0, none⟩) 1 1] w (InsQ 29 7 w A n (xs ++ vs)) := by
  obtain ⟨A', c', w', hr, ho, hg, hA'⟩ := run_append_own2 (P := Tryd.prog) w 27 27 29 Tryd.underlying27 infoTree rfl (by decide) A n c xs hown ⟨vb, 0, none⟩ 1 1 (by omega) vs (by simpa using hvl)
    (fun j u hu => by rw [Addr.add_lit, Nat.zero_add, hv.cell j]; simpa using hu) h1 (by simp only [maxLen]; omega) (by omega)
  have HR := Lib.hid (show ∀ ty, (Builtin.append_ #[27, 27] ty #[.slice A n c, .slice (some ⟨vb, 0, none⟩) 1 1]).run Tryd.prog w = .ok (.slice A' (n + 1) c') w' from fun _ => hr)
  have HO := Lib.hid (And.intro ho (only_grown hg))
  have hnew : ∀ b ∈ blkOf A', b ∈ blkOf A ∨ w.heap.size ≤ b := by
    rcases hA' with ⟨rfl, _⟩ | rfl
    · intro b hb; exact .inl hb
    · intro b hb; simp [blkOf] at hb; exact .inr (by omega)
  have HN := Lib.hid hnew
  have hnc : n ≤ c ∧ c ≤ 9223372036854775807 := by
    rcases hown.2 with ⟨hv, h0⟩ | ⟨g, cap, cur, hv, _, _, h1, h2, _⟩
    · injection hv with _ _ hc; subst hc; omega
    · injection hv with _ _ hc; subst hc; exact ⟨h1, Nat.le_trans h2 (by decide)⟩
  obtain ⟨hnc, hcm⟩ := hnc
  have hA0 : A = none ∨ ∃ g, A = some ⟨g, 0, none⟩ := by
    rcases hown.2 with ⟨hv, h0⟩ | ⟨g, cap, cur, hv, _⟩
    · injection hv with hv; exact .inl hv
    · injection hv with hv; exact .inr ⟨g, hv⟩
  clear hr ho hg hA' hnew hown hv hvl h1
  rcases hA0 with rfl | ⟨g, rfl⟩
  all_goals
    go_enter Tryd.func54, Tryd.ntmps54
    go_wp2_with (at_builtin; refine Lib.wpList_append_run _ rfl _ _ _ _ rfl _ _ rfl rfl _ _ (HR.out _) ?_)
    all_goals
      go_ret
      exact ⟨A', c', rfl, HO.out.1, HO.out.2, HN.out⟩

theorem overlapsTree_no (w : World) (vb g off la ca lb cb : Nat) (hne : vb ≠ g) {cs cur : Array Value} (hv : Blk w vb 29 cs) (hg : Blk w g 29 cur) (hk : cur.size ≠ 0) :
    (callFunc 73 #[.slice (some ⟨vb, 0, none⟩) la ca, .slice (some ⟨g, off, none⟩) lb cb]).run Tryd.prog w = .ok (.value (.bool false)) w := by
  have hs1 : w.shape? vb = some (29, cs.size) := by unfold Blk at hv; simp [World.shape?, hv]
  have hs2 : w.shape? g = some (29, cur.size) := by unfold Blk at hg; simp [World.shape?, hg]
  rw [run_callFunc_extern Tryd.func73 (by kernel_rfl) (by kernel_rfl) (by kernel_rfl) (e := Extern.SlicesOverlaps.overlaps #[27, 27] #[4]) (by kernel_rfl),
    Lib.run_overlaps_apart w 27 4 29 Tryd.underlying27 7 Tryd.sizeOf29 ⟨vb, 0, none⟩ ⟨g, off, none⟩ la ca lb cb hne _ _ _ _ hs1 hs2 hk (hv.frozen 0) (hv.frozen _)]
  rfl

set_option maxRecDepth 100000 in
set_option maxHeartbeats 2000000 in
/-- Ahead of some, where there is room. -/
theorem insertTree_room (g n c i : Nat) (xs : List Value) (vb : Nat) (vs : List Value) (w : World) (hown : w.ownsRow 0 29 7 (.slice (some ⟨g, 0, none⟩) n c) n xs) (hn : n ≤ 1000) (hi : i < n) (hroom : n + 1 ≤ c) (hv : Blk w vb 29 vs.toArray) (hvl : vs.length = 7) (h1 : ∀ u ∈ vs, u.oneCell' = true) (h2 : ∀ u ∈ xs, u.oneCell' = true) (hne : vb ≠ g) :
    Calls Tryd.prog 54 #[.slice (some ⟨g, 0, none⟩) n c, .int .i64 i, .slice (some ⟨vb, 0, none⟩) 1 1] w (InsQ 29 7 w (some ⟨g, 0, none⟩) n (xs.take (i * 7) ++ vs ++ xs.drop (i * 7))) := by
  have hni : ¬ (i : Int) = (n : Int) := by omega
  have hcm : c ≤ 9223372036854775807 := by
    rcases hown.2 with ⟨hv, h0⟩ | ⟨g, cap, cur, hv, _, _, h1, h2, _⟩
    · cases hv
    · injection hv with _ _ hc; subst hc; exact Nat.le_trans h2 (by decide)
  obtain ⟨cur, hg, hcs, htk⟩ : ∃ cur, Blk w g 29 cur ∧ cur.size = c * 7 ∧ cur.toList.take (n * 7) = xs := by
    rcases hown.2 with ⟨hv, h0⟩ | ⟨g', cap, cur, hv, _, hg, _, _, h3, h4⟩
    · cases hv
    · injection hv with hv _ hc; injection hv with hv; injection hv with hv; subst hv hc; exact ⟨cur, hg, h3, h4⟩
  have hov : ∀ lb cb off, (callFunc 73 #[.slice (some ⟨vb, 0, none⟩) 1 1, .slice (some ⟨g, off, none⟩) lb cb]).run Tryd.prog w = .ok (.value (.bool false)) w := fun lb cb off => overlapsTree_no w vb g off 1 1 lb cb hne hv hg (by rw [hcs]; omega)
  have HH := Lib.hid (And.intro hown (And.intro hv (And.intro hvl (And.intro h1 (And.intro h2 (And.intro hg (And.intro hcs htk)))))))
  clear hown hv hvl h1 h2 hg hcs htk
  go_enter Tryd.func54, Tryd.ntmps54
  go_wp2_with (simp only [hov])
  have hb1 : (0 : Int) ≤ (i : Int) + 1 := by omega
  have hb2 : ¬ (c = i + 1) := by omega
  have hb3 : (i : Int) ≤ (n : Int) + 1 := by omega
  have hb4 : ¬ (c = i) := by omega
  have hb5 : (i : Int) + 1 ≤ (n : Int) + 1 := by omega
  have htn : ((i : Int) + 1).toNat = i + 1 := by omega
  have hw1 : IntKind.i64.wrap ((i : Int) + 1) = (i : Int) + 1 := by rw [IntKind.wrap_i64]; omega
  obtain ⟨hown, hv, hvl, h1, h2, hg, hcs, htk⟩ := HH.out
  have hxl : xs.length = n * 7 := hown.1
  have hdl : (xs.drop (i * 7)).length = (n - i) * 7 := by rw [List.length_drop, hxl, Nat.sub_mul]
  obtain ⟨cur1, hc1⟩ : ∃ cur1, (cur.toList.take ((i + 1) * 7) ++ xs.drop (i * 7) ++ cur.toList.drop ((i + 1) * 7 + (xs.drop (i * 7)).length)).toArray = cur1 := ⟨_, rfl⟩
  obtain ⟨cur2, hc2⟩ : ∃ cur2, (cur1.toList.take (i * 7) ++ vs ++ cur1.toList.drop (i * 7 + vs.length)).toArray = cur2 := ⟨_, rfl⟩
  have hins := ins_room (cur := cur.toList) (by simpa using hcs) htk hvl hi hroom (cur1 := cur1.toList) (cur2 := cur2.toList) (by rw [← hc1]; try simp) (by rw [← hc2]; try simp)
  have hcp1 : ∀ ty dc sc, (Builtin.copy_ #[27, 27] ty #[.slice (some ⟨g, (i + 1) * 7, none⟩) (n + 1 - (i + 1)) dc, .slice (some ⟨g, i * 7, none⟩) (n + 1 - i) sc]).run Tryd.prog w.drew = .ok (goInt (Nat.min (n + 1 - i) (n + 1 - (i + 1)) : Nat)) (w.drew.setRow g cur1) := fun ty dc sc => by
    rw [← hc1]
    exact run_copy_rowK w.drew _ _ ty 29 7 g ((i + 1) * 7) (n + 1 - (i + 1)) dc ⟨g, i * 7, none⟩ (n + 1 - i) sc cur 29 (xs.drop (i * 7)) Tryd.underlying27 (by kernel_rfl) hg (by rw [hdl]; try (simp only [Nat.min_def]; split <;> omega))
      (fun j u hj => by
        rw [Addr.add_lit]
        rw [List.getElem?_drop, ← htk, List.getElem?_take] at hj
        split at hj
        · rw [(show Blk w.drew g _ cur from hg).cell]; simpa using hj
        · cases hj) (by rw [hdl, hcs]; omega) (fun u hu => h2 u (List.mem_of_mem_drop hu))
  have hB1 : Blk (w.drew.setRow g cur1) g 29 cur1 := setRow_blk (show Blk w.drew g _ cur from hg) cur1
  have hV1 : Blk (w.drew.setRow g cur1) vb 29 vs.toArray := (show Blk w.drew vb _ _ from hv).only (setRow_only _ _ _) hne
  have hcp2 : ∀ ty dc, (Builtin.copy_ #[27, 27] ty #[.slice (some ⟨g, i * 7, none⟩) (n + 1 - i) dc, .slice (some ⟨vb, 0, none⟩) 1 1]).run Tryd.prog (w.drew.setRow g cur1) = .ok (goInt (Nat.min 1 (n + 1 - i) : Nat)) ((w.drew.setRow g cur1).setRow g cur2) := fun ty dc => by
    rw [← hc2]
    exact run_copy_rowK _ _ _ ty 29 7 g (i * 7) (n + 1 - i) dc ⟨vb, 0, none⟩ 1 1 cur1 29 vs Tryd.underlying27 (by kernel_rfl) hB1 (by rw [hvl]; try (simp only [Nat.min_def]; split <;> omega))
      (fun j u hj => by rw [Addr.add_lit, Nat.zero_add, hV1.cell]; simpa using hj) (by have := hins.1; rw [Array.length_toList] at this; rw [hvl, this]; omega) h1
  have HF : Hid (InsQ 29 7 w (some ⟨g, 0, none⟩) n (xs.take (i * 7) ++ vs ++ xs.drop (i * 7)) (.returned (.slice (some ⟨g, 0, none⟩) (n + 1) c)) ((w.drew.setRow g cur1).setRow g cur2)) := Lib.hid (by
    refine ⟨some ⟨g, 0, none⟩, c, rfl, ⟨?_, .inr ⟨g, c, cur2, rfl, Nat.zero_le _, setRow_blk hB1 cur2, hroom, ?_, ?_, hins.2.2⟩⟩, ?_, fun b hb => .inl hb⟩
    · have := congrArg List.length hins.2.2
      rw [List.length_take, hins.2.1] at this
      rw [← this]; omega
    · rcases hown.2 with ⟨hv, h0⟩ | ⟨g', cap, cur, hv, _, hg, _, h3, _⟩
      · cases hv
      · have hc : c = cap := by injection hv
        rw [hc]; exact h3
    · have := hins.2.1; rwa [Array.length_toList] at this
    · have o1 : Only (· = g) w (w.drew.setRow g cur1) := ((Only.refl (· = g) w).drew).trans (setRow_only _ _ _)
      exact (o1.trans (setRow_only _ _ _)).mono (fun k _ h => by rw [h]; simp [blkOf]))
  have HC1 := Lib.hid hcp1
  have HC2 := Lib.hid hcp2
  clear hown hv hvl h1 h2 hg hcs htk hxl hdl hc1 hc2 hins hcp1 hcp2 hB1 hV1 hov
  go_still_tail 8, (by kernel_rfl)
  refine wpList_copy_run w.drew rfl _ _ 27 27 rfl (.slice (some ⟨g, (i + 1) * 7, none⟩) (n + 1 - (i + 1)) (c - (i + 1))) (.slice (some ⟨g, i * 7, none⟩) (n + 1 - i) (c - i)) (by simp [Act.eval, Act.put]) (by simp [Act.eval, Act.put]) (HC1.out _ _ _) ?_
  have hcp2 := HC2.out
  go_wp2_with fail
  go_ret
  exact HF.out

set_option maxRecDepth 100000 in
set_option maxHeartbeats 2000000 in
/-- Ahead of some, where there is no room. -/
theorem insertTree_grow (g n c i : Nat) (xs : List Value) (vb : Nat) (vs : List Value) (w : World) (hown : w.ownsRow 0 29 7 (.slice (some ⟨g, 0, none⟩) n c) n xs) (hn : n ≤ 1000) (hi : i < n) (hroom : c < n + 1) (hv : Blk w vb 29 vs.toArray) (hvl : vs.length = 7) (h1 : ∀ u ∈ vs, u.oneCell' = true) (h2 : ∀ u ∈ xs, u.oneCell' = true) :
    Calls Tryd.prog 54 #[.slice (some ⟨g, 0, none⟩) n c, .int .i64 i, .slice (some ⟨vb, 0, none⟩) 1 1] w (InsQ 29 7 w (some ⟨g, 0, none⟩) n (xs.take (i * 7) ++ vs ++ xs.drop (i * 7))) := by
  have hni : ¬ (i : Int) = (n : Int) := by omega
  obtain ⟨cur, hg, hcs, htk, hnc⟩ : ∃ cur, Blk w g 29 cur ∧ cur.size = c * 7 ∧ cur.toList.take (n * 7) = xs ∧ n ≤ c := by
    rcases hown.2 with ⟨hv, h0⟩ | ⟨g', cap, cur, hv, _, hg, h5, _, h3, h4⟩
    · cases hv
    · have hc : c = cap := by injection hv
      have hgg : g = g' := by injection hv with hv; injection hv with hv; injection hv
      subst hc hgg
      exact ⟨cur, hg, h3, h4, h5⟩
  obtain rfl : c = n := by omega
  obtain ⟨i0, hi0, hz0, hzs, hzb⟩ := info_parts infoTree
  have hxl : xs.length = c * 7 := hown.1
  have hdl : (xs.drop (i * 7)).length = (c - i) * 7 := by rw [List.length_drop, hxl, Nat.sub_mul]
  have htl : (xs.take (i * 7)).length = i * 7 := by rw [List.length_take, hxl]; omega
  have hxc : ∀ j u, xs[j]? = some u → w.cell? ⟨g, j, none⟩ = some u := fun j u hj => by
    rw [← htk, List.getElem?_take] at hj
    split at hj
    · rw [hg.cell]; simpa using hj
    · cases hj
  have hold : (Builtin.firstCells i0.size i (.slice (some ⟨g, 0, none⟩) i c)).run Tryd.prog w.drew = .ok (xs.take (i * 7)).toArray w.drew :=
    run_firstCells_some w.drew i0.size i ⟨g, 0, none⟩ i c (xs.take (i * 7)) (by rw [htl, hzs]) (fun j u hj => by
      rw [Addr.add_lit, Nat.zero_add]
      rw [List.getElem?_take] at hj
      split at hj
      · exact hxc j u hj
      · cases hj)
  have hik : i + (c + 1 - i) = c + 1 := by omega
  have hkk : (c : Int) + 1 - (i : Int) = ((c + 1 - i : Nat) : Int) := by omega
  obtain ⟨G, hG⟩ : ∃ G, grownCap w (c + 1) c 29 = G := ⟨_, rfl⟩
  have hGn : c + 1 ≤ G := by rw [← hG]; exact grownCap_ge w _ _ _
  have hGm : G ≤ maxLen := by rw [← hG]; exact grownCap_le_maxLen w _ _ _ (by simp only [maxLen]; omega)
  obtain ⟨Z1, hZ1⟩ : ∃ Z1, Builtin.zeroCells (zTree : Value).cells (c + 1 - i) = Z1 := ⟨_, rfl⟩
  obtain ⟨Z2, hZ2⟩ : ∃ Z2, Builtin.zeroCells (zTree : Value).cells (G - (c + 1)) = Z2 := ⟨_, rfl⟩
  have hZ1s : Z1.size = (c + 1 - i) * 7 := by rw [← hZ1, size_zeroCells]; rfl
  have hZ2s : Z2.size = (G - (c + 1)) * 7 := by rw [← hZ2, size_zeroCells]; rfl
  obtain ⟨cur0, hc0⟩ : ∃ cur0, (xs.take (i * 7)).toArray ++ Z1 ++ Z2 = cur0 := ⟨_, rfl⟩
  have hrz : ∀ ty, (Builtin.append_ #[27, 3] ty #[.slice (some ⟨g, 0, none⟩) i c, .int .i64 ((c : Int) + 1 - (i : Int))]).run Tryd.prog w = .ok (.slice (some ⟨w.heap.size, 0, none⟩) (c + 1) G) (w.drew.alloc (.cells cur0 29)) := fun ty => by
    have h := Lib.run_append_grow_zeros w 27 3 ty 29 i0 _ .i64 .i64 Tryd.underlying27 Tryd.underlying3 hi0 hz0 (some ⟨g, 0, none⟩) i c (xs.take (i * 7)) hold (c + 1 - i) (by omega) (by rw [hzs]; omega) (by omega) (by omega) (by rw [hzb]; omega) (by rw [hzb, hik]; exact growslice_fits (by omega) (by omega))
    rw [hik, hG, hZ1, hZ2, hc0] at h
    rw [hkk]
    exact h
  have hc0l : cur0.toList.length = G * 7 := by rw [← hc0]; simp only [Array.toList_append, List.length_append, Array.length_toList, hZ1s, hZ2s, htl, List.size_toArray]; omega
  have hc0t : cur0.toList.take (i * 7) = xs.take (i * 7) := by
    rw [← hc0]
    simp only [Array.toList_append, List.append_assoc]
    rw [List.take_append_of_le_length (by rw [htl]; exact Nat.le_refl _), List.take_of_length_le (by rw [htl]; exact Nat.le_refl _)]
  obtain ⟨cur1, hc1⟩ : ∃ cur1, (cur0.toList.take (i * 7) ++ vs ++ cur0.toList.drop (i * 7 + vs.length)).toArray = cur1 := ⟨_, rfl⟩
  obtain ⟨cur2, hc2⟩ : ∃ cur2, (cur1.toList.take ((i + 1) * 7) ++ xs.drop (i * 7) ++ cur1.toList.drop ((i + 1) * 7 + (xs.drop (i * 7)).length)).toArray = cur2 := ⟨_, rfl⟩
  have hins := ins_grow (n := c) hxl hc0l hc0t hvl hi hGn (cur1 := cur1.toList) (cur2 := cur2.toList) (by rw [← hc1]; try simp) (by rw [← hc2]; try simp)
  have hgw : g ≠ w.heap.size := by have := hg.lt; omega
  have hvw : vb ≠ w.heap.size := by have := hv.lt; omega
  have oA : Only (fun _ => False) w (w.drew.alloc (.cells cur0 29)) := ((Only.refl _ w).drew).alloc _
  have hB0 : Blk (w.drew.alloc (.cells cur0 29)) w.heap.size 29 cur0 := Blk.new w.drew _ _
  have hV0 : Blk (w.drew.alloc (.cells cur0 29)) vb 29 vs.toArray := hv.only oA (fun h => h)
  have hG0 : Blk (w.drew.alloc (.cells cur0 29)) g 29 cur := hg.only oA (fun h => h)
  obtain ⟨W1, hW1⟩ : ∃ W1, w.drew.alloc (.cells cur0 29) = W1 := ⟨_, rfl⟩
  rw [hW1] at hrz oA hB0 hV0 hG0
  have hcp1 : ∀ ty dc, (Builtin.copy_ #[27, 27] ty #[.slice (some ⟨w.heap.size, i * 7, none⟩) (c + 1 - i) dc, .slice (some ⟨vb, 0, none⟩) 1 1]).run Tryd.prog W1 = .ok (goInt (Nat.min 1 (c + 1 - i) : Nat)) (W1.setRow w.heap.size cur1) := fun ty dc => by
    rw [← hc1]
    exact run_copy_rowK W1 _ _ ty 29 7 w.heap.size (i * 7) (c + 1 - i) dc ⟨vb, 0, none⟩ 1 1 cur0 29 vs Tryd.underlying27 (by kernel_rfl) hB0 (by rw [hvl]; try (simp only [Nat.min_def]; split <;> omega))
      (fun j u hj => by rw [Addr.add_lit, Nat.zero_add, hV0.cell]; simpa using hj) (by rw [Array.length_toList] at hc0l; rw [hvl, hc0l]; omega) h1
  have hB1 : Blk (W1.setRow w.heap.size cur1) w.heap.size 29 cur1 := setRow_blk hB0 cur1
  have hG1 : Blk (W1.setRow w.heap.size cur1) g 29 cur := hG0.only (setRow_only _ _ _) hgw
  obtain ⟨W2, hW2⟩ : ∃ W2, W1.setRow w.heap.size cur1 = W2 := ⟨_, rfl⟩
  rw [hW2] at hcp1 hB1 hG1
  have hcp2 : ∀ ty dc sc, (Builtin.copy_ #[27, 27] ty #[.slice (some ⟨w.heap.size, (i + 1) * 7, none⟩) (c - i) dc, .slice (some ⟨g, i * 7, none⟩) (c - i) sc]).run Tryd.prog W2.drew = .ok (goInt (Nat.min (c - i) (c - i) : Nat)) (W2.drew.setRow w.heap.size cur2) := fun ty dc sc => by
    rw [← hc2]
    exact run_copy_rowK W2.drew _ _ ty 29 7 w.heap.size ((i + 1) * 7) (c - i) dc ⟨g, i * 7, none⟩ (c - i) sc cur1 29 (xs.drop (i * 7)) Tryd.underlying27 (by kernel_rfl) hB1 (by rw [hdl]; try (simp only [Nat.min_def]; split <;> omega))
      (fun j u hj => by
        rw [Addr.add_lit]
        rw [List.getElem?_drop] at hj
        have := hxc _ u hj
        rw [hg.cell] at this
        rw [(show Blk W2.drew g _ cur from hG1).cell]
        first | exact this | (simp only [Nat.mul_one] at this ⊢; exact this)) (by have := hins.1; rw [Array.length_toList] at this; rw [hdl, this]; omega) (fun u hu => h2 u (List.mem_of_mem_drop hu))
  have HF : Hid (InsQ 29 7 w (some ⟨g, 0, none⟩) c (xs.take (i * 7) ++ vs ++ xs.drop (i * 7)) (.returned (.slice (some ⟨w.heap.size, 0, none⟩) (c + 1) G)) (W2.drew.setRow w.heap.size cur2)) := Lib.hid (by
    refine ⟨some ⟨w.heap.size, 0, none⟩, G, rfl, ⟨?_, .inr ⟨w.heap.size, G, cur2, rfl, Nat.zero_le _, setRow_blk (show Blk W2.drew _ _ cur1 from hB1) cur2, hGn, hGm, ?_, hins.2.2⟩⟩, ?_, fun b hb => .inr ?_⟩
    · have := congrArg List.length hins.2.2
      rw [List.length_take, hins.2.1] at this
      rw [← this]; omega
    · have := hins.2.1; rwa [Array.length_toList] at this
    · have o2 : Only (· = w.heap.size) w W2 := by rw [← hW2]; exact (oA.mono (fun _ _ h => h.elim)).trans (setRow_only _ _ _)
      have o3 := (o2.drew).trans (setRow_only W2.drew w.heap.size cur2)
      exact o3.mono (fun k hk h => absurd h (by omega))
    · simp [blkOf] at hb; omega)
  have HCZ := Lib.hid hrz
  have HC1 := Lib.hid hcp1
  have HC2 := Lib.hid hcp2
  have HW2 := Lib.hid hW2
  clear hown hv hvl h1 h2 hg hcs htk hxl hdl htl hc1 hc2 hins hcp1 hcp2 hB1 hV0 hG0 hB0 hG1 oA hrz hc0l hc0t hc0 hZ1 hZ2 hZ1s hZ2s hi0 hz0 hzs hzb hold hxc hG hkk hW1 hW2
  have hb1 : (0 : Int) ≤ (i : Int) + 1 := by omega
  have hb2 : ¬ (G = i + 1) := by omega
  have hb3 : (i : Int) ≤ (c : Int) := by omega
  have hb4 : ¬ (c = i) := by omega
  have hb5 : (i : Int) + 1 ≤ (c : Int) + 1 := by omega
  have hb6 : ¬ (G = i) := by omega
  have htn : ((i : Int) + 1).toNat = i + 1 := by omega
  have hw1 : IntKind.i64.wrap ((i : Int) + 1) = (i : Int) + 1 := by rw [IntKind.wrap_i64]; omega
  have hlt : (c : Int) < (c : Int) + 1 := by omega
  have hcp1 := HC1.out
  go_enter Tryd.func54, Tryd.ntmps54
  go_wp2_with (at_builtin; refine Lib.wpList_append_run _ rfl _ _ _ _ rfl _ _ rfl rfl _ _ (HCZ.out _) ?_)
  go_still_tail 8, (by kernel_rfl)
  have hcp2 := HC2.out
  go_wp2_with fail
  go_ret
  exact HF.out

/-- One element more, anywhere. -/
theorem insertTree_any (A : Option Addr) (n c i : Nat) (xs : List Value) (vb : Nat) (vs : List Value) (w : World) (hown : w.ownsRow 0 29 7 (.slice A n c) n xs) (hn : n ≤ 1000) (hi : i ≤ n) (hv : Blk w vb 29 vs.toArray) (hvl : vs.length = 7) (h1 : ∀ u ∈ vs, u.oneCell' = true) (h2 : ∀ u ∈ xs, u.oneCell' = true) (hne : vb ∉ blkOf A) :
    Calls Tryd.prog 54 #[.slice A n c, .int .i64 i, .slice (some ⟨vb, 0, none⟩) 1 1] w (InsQ 29 7 w A n (xs.take (i * 7) ++ vs ++ xs.drop (i * 7))) := by
  by_cases h : i = n
  · subst h
    have := hown.1
    rw [List.take_of_length_le (by omega), List.drop_of_length_le (by omega), List.append_nil]
    exact insertTree_end A i c xs vb vs w hown hn hv hvl h1
  · obtain ⟨g, rfl⟩ : ∃ g, A = some ⟨g, 0, none⟩ := by
      rcases hown.2 with ⟨hv, h0⟩ | ⟨g, cap, cur, hv, _⟩
      · omega
      · injection hv with hv; exact ⟨g, hv⟩
    by_cases hr : n + 1 ≤ c
    · exact insertTree_room g n c i xs vb vs w hown hn (by omega) hr hv hvl h1 h2 (by simpa [blkOf] using hne)
    · exact insertTree_grow g n c i xs vb vs w hown hn (by omega) (by omega) hv hvl h1 h2
end Go.Proofs.YtbfmdpgghknccaaDoor
