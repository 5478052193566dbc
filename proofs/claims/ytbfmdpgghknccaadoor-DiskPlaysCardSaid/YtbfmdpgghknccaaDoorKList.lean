/- bookref3.K.List: a contract. -/
import Derived.Test.YtbfmdpgghknccaaDoorKMem
import Derived.Test.YtbfmdpgghknccaaDoorKListPlain
import Derived.Test.YtbfmdpgghknccaaDoorAppendB
import Derived.Test.YtbfmdpgghknccaaDoorDiskCrash
namespace Go.Proofs.YtbfmdpgghknccaaDoor
open Go.RowKit Go.Maps
set_option linter.unusedVariables false
set_option linter.unusedSimpArgs false

theorem run_slice_strs_to (W : World) (A : Option Addr) (n c h : Nat) (hh : h ≤ c) : (Instr.slice 26 (.slice A n c) none (some (.int .i64 (h : Int))) none).run Tryd.prog W = .ok (.slice A h c) W := by
  have hs : ∀ w, (Go.sizeOf 9).run Tryd.prog w = .ok 1 w := by intro w; kernel_rfl
  have he : Tryd.prog.elem 26 = 9 := by simp [Program.elem, Tryd.underlying26]
  rw [run_slice_h W 26 A n c (by rw [he]; exact Tryd.underlying26) .i64 h (by omega) (by omega), he, hs]
  cases A with
  | none => simp [Result.andThen, sliced]
  | some a => simp [Result.andThen, sliced, Addr.add]
theorem run_slice_strs_from (W : World) (A : Option Addr) (n c r : Nat) (S : Option Addr) (hr : r ≤ n) (hS : (if c = r then A else Option.map (fun x => x.add (r * 1)) A) = S) : (Instr.slice 26 (.slice A n c) (some (.int .i64 (r : Int))) none none).run Tryd.prog W = .ok (.slice S (n - r) (c - r)) W := by
  have hs : ∀ w, (Go.sizeOf 9).run Tryd.prog w = .ok 1 w := by intro w; kernel_rfl
  have he : Tryd.prog.elem 26 = 9 := by simp [Program.elem, Tryd.underlying26]
  rw [run_slice_l W 26 A n c (by rw [he]; exact Tryd.underlying26) .i64 r (by omega) (by omega), he, hs]
  subst hS
  simp [Result.andThen, sliced]
def strs (l : List (List UInt8)) : List Value := l.map encStr
theorem strs_len (l : List (List UInt8)) : (strs l).length = l.length := by simp [strs]
theorem strs_append (l m : List (List UInt8)) : strs (l ++ m) = strs l ++ strs m := by simp [strs]
theorem strs_one (l : List (List UInt8)) : ∀ u ∈ strs l, u.oneCell' = true := by
  intro u hu
  obtain ⟨x, _, rfl⟩ := List.mem_map.1 hu
  rfl
theorem strs_at (l : List (List UInt8)) (i : Nat) (x : List UInt8) (h : l[i]? = some x) : (strs l)[i]? = some (.string ⟨x.toArray⟩) := by
  simp [strs, h, encStr]
theorem owns_cap_ {w : World} {base : Nat} {e : TypeId} {size n c : Nat} {A : Option Addr} {xs : List Value} (h : w.ownsRow base e size (.slice A n c) n xs) : n ≤ c := by
  rcases h.2 with ⟨hv, h0⟩ | ⟨g', cap, cur, hv, _, _, hnc, _⟩
  · omega
  · injection hv with _ _ h; omega
theorem SlAt.take_ {w : World} {A : Option Addr} {xs : List Value} (h : SlAt w A xs) (m : Nat) : SlAt w A (xs.take m) := by
  rcases h with h | ⟨b, off, hA, hc⟩
  · subst h; exact .inl (by simp)
  · refine .inr ⟨b, off, hA, fun j u hu => hc j u ?_⟩
    rw [List.getElem?_take] at hu
    split at hu
    · exact hu
    · cases hu
theorem SlAt.from1 {w : World} {A : Option Addr} {cells : List Value} (h : SlAt w A cells) (cc r n : Nat) (hn : cells.length = n) (hc : n ≤ cc) :
    SlAt w (if cc = r then A else Option.map (fun x => x.add (r * 1)) A) (cells.drop r) := by
  by_cases e : cc = r
  · rw [if_pos e, List.drop_eq_nil_of_le (by omega)]
    exact .inl rfl
  · rw [if_neg e]
    rcases h with h | ⟨b, off, hA, hc⟩
    · exact .inl (by rw [h]; simp)
    · refine .inr ⟨b, off + r, by rw [hA]; simp [Addr.add_lit], fun j u hu => ?_⟩
      rw [Nat.add_assoc]
      exact hc _ u (by rw [List.getElem?_drop] at hu; exact hu)
theorem insK_at (x : List UInt8) (l : List (List UInt8)) (n : Nat) (hn : n ≤ l.length) (h1 : ∀ y ∈ l.take n, y < x) (h2 : ∀ y, l[n]? = some y → ¬ y < x) : insK x l = l.take n ++ x :: l.drop n := by
  have ht : l.takeWhile (fun y => decide (y < x)) = l.take n ∧ l.dropWhile (fun y => decide (y < x)) = l.drop n := by
    induction l generalizing n with
    | nil => simp
    | cons y l ih =>
      cases n with
      | zero =>
        have := h2 y rfl
        simp [List.takeWhile_cons, List.dropWhile_cons, this]
      | succ n =>
        have hy : y < x := h1 y (by simp)
        have := ih n (by simpa using hn) (fun z hz => h1 z (by simp [hz])) (fun z hz => h2 z (by simpa using hz))
        simp [List.takeWhile_cons, List.dropWhile_cons, hy, this]
  unfold insK
  rw [ht.1, ht.2]

set_option maxRecDepth 100000 in
set_option maxHeartbeats 2000000 in
theorem klist_any (k : Nat) (fm : List FM) (names safe : Nms) (steps stop : Int) (FA : Option Addr) (Fc : Nat) (NA : Option Addr) (Nc : Nat) (SA : Option Addr) (Sc : Nat) (w : World) (h : KAt w k fm names safe steps stop FA Fc NA Nc SA Sc) (hl : names.length ≤ 1000000) :
    Calls Tryd.prog 12 #[.pointer (some ⟨k, 0, none⟩)] w fun e w' => (∃ A c, e = .returned (.slice A names.length c) ∧ SlAt w' A (strs (isortK (names.map (·.1))))) ∧ Below w.heap.size w w' := by
  have HH := Lib.hid (And.intro h hl)
  have hli : (names.length : Int) ≤ 1000000 := by omega
  clear h hl
  go_enter Tryd.func12, Tryd.ntmps12
  go_wp2_with fail
  go_loopw [3, 4] (fun ov iv wr => ∃ (i : Nat) (l : List (List UInt8)) (B : Option Addr) (cc : Nat), iv = .int .i64 i ∧ i ≤ names.length ∧ l = isortK ((names.take i).map (·.1)) ∧ l.length = i ∧ ov = .slice B i cc ∧ wr.ownsRow w.heap.size 9 1 (.slice B i cc) i (strs l) ∧ Below w.heap.size w wr) (fun _ iv _ => names.length - (intOf iv).toNat)
  case atStart => exact ⟨0, [], none, 0, rfl, Nat.zero_le _, rfl, rfl, rfl, World.ownsRow_nil _ _ _ _, Below.refl _ _⟩
  case round =>
    obtain ⟨i, l, B, cc, rfl, hi, hl, hll, rfl, hrow, hb⟩ := hrel
    have hK := HH.out.1.below hb
    have c1 : wr.cell? ⟨k, 1, none⟩ = some (.slice NA names.length Nc) := hK.blk.cell 1
    by_cases hlt : i < names.length
    · have d0 : decide ((i : Int) < (names.length : Int)) = true := by simp; omega
      obtain ⟨x, hx⟩ : ∃ x, names[i]? = some x := ⟨_, List.getElem?_eq_getElem hlt⟩
      obtain ⟨nx, hnx⟩ : ∃ nx : ByteArray, nx = ⟨x.1.toArray⟩ := ⟨_, rfl⟩
      have hxl : nx.toList = x.1 := by rw [hnx, ByteArray.toList_eq]
      have htk : isortK ((names.take (i + 1)).map (·.1)) = insK x.1 l := by
        rw [List.take_add_one, hx, hl]
        simp [isortK_snoc]
      have H0 := Lib.hid (And.intro hx (And.intro hnx (And.intro hxl (And.intro htk (And.intro hl (And.intro hll (And.intro hrow (And.intro hb hK))))))))
      clear hx hnx hxl htk hl hll hrow hb hK
      go_wp2_with fail
      clear c1
      rename World => wz
      go_loopw [5] (fun nv wr => ∃ n : Nat, nv = .int .i64 n ∧ n ≤ i ∧ (∀ y ∈ l.take n, y < x.1) ∧ Below wz.heap.size wz wr) (fun nv _ => i - (intOf nv).toNat)
      case atStart => exact ⟨0, rfl, Nat.zero_le _, by simp, Below.refl _ _⟩
      case round =>
        obtain ⟨n, rfl, hn, hall, hb2⟩ := hrel
        have hK := H0.out.2.2.2.2.2.2.2.2.below hb2
        have hrow2 := owns_below H0.out.2.2.2.2.2.2.1 hb2
        have hsz := (H0.out.2.2.2.2.2.2.2.1.trans (hb2.mono H0.out.2.2.2.2.2.2.2.1.size)).size
        have hll := H0.out.2.2.2.2.2.1
        have c1 : wr.cell? ⟨k, 1, none⟩ = some (.slice NA names.length Nc) := hK.blk.cell 1
        obtain ⟨hn0, hn1⟩ := ncells_at names i x H0.out.1
        obtain ⟨b, off, hA, n0⟩ := (SlAt.of_owns hK.nm).at_ hn0
        rw [← H0.out.2.1] at n0
        subst hA
        have hii : (i : Int) < (names.length : Int) := by omega
        by_cases hc : n < i ∧ ∀ y, l[n]? = some y → y < x.1
        · obtain ⟨hln, hcy⟩ := hc
          have d1 : decide ((n : Int) < (i : Int)) = true := by simp; omega
          obtain ⟨y, hy⟩ : ∃ y, l[n]? = some y := ⟨_, List.getElem?_eq_getElem (by omega)⟩
          have hlt2 := hcy y hy
          obtain ⟨yb, hyb⟩ : ∃ yb : ByteArray, yb = ⟨y.toArray⟩ := ⟨_, rfl⟩
          obtain ⟨b', off', hB, m0⟩ := (SlAt.of_owns hrow2).at_ (strs_at l n y hy)
          rw [← hyb] at m0
          have hyl : yb.toList = y := by rw [hyb, ByteArray.toList_eq]
          have hcm : Op.bytesLess yb.toList nx.toList = true := by rw [bytesLess_eq, hyl, H0.out.2.2.1]; simpa using hlt2
          have m1 : wr.cell? ⟨b', off' + n * 1, none⟩ = some (.string yb) := by rw [Nat.mul_one]; exact m0
          have hall2 : ∀ z ∈ l.take (n + 1), z < x.1 := by
            intro z hz
            rw [List.take_add_one, hy] at hz
            rcases List.mem_append.1 hz with hz | hz
            · exact hall z hz
            · have : z = y := by simpa using hz
              rw [this]; exact hlt2
          have HA := Lib.hid (And.intro hall2 hb2)
          subst hB
          clear hK hrow2 hsz hll hn0 hn1 hy hyb hyl hlt2 hall hall2 hb2 hcy
          go_wp2_with fail
          go_quiet ((fail))
          go_wp2_with fail
          go_roundw
          case rel => exact ⟨n + 1, by go_num, hln, HA.out.1, belowN HA.out.2 _⟩
          case measure => simp [intOf] <;> omega
        · have hins : insK x.1 l = l.take n ++ x.1 :: l.drop n := by
            refine insK_at x.1 l n (by omega) hall (fun y hy hlt => hc ⟨?_, fun z hz => ?_⟩)
            · have := (List.getElem?_eq_some_iff.1 hy).1
              omega
            · rw [hy] at hz; cases hz; exact hlt
          have hHI := Lib.hid (And.intro hins (And.intro hK (And.intro hrow2 (And.intro hsz (And.intro hll hb2)))))
          have hexit : ∀ (W : World), W = wr ∨ (∃ q, W = wr.drewN q) → KAt W k fm names safe steps stop FA Fc (some ⟨b, off, none⟩) Nc SA Sc ∧ W.ownsRow w.heap.size 9 1 (.slice B i cc) i (strs l) ∧ Below w.heap.size w W := by
            have hBB := H0.out.2.2.2.2.2.2.2.1.trans (hb2.mono H0.out.2.2.2.2.2.2.2.1.size)
            rintro W (rfl | ⟨q, rfl⟩)
            · exact ⟨hK, hrow2, hBB⟩
            · exact ⟨hK.below (belowN (Below.refl _ _) q), owns_below hrow2 (belowN (Below.refl _ _) q), belowN hBB q⟩
          have HE := Lib.hid hexit
          have HINS := Lib.hid hins
          clear hins hexit
          by_cases hln : n < i
          case' pos =>
            have d1 : decide ((n : Int) < (i : Int)) = true := by simp; omega
            obtain ⟨y, hy⟩ : ∃ y, l[n]? = some y := ⟨_, List.getElem?_eq_getElem (by omega)⟩
            have hlt2 : ¬ y < x.1 := fun h => hc ⟨hln, fun z hz => by rw [hy] at hz; cases hz; exact h⟩
            obtain ⟨yb, hyb⟩ : ∃ yb : ByteArray, yb = ⟨y.toArray⟩ := ⟨_, rfl⟩
            obtain ⟨b', off', hB, m0⟩ := (SlAt.of_owns hrow2).at_ (strs_at l n y hy)
            rw [← hyb] at m0
            have hyl : yb.toList = y := by rw [hyb, ByteArray.toList_eq]
            have hcm : Op.bytesLess yb.toList nx.toList = false := by rw [bytesLess_eq, hyl, H0.out.2.2.1]; simpa using hlt2
            have m1 : wr.cell? ⟨b', off' + n * 1, none⟩ = some (.string yb) := by rw [Nat.mul_one]; exact m0
            subst hB
            clear hK hrow2 hsz hll hn0 hn1 hy hyb hyl hlt2 hall hb2 hc hHI
            go_wp2_with fail
            go_quiet ((fail))
            generalize hBB : (some (⟨b', off', none⟩ : Addr)) = B at HE H0 ⊢
            clear m0 m1 hcm hBB
          case' neg =>
            have d1 : decide ((n : Int) < (i : Int)) = false := by simp; omega
            clear hK hrow2 hsz hll hn0 hn1 hall hb2 hc hHI
            go_wp2_with fail
            go_quiet ((fail))
          all_goals
            obtain ⟨hKW, hrW, hbW⟩ := HE.out (wr.drewN nq) (.inr ⟨nq, rfl⟩)
            clear n0 c1 HE d1
            generalize wr.drewN nq = W at hKW hrW hbW ⊢
            have hcap : n ≤ cc := by have := owns_cap_ hrW; omega
            have hsl := fun (W1 : World) => run_slice_strs_to W1 B i cc n hcap
            obtain ⟨A1, c1, w1, hrun1, hrow1, hb1, hc1⟩ := run_append_slb (P := Tryd.prog) W.heap.size W 26 26 9 Tryd.underlying26 infoStrN rfl (by decide) none 0 0 [] (World.ownsRow_nil _ _ _ _) (Nat.le_refl _) B n cc (strs (l.take n)) (by rw [strs_len, List.length_take, H0.out.2.2.2.2.2.1, Nat.mul_one]; omega) (by
              have h0 := (SlAt.of_owns hrW).take_ n
              simpa [strs, List.map_take] using h0) (strs_one _) (by have := HH.out.2; unfold maxLen; omega) (by have := HH.out.2; omega)
            rw [Nat.zero_add] at hrun1 hrow1
            rw [List.nil_append] at hrow1
            have HR1 : Hid (∀ ty, (Builtin.append_ #[26, 26] ty #[.slice none 0 0, .slice B n cc]).run Tryd.prog W = .ok (.slice A1 n c1) w1) := Lib.hid (fun _ => hrun1)
            have hK1 := hKW.below hb1
            have k1 : w1.cell? ⟨k, 1, none⟩ = some (.slice (some ⟨b, off, none⟩) names.length Nc) := hK1.blk.cell 1
            obtain ⟨hn0, hn1⟩ := ncells_at names i x H0.out.1
            obtain ⟨b2, off2, hA2, k0⟩ := (SlAt.of_owns hK1.nm).at_ hn0
            injection hA2 with hA2
            injection hA2 with hA2 hA3 _
            subst hA2 hA3
            rw [← H0.out.2.1] at k0
            have hs1 := hb1.size
            have hnl : n ≤ 1000000000000 := by have := HH.out.2; omega
            have H1 := Lib.hid (And.intro hKW (And.intro hrW (And.intro hbW (And.intro hb1 (And.intro hn hcap)))))
            clear hrun1 hn0 hn1 hKW hrW hbW hb1 hc1 hcap hK1
            go_wp2_with (first | (at_builtin; refine Lib.wpList_append_run (o := ⟨some 41, _, _, _, _, _⟩) _ rfl _ _ _ _ rfl _ _ rfl rfl _ _ (HR1.out _) ?_) | (at_builtin; refine wpList_push _ rfl (.tmp 42) (.tmp 51) _ rfl W.heap.size 9 Tryd.underlying26 infoStrN rfl (by decide) (by decide) _ _ _ rfl hrow1 _ rfl rfl ?_ hnl hs1 ?_) | fail)
            · rfl
            intro A2 c2 w2 hrow2 hg2
            obtain ⟨S3, hS3⟩ : ∃ S3 : Option Addr, (if cc = n then B else Option.map (fun x => x.add (n * 1)) B) = S3 := ⟨_, rfl⟩
            obtain ⟨hKW, hrW, hbW, hb1, hn', hcap⟩ := H1.out
            have hb2 : Below W.heap.size W w2 := hb1.grown hg2 hb1.size (ownBlock_ge hrow1)
            have hll : l.length = i := H0.out.2.2.2.2.2.1
            have hfrom := SlAt.from1 ((SlAt.of_owns hrW).below hb2) cc n i (by rw [strs_len, hll]) (owns_cap_ hrW)
            rw [hS3] at hfrom
            have hrow2' : w2.ownsRow W.heap.size 9 1 (.slice A2 (n + 1) c2) (n + 1) (strs (l.take n ++ [x.1])) := by
              rw [strs_append]
              have : (Value.string nx) = encStr x.1 := by rw [H0.out.2.1]
              rw [this] at hrow2
              exact hrow2
            obtain ⟨A3, c3, w3, hrun3, hrow3, hb3, hc3⟩ := run_append_slb (P := Tryd.prog) W.heap.size w2 26 26 9 Tryd.underlying26 infoStrN rfl (by decide) A2 (n + 1) c2 (strs (l.take n ++ [x.1])) hrow2' hb2.size S3 (i - n) (cc - n) (strs (l.drop n)) (by rw [strs_len, List.length_drop, hll, Nat.mul_one]) (by
              simpa [strs, List.map_drop] using hfrom) (strs_one _) (by have := HH.out.2; unfold maxLen; omega) (by have := HH.out.2; omega)
            have hni : n + 1 + (i - n) = i + 1 := by omega
            rw [hni] at hrun3 hrow3
            have HR3 : Hid (∀ ty, (Builtin.append_ #[26, 26] ty #[.slice A2 (n + 1) c2, .slice S3 (i - n) (cc - n)]).run Tryd.prog w2 = .ok (.slice A3 (i + 1) c3) w3) := Lib.hid (fun _ => hrun3)
            have H3 := Lib.hid (And.intro hrow3 (And.intro (hbW.trans ((hb2.trans hb3).mono hbW.size)) (hbW.size)))
            have hsl3 := fun (W1 : World) => run_slice_strs_from W1 B i cc n S3 hn hS3
            clear hrow2' hrun3 hrow3 hb3 hc3 hKW hrW hbW hb1 hcap hb2 hfrom hll hrow2 hg2 hrow1 k1 k0 hni hsl hS3
            go_wp2_with (first | (at_builtin; refine Lib.wpList_append_run (o := ⟨some 57, _, _, _, _, _⟩) _ rfl _ _ _ _ rfl _ _ rfl rfl _ _ (HR3.out _) ?_) | fail)
            go_roundw
            case rel =>
              have h1 := H0.out.2.2.2.1
              have h2 := (isortK_len ((names.take (i + 1)).map (·.1)))
              refine ⟨i + 1, insK x.1 l, A3, c3, by go_num, hlt, h1.symm, ?_, rfl, ?_, H3.out.2.1⟩
              · rw [← h1, h2, List.length_map, List.length_take]
                omega
              · have h3 := row_base H3.out.1 (b1 := w.heap.size) (fun a ha => Nat.le_trans H3.out.2.2 (ownBlock_ge H3.out.1 a.block (by rw [ha]; rfl)))
                rw [← strs_append] at h3
                rw [HINS.out]
                simpa using h3
            case measure => simp [intOf] <;> omega
    · obtain rfl : i = names.length := by omega
      have d0 : decide ((names.length : Int) < (names.length : Int)) = false := by simp
      have H0 := Lib.hid (And.intro hl (And.intro hll (And.intro hrow hb)))
      clear hl hll hrow hb hK
      go_wp2_with fail
      go_ret
      obtain ⟨hl, hll, hrow, hb⟩ := H0.out
      rw [List.take_length] at hl
      subst hl
      exact ⟨⟨_, _, rfl, SlAt.of_owns hrow⟩, hb⟩
end Go.Proofs.YtbfmdpgghknccaaDoor
