/- bookref1.Quote: the text between quotes: the contract. -/
import Derived.Test.YtfnigdbnkdofiaaDoorBuild
import Derived.Test.YtfnigdbnkdofiaaDoorTextPlain
namespace Go.Proofs.YtfnigdbnkdofiaaDoor
open Go.RowKit
set_option linter.unusedVariables false
set_option linter.unusedSimpArgs false

set_option maxRecDepth 100000 in
set_option maxHeartbeats 400000 in
theorem hex_int (x : Int) (h0 : 0 ≤ x) (h1 : x < 16) (w : World) : Calls Tryd.prog 44 #[.int .u8 x] w fun e w' => e = .returned (.int .u8 (hexU x.toNat).toNat) ∧ w' = w := by
  obtain ⟨n, rfl⟩ : ∃ n : Nat, x = (n : Int) := ⟨x.toNat, by omega⟩
  have h2 := hexU_nat n (by omega)
  rw [Int.toNat_natCast]
  obtain ⟨u, hu⟩ : ∃ u, u = ((hexU n).toNat : Int) := ⟨_, rfl⟩
  rw [← hu] at h2 ⊢
  by_cases h10 : n < 10
  · have hc : ((n : Nat) : Int) < 10 := by omega
    rw [if_pos h10] at h2
    have H2 := Lib.hid h2
    clear h2 hu
    go_enter Tryd.func44, Tryd.ntmps44
    go_wp2_with fail
    go_ret
    refine ⟨?_, rfl⟩
    rw [H2.out]; go_num
  · have hc : ¬ ((n : Nat) : Int) < 10 := by omega
    rw [if_neg h10] at h2
    have H2 := Lib.hid h2
    clear h2 hu
    go_enter Tryd.func44, Tryd.ntmps44
    go_wp2_with fail
    go_ret
    refine ⟨?_, rfl⟩
    rw [H2.out]; go_num

/-- What is known in the loop: the row holds bs. -/
structure RQ (w : World) (A : Option Addr) (c : Nat) (bs : List UInt8) (wr : World) : Prop where
  own : wr.ownsRow w.heap.size 5 1 (.slice A bs.length c) bs.length (Lib.byteCells bs)
  bel : Below w.heap.size w wr
theorem RQ.next {w wr w' : World} {A A' : Option Addr} {c c' m : Nat} {bs l : List UInt8} (h : RQ w A c bs wr) (hown : w'.ownsRow w.heap.size 5 1 (.slice A' (bs.length + m) c') (bs.length + m) (Lib.byteCells bs ++ Lib.byteCells l)) (hm : m = l.length) (hg : wr.grownBy w' (Value.slice A bs.length c).ownBlock) : RQ w A' c' (bs ++ l) w' := by
  refine ⟨?_, h.bel.grown hg h.bel.size (ownBlock_ge h.own)⟩
  rw [Lib.byteCells_append, List.length_append, ← hm]
  exact hown

set_option maxRecDepth 100000 in
set_option maxHeartbeats 2000000 in
theorem rquote_any (s : ByteArray) (hs : s.size ≤ 1000000) (w : World) :
    Calls Tryd.prog 22 #[.string s] w fun e w' => e = .returned (.string ⟨(quoteL s.data.toList).toArray⟩) ∧ Below w.heap.size w w' := by
  have HZ := Lib.hid (show s.size = s.data.toList.length from rfl)
  go_enter Tryd.func22, Tryd.ntmps22
  go_wp2_with (at_builtin; refine wpList_pushN _ rfl (.tmp 6) (.tmp 7) _ rfl w.heap.size 5 Tryd.underlying40 infoB rfl (by decide) (by decide) _ 0 [] rfl (World.ownsRow_nil _ _ _ _) 1 (by omega) _ rfl rfl (bytes_one [34]) (by omega) (Nat.le_refl _) ?_)
  intro A0 c0 w0 hown0 hg0
  have hR0 : RQ w A0 c0 [34] w0 := (show RQ w none 0 [] w from ⟨World.ownsRow_nil _ _ _ _, Below.refl _ _⟩).next (l := [34]) hown0 rfl hg0
  clear hown0 hg0
  refine wpList_at (RQ w A0 c0 [34]) hR0 ?_
  clear hR0
  intro w1 H1
  replace H1 := Lib.hid H1
  go_wp2_with fail
  go_loopw [3, 4] (fun v m wr => ∃ (i : Nat) (A : Option Addr) (c : Nat), m = .int .i64 i ∧ i ≤ s.size ∧ v = .slice A (quoteTo s.data.toList i).length c ∧ RQ w A c (quoteTo s.data.toList i) wr)
    (fun _ m _ => s.size - (intOf m).toNat)
  case atStart => exact ⟨0, A0, c0, by go_num, by omega, rfl, H1.out⟩
  case round =>
    clear H1
    obtain ⟨i, A, cA, rfl, hi, rfl, HQ⟩ := hrel
    have hlen := quoteTo_len s.data.toList i
    rw [← HZ.out] at hlen
    have hbs := HQ.bel.size
    obtain ⟨bs, hbb⟩ : ∃ bs, bs = quoteTo s.data.toList i := ⟨_, rfl⟩
    rw [← hbb] at HQ hlen ⊢
    replace HQ := Lib.hid HQ
    by_cases hlt : i < s.size
    · have hlt1 : (i : Int) < (s.size : Int) := by omega
      obtain ⟨c, hc⟩ : ∃ c : UInt8, s.data.toList[i]? = some c := ⟨_, List.getElem?_eq_getElem (by rw [← HZ.out]; exact hlt)⟩
      have hstep := quoteTo_step hc
      have HI := Lib.hid (And.intro hc hstep); clear hstep
      obtain ⟨n, hn⟩ : ∃ n, n = c.toNat := ⟨_, rfl⟩
      have hn2 : n < 256 := by rw [hn]; exact c.toNat_lt
      have hcell : ∀ h, ((s[i]'h).toNat : Int) = (n : Int) := by
        intro h
        rw [List.getElem?_eq_getElem (by rw [← HZ.out]; exact hlt)] at hc
        injection hc with hc
        rw [hn, ← hc]
        rfl
      clear hc
      by_cases g1 : n = 34
      · have hc34 : c = 34 := UInt8.toNat_inj.1 (by rw [← hn]; exact g1)
        subst hc34
        replace hcell : ∀ h, ((s[i]'h).toNat : Int) = 34 := by intro h; rw [hcell, g1]; rfl
        have HJ := Lib.hid (show quoteTo s.data.toList (i + 1) = bs ++ [92, 34] from by rw [HI.out.2, hbb]; simp [quoteB])
        clear hbb HI g1 hn hn2
        go_wp2_with (at_builtin; refine wpList_pushN _ rfl (.tmp 24) (.tmp 26) _ rfl w.heap.size 5 Tryd.underlying40 infoB rfl (by decide) (by decide) _ _ (Lib.byteCells bs) rfl HQ.out.own 2 (by omega) _ rfl rfl ?_ (by omega) hbs ?_)
        · first | rfl | exact ⟨rfl, rfl⟩ | exact ⟨rfl, rfl, rfl⟩
        intro A2 c2 w2 hown2 hg2
        have HN := Lib.hid (HQ.out.next (l := [92, 34]) hown2 rfl hg2)
        refine wpList_at (RQ w A2 c2 (bs ++ [92, 34])) HN.out ?_
        clear hown2 hg2 HN HQ
        intro w3 HN
        replace HN := Lib.hid HN
        go_wp2_with fail
        go_roundw
        case rel => exact ⟨i + 1, A2, c2, by go_num, by omega, by rw [HJ.out]; simp, by rw [HJ.out]; exact HN.out⟩
        case measure => simp [intOf]; omega
      by_cases g2 : n = 92
      · have hc34 : c = 92 := UInt8.toNat_inj.1 (by rw [← hn]; exact g2)
        subst hc34
        replace hcell : ∀ h, ((s[i]'h).toNat : Int) = 92 := by intro h; rw [hcell, g2]; rfl
        have HJ := Lib.hid (show quoteTo s.data.toList (i + 1) = bs ++ [92, 92] from by rw [HI.out.2, hbb]; simp [quoteB])
        clear hbb HI g2 hn hn2
        go_wp2_with (at_builtin; refine wpList_pushN _ rfl (.tmp 24) (.tmp 26) _ rfl w.heap.size 5 Tryd.underlying40 infoB rfl (by decide) (by decide) _ _ (Lib.byteCells bs) rfl HQ.out.own 2 (by omega) _ rfl rfl ?_ (by omega) hbs ?_)
        · first | rfl | exact ⟨rfl, rfl⟩ | exact ⟨rfl, rfl, rfl⟩
        intro A2 c2 w2 hown2 hg2
        have HN := Lib.hid (HQ.out.next (l := [92, 92]) hown2 rfl hg2)
        refine wpList_at (RQ w A2 c2 (bs ++ [92, 92])) HN.out ?_
        clear hown2 hg2 HN HQ
        intro w3 HN
        replace HN := Lib.hid HN
        go_wp2_with fail
        go_roundw
        case rel => exact ⟨i + 1, A2, c2, by go_num, by omega, by rw [HJ.out]; simp, by rw [HJ.out]; exact HN.out⟩
        case measure => simp [intOf]; omega
      have e1 : (((n : Nat) : Int) == 34) = false := by simp; omega
      have e2 : (((n : Nat) : Int) == 92) = false := by simp; omega
      obtain ⟨u1, hu1⟩ : ∃ u1, hexU (n / 16) = u1 := ⟨_, rfl⟩
      obtain ⟨u2, hu2⟩ : ∃ u2, hexU (n % 16) = u2 := ⟨_, rfl⟩
      have hx1 : hexU ((n : Int) / 16).toNat = u1 := by rw [← hu1]; congr 1
      have hx2 : hexU ((n : Int) % 16).toNat = u2 := by rw [← hu2]; congr 1
      by_cases g3 : n < 32
      · have e3 : ((n : Nat) : Int) < 32 := by omega
        have hq : quoteB c = [92, u1, u2] := by
          rw [← hu1, ← hu2]
          rcases qkind c with ⟨h, q⟩ | ⟨h1, h2, h, q⟩ | ⟨h1, h2, h, h', q⟩
          · rcases h with rfl | rfl
            · exact absurd hn g1
            · exact absurd hn g2
          · rw [hn]; exact q
          · omega
        have HJ := Lib.hid (show quoteTo s.data.toList (i + 1) = bs ++ [92, u1, u2] from by rw [HI.out.2, hq, hbb])
        clear hq hbb g1 g2 g3 hn HI hu1 hu2
        go_wp2_with (first
          | (go_at_call 44; refine (hex_int _ (by omega) (by omega) _).mono ?_; rintro e w9 ⟨rfl, rfl⟩)
          | (at_builtin; refine wpList_pushN _ rfl (.tmp 34) (.tmp 41) _ rfl w.heap.size 5 Tryd.underlying40 infoB rfl (by decide) (by decide) _ _ (Lib.byteCells bs) rfl HQ.out.own 3 (by omega) _ rfl rfl ?_ (by omega) hbs ?_)
          )
        · first | rfl | exact ⟨rfl, rfl⟩ | exact ⟨rfl, rfl, rfl⟩
        intro A2 c2 w2 hown2 hg2
        have HN := Lib.hid (HQ.out.next (l := [92, u1, u2]) hown2 rfl hg2)
        refine wpList_at (RQ w A2 c2 (bs ++ [92, u1, u2])) HN.out ?_
        clear hown2 hg2 HN HQ
        intro w3 HN
        replace HN := Lib.hid HN
        go_wp2_with fail
        go_roundw
        case rel => exact ⟨i + 1, A2, c2, by go_num, by omega, by rw [HJ.out]; simp, by rw [HJ.out]; exact HN.out⟩
        case measure => simp [intOf]; omega
      by_cases g4 : 126 < n
      · have e3 : ¬ ((n : Nat) : Int) < 32 := by omega
        have e4 : (126 : Int) < ((n : Nat) : Int) := by omega
        have hq : quoteB c = [92, u1, u2] := by
          rw [← hu1, ← hu2]
          rcases qkind c with ⟨h, q⟩ | ⟨h1, h2, h, q⟩ | ⟨h1, h2, h, h', q⟩
          · rcases h with rfl | rfl
            · exact absurd hn g1
            · exact absurd hn g2
          · rw [hn]; exact q
          · omega
        have HJ := Lib.hid (show quoteTo s.data.toList (i + 1) = bs ++ [92, u1, u2] from by rw [HI.out.2, hq, hbb])
        clear hq hbb g1 g2 g3 hn HI hu1 hu2
        go_wp2_with (first
          | (go_at_call 44; refine (hex_int _ (by omega) (by omega) _).mono ?_; rintro e w9 ⟨rfl, rfl⟩)
          | (at_builtin; refine wpList_pushN _ rfl (.tmp 34) (.tmp 41) _ rfl w.heap.size 5 Tryd.underlying40 infoB rfl (by decide) (by decide) _ _ (Lib.byteCells bs) rfl HQ.out.own 3 (by omega) _ rfl rfl ?_ (by omega) hbs ?_)
          )
        · first | rfl | exact ⟨rfl, rfl⟩ | exact ⟨rfl, rfl, rfl⟩
        intro A2 c2 w2 hown2 hg2
        have HN := Lib.hid (HQ.out.next (l := [92, u1, u2]) hown2 rfl hg2)
        refine wpList_at (RQ w A2 c2 (bs ++ [92, u1, u2])) HN.out ?_
        clear hown2 hg2 HN HQ
        intro w3 HN
        replace HN := Lib.hid HN
        go_wp2_with fail
        go_roundw
        case rel => exact ⟨i + 1, A2, c2, by go_num, by omega, by rw [HJ.out]; simp, by rw [HJ.out]; exact HN.out⟩
        case measure => simp [intOf]; omega
      · have e3 : ¬ ((n : Nat) : Int) < 32 := by omega
        have e4 : ¬ (126 : Int) < ((n : Nat) : Int) := by omega
        have hq : quoteB c = [c] := by
          rcases qkind c with ⟨h, q⟩ | ⟨h1, h2, h, q⟩ | ⟨h1, h2, h, h', q⟩
          · rcases h with rfl | rfl
            · exact absurd hn g1
            · exact absurd hn g2
          · omega
          · exact q
        have HJ := Lib.hid (show quoteTo s.data.toList (i + 1) = bs ++ [c] from by rw [HI.out.2, hq, hbb])
        have HCN := Lib.hid hn
        clear hq hbb g1 g2 g3 g4 hn HI hx1 hx2 hu1 hu2
        go_wp2_with (at_builtin; refine wpList_pushN _ rfl (.tmp 43) (.tmp 45) _ rfl w.heap.size 5 Tryd.underlying40 infoB rfl (by decide) (by decide) _ _ (Lib.byteCells bs) rfl HQ.out.own 1 (by omega) _ rfl rfl ?_ (by omega) hbs ?_)
        · first | rfl | exact ⟨rfl, rfl⟩ | exact ⟨rfl, rfl, rfl⟩
        intro A2 c2 w2 hown2 hg2
        rw [HCN.out] at hown2
        have HN := Lib.hid (HQ.out.next (l := [c]) hown2 rfl hg2)
        refine wpList_at (RQ w A2 c2 (bs ++ [c])) HN.out ?_
        clear hown2 hg2 HN HQ
        intro w3 HN
        replace HN := Lib.hid HN
        go_wp2_with fail
        go_roundw
        case rel => exact ⟨i + 1, A2, c2, by go_num, by omega, by rw [HJ.out]; simp, by rw [HJ.out]; exact HN.out⟩
        case measure => simp [intOf]; omega
    · have hlt1 : ¬ (i : Int) < (s.size : Int) := by omega
      have he := quoteTo_end s.data.toList (i := i) (by rw [← HZ.out]; omega)
      rw [← hbb] at he
      clear hbb
      go_wp2_with (at_builtin; refine wpList_pushN _ rfl (.tmp 47) (.tmp 48) _ rfl w.heap.size 5 Tryd.underlying40 infoB rfl (by decide) (by decide) _ _ (Lib.byteCells bs) rfl HQ.out.own 1 (by omega) _ rfl rfl (bytes_one [34]) (by omega) hbs ?_)
      intro A0 c0 w0 hown0 hg0
      have hN := HQ.out.next (l := [34]) hown0 rfl hg0
      rw [he] at hN
      have hl2 : bs.length + 1 = (quoteL s.data.toList).length := by rw [← he]; simp
      rw [hl2]
      have hconv := conv_row (P := Tryd.prog) hN.own Tryd.underlying40 Tryd.underlying5 Tryd.underlying9
      refine wpList_at (fun w1 => Below w.heap.size w w1 ∧ (convert 40 9 (.slice A0 (quoteL s.data.toList).length c0)).run Tryd.prog w1 = .ok (.string ⟨(quoteL s.data.toList).toArray⟩) w1) ⟨hN.bel, hconv⟩ ?_
      clear hown0 hg0 HQ hN hconv he hl2
      obtain ⟨q, hq⟩ : ∃ q, q = quoteL s.data.toList := ⟨_, rfl⟩
      rw [← hq]
      have HQ2 := Lib.hid hq
      clear hq
      intro w1 H1
      have hconv := H1.2
      have HB := Lib.hid H1.1; clear H1
      go_wp2_with fail
      go_ret
      exact ⟨by rw [← HQ2.out]; rfl, HB.out⟩
end Go.Proofs.YtfnigdbnkdofiaaDoor
