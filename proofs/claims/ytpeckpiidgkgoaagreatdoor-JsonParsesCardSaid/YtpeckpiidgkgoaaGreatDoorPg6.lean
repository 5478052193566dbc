/- Append, Unquote. -/
import Derived.Test.YtpeckpiidgkgoaaGreatDoorPg5
import Derived.Deep.RegionLaw
import Derived.Test.YtpeckpiidgkgoaaGreatDoorPg3
import Derived.Test.YtpeckpiidgkgoaaGreatDoorPg2
import Derived.Test.YtpeckpiidgkgoaaGreatDoorPg4
import Derived.Test.YtpeckpiidgkgoaaGreatDoorShelfP
import Derived.Lib.Hide
/- append of what a slice reads as, onto a row of one's own: of any number of elements, none too. Over any program. -/
namespace Go.Proofs.YtpeckpiidgkgoaaGreatDoor
open Go.RowKit
set_option linter.unusedVariables false
set_option linter.unusedSimpArgs false
section
variable {P : Program}

theorem wpList_at {P : Program} {ops : Array Oper} {Q : Exit → Act → World → Prop} {l : List Oper} {a : Act} {w : World} (F : World → Prop) (hF : F w) (h : ∀ w1, F w1 → wpList P ops Q l a w1) : wpList P ops Q l a w := h w hF

theorem grownBy_refl (w : World) (r : Option Nat) : w.grownBy w r := ⟨rfl, rfl, rfl, Nat.le_refl _, fun _ _ _ => rfl⟩
theorem grown_below {B : Nat} {w w' : World} {r : Option Nat} (hg : w.grownBy w' r) (hB : B ≤ w.heap.size) (hlow : ∀ k, r = some k → B ≤ k) : Below B w w' := by
  refine ⟨hg.os, hg.tape, hg.output, hg.size, fun k hk => hg.block k (Nat.lt_of_lt_of_le hk hB) ?_⟩
  intro e
  have := hlow k e.symm
  omega

/-- append, by what running it gives, as one step of a region that draws its order. -/
theorem step_append_run {ops : Array Oper} {o : Oper} {a : Act} {w : World} {K : Act → World → Prop} {Q : Exit → Act → World → Prop} {E : Prop}
    (hg : o.guard = none) (s x : Operand) (t tn : TypeId) (hop : o.op = Op.call { callee := Callee.builtin Builtin.append, args := #[s, x], argTypes := #[t, tn] })
    (v u : Value) (hs : a.eval s = v) (hx : a.eval x = u) {v' : Value} {w' : World} (hrun : (Builtin.append_ #[t, tn] o.type #[v, u]).run P w = .ok v' w')
    (hK : K (a.put o.dst v') w') : if Region.wanted o (yielded ops a.tmps) = true then Oper.wp P o a w K Q else E := by
  have hw : Region.wanted o (yielded ops a.tmps) = true := by simp [Region.wanted, hg]
  rw [if_pos hw]
  unfold Oper.wp
  simp [execOp, hop, resolve, invoke, builtin, hs, hx, hrun, Result.andThen]
  exact hK

theorem run_append_sl (w : World) (t ty e : TypeId) {z : Value} {size bytes : Nat} (ht : P.underlying t = some (.slice e)) (hinfo : (P.info? e).map (fun i => (i.zero, i.size, i.bytes)) = some (some z, size, bytes)) (hzs : z.cells.size = size) (hsz : 0 < size)
    (A : Option Addr) (n c : Nat) (xs : List Value) (hown : w.ownsRow 0 e size (.slice A n c) n xs) (B : Option Addr) (m k : Nat) (news : List Value) (hl : news.length = m * size) (hB : SlAt w B news) (h1 : ∀ u ∈ news, u.oneCell' = true)
    (h63 : n + m ≤ maxLen) (hbytes : (n + m) * bytes ≤ 140737488355328) :
    ∃ A' c' w', (Builtin.append_ #[t, t] ty #[.slice A n c, .slice B m k]).run P w = .ok (.slice A' (n + m) c') w' ∧ w'.ownsRow 0 e size (.slice A' (n + m) c') (n + m) (xs ++ news) ∧
      w.grownBy w' (Value.slice A n c).ownBlock ∧ ((A' = A ∧ c' = c) ∨ A' = some ⟨w.heap.size, 0, none⟩) := by
  by_cases hm : m = 0
  · subst hm
    have hn : news = [] := List.eq_nil_of_length_eq_zero (by simpa using hl)
    subst hn
    rw [Nat.add_zero, List.append_nil]
    rcases hown.2 with ⟨hv, h0⟩ | ⟨g, cap, cur, hv, _, hg, hnc, hcm, hcs, htake⟩
    · injection hv with q1 q2 q3
      subst q1 q2 q3
      refine ⟨none, 0, w, ?_, hown, grownBy_refl _ _, .inl ⟨rfl, rfl⟩⟩
      obtain ⟨i, hi, hz, hsize, hby⟩ := info_parts hinfo
      cases B with
      | none => simp [Builtin.append_, run_underlying ht, sizeOf, typeInfo, hi, Builtin.lenOf, Builtin.firstCells, storeCells]
      | some a =>
        have hf := run_firstCells_some (P := P) w i.size 0 a 0 k [] (by simp) (by simp)
        simp [Builtin.append_, run_underlying ht, sizeOf, typeInfo, hi, Builtin.lenOf, hf, storeCells]
    · injection hv with q1 q2 q3
      subst q1 q3
      exact ⟨_, _, w, run_append_none w t ty e ht hinfo g n c cur hg hnc hcs B k, hown, grownBy_refl _ _, .inl ⟨rfl, rfl⟩⟩
  · obtain ⟨b, off, rfl, hc⟩ : ∃ b off, B = some ⟨b, off, none⟩ ∧ ∀ j u, news[j]? = some u → w.cell? ⟨b, off + j, none⟩ = some u := by
      rcases hB with h | h
      · subst h
        have : 0 < m * size := Nat.mul_pos (by omega) hsz
        simp at hl
        omega
      · exact h
    obtain ⟨A', c', w', h1, h2, h3, h4⟩ := run_append_own2 w t ty e ht hinfo hzs hsz A n c xs hown ⟨b, off, none⟩ m k (by omega) news hl (fun j u hu => by rw [Addr.add_lit]; exact hc j u hu) h1 h63 hbytes
    exact ⟨A', c', w', h1, h2, h3, h4.imp (fun h => ⟨h.1, h.2.1⟩) id⟩
end
end Go.Proofs.YtpeckpiidgkgoaaGreatDoor
/- value.Unquote: the contract. -/
namespace Go.Proofs.YtpeckpiidgkgoaaGreatDoor
open Go.RowKit
set_option linter.unusedVariables false
set_option linter.unusedSimpArgs false

/-- What is known in the loop: the row holds bs. -/
structure UQ (w : World) (A : Option Addr) (c : Nat) (bs : List UInt8) (wr : World) : Prop where
  own : wr.ownsRow w.heap.size 5 1 (.slice A bs.length c) bs.length (Lib.byteCells bs)
  bel : Below w.heap.size w wr
theorem UQ.next {w wr w' : World} {A A' : Option Addr} {c c' m : Nat} {bs l : List UInt8} (h : UQ w A c bs wr) (hown : w'.ownsRow w.heap.size 5 1 (.slice A' (bs.length + m) c') (bs.length + m) (Lib.byteCells bs ++ Lib.byteCells l)) (hm : m = l.length) (hg : wr.grownBy w' (Value.slice A bs.length c).ownBlock) : UQ w A' c' (bs ++ l) w' := by
  refine ⟨?_, h.bel.grown hg h.bel.size (ownBlock_ge h.own)⟩
  rw [Lib.byteCells_append, List.length_append, ← hm]
  exact hown
theorem UQ.drew {w wr : World} {A : Option Addr} {c : Nat} {bs : List UInt8} (h : UQ w A c bs wr) (n : Nat) : UQ w A c bs (wr.drewN n) := ⟨h.own, ⟨h.bel.os, h.bel.tape, h.bel.output, h.bel.size, h.bel.block⟩⟩
theorem ofN_map (l : List UInt8) : ofN (l.map UInt8.toNat) = ⟨l.toArray⟩ := by
  unfold ofN
  simp only [List.map_map]
  have : (UInt8.ofNat ∘ UInt8.toNat) = id := by funext c; simp
  rw [this, List.map_id]
/-- What Unquote answers. -/
def unqV (s : ByteArray) : Value := match unq (toN s) with
  | some (b, n) => .tuple #[.string (ofN b), .int .i64 n, .nilIface]
  | none => .tuple #[.string ⟨#[]⟩, .int .i64 0, .iface 43 (.int .i64 2)]
theorem unqV_none {s : ByteArray} (h : unq (toN s) = none) : unqV s = .tuple #[.string ⟨#[]⟩, .int .i64 0, .iface 43 (.int .i64 2)] := by unfold unqV; rw [h]
theorem unqV_some {s : ByteArray} {b : List Nat} {n : Nat} (h : unq (toN s) = some (b, n)) : unqV s = .tuple #[.string (ofN b), .int .i64 n, .nilIface] := by unfold unqV; rw [h]
theorem toN_at {s : ByteArray} {i : Nat} (h : i < s.size) : (toN s)[i]? = some (s[i]'h).toNat := by
  unfold toN
  rw [List.getElem?_map]
  have : s.data.toList[i]? = some (s[i]'h) := by
    rw [List.getElem?_eq_getElem (by simpa using h)]
    simp
    rfl
  rw [this]
  rfl
theorem nib_or' : ∀ a b : Fin 16, bits .or .i64 (wrap64 (((a.val : Nat) : Int) * 16)) ((b.val : Nat) : Int) = ((a.val : Nat) : Int) * 16 + ((b.val : Nat) : Int) := by decide +kernel
theorem nib_or (a b : Int) (h1 : 0 ≤ a) (h2 : a ≤ 15) (h3 : 0 ≤ b) (h4 : b ≤ 15) : bits .or .i64 (wrap64 (a * 16)) b = a * 16 + b := by
  obtain ⟨x, rfl⟩ : ∃ x : Nat, a = (x : Int) := ⟨a.toNat, by omega⟩
  obtain ⟨y, rfl⟩ : ∃ y : Nat, b = (y : Int) := ⟨b.toNat, by omega⟩
  exact nib_or' ⟨x, by omega⟩ ⟨y, by omega⟩
theorem hexIdx' : ∀ x : Fin 256, Lib.indexByte (⟨#[48, 49, 50, 51, 52, 53, 54, 55, 56, 57, 97, 98, 99, 100, 101, 102]⟩ : ByteArray).data.toList ((x.val : Nat) : Int).toNat.toUInt8 = hexD x.val := by decide +kernel
theorem hexIdx (n : Nat) (h : n < 256) : Lib.indexByte (⟨#[48, 49, 50, 51, 52, 53, 54, 55, 56, 57, 97, 98, 99, 100, 101, 102]⟩ : ByteArray).data.toList ((n : Nat) : Int).toNat.toUInt8 = hexD n := hexIdx' ⟨n, h⟩
set_option maxRecDepth 100000 in
set_option maxHeartbeats 2000000 in
theorem unquote_any (s : ByteArray) (hs : s.size ≤ 60000) (w : World) :
    Calls Tryz.prog 44 #[.string s] w fun e w' => e = .returned (unqV s) ∧ Below w.heap.size w w' := by
  have HN := Lib.hid (toN_len s)
  go_enter Tryz.func44, Tryz.ntmps44
  by_cases h0 : s.size = 0
  · have he : s = ⟨#[]⟩ := by
      cases s with
      | mk d => rw [Array.eq_empty_of_size_eq_zero h0]
    subst he
    have HU := Lib.hid (unqV_none (s := ⟨#[]⟩) rfl)
    go_wp2_with fail
    go_ret3
    exact ⟨by rw [HU.out]; rfl, Below.refl _ _⟩
  have h0' : 0 < s.size := by omega
  have hem : s.toList.isEmpty = false := by
    rw [ByteArray.toList_eq]
    cases hd : s.data.toList with
    | nil => exact absurd (by have := congrArg List.length hd; simpa using this) h0
    | cons c l => rfl
  have hat := toN_at h0'
  obtain ⟨n0, hn0⟩ : ∃ n0, (s[0]'h0').toNat = n0 := ⟨_, rfl⟩
  rw [hn0] at hat
  have hcell0 : ∀ h, ((s[0]'h).toNat : Int) = (n0 : Int) := by intro h; rw [hn0]
  by_cases h1 : n0 = 34
  case neg =>
    have h1' : ((n0 : Int) == 34) = false := by simp; omega
    have HU := Lib.hid (unqV_none (s := s) (by
      cases hl : toN s with
      | nil => rfl
      | cons c r => rw [hl] at hat; simp at hat; subst hat; rw [unq, if_neg h1]))
    clear hat
    go_wp2_with fail
    go_ret3
    exact ⟨by rw [HU.out]; rfl, Below.refl _ _⟩
  replace hcell0 : ∀ h, ((s[0]'h).toNat : Int) = 34 := by intro h; rw [hcell0, h1]; rfl
  subst h1
  have HS := Lib.hid (UqAt.start hat)
  have HE := Lib.hid h0'
  clear hat h0 hn0 h0'
  go_wp2_with fail
  clear hem hcell0
  go_loopw [5, 6] (fun v m wr => ∃ (i : Nat) (bs : List UInt8) (A : Option Addr) (c : Nat), m = .int .i64 i ∧ 1 ≤ i ∧ i ≤ s.size ∧ v = .slice A bs.length c ∧ bs.length ≤ i ∧ UqAt (toN s) i (bs.map UInt8.toNat) ∧ UQ w A c bs wr)
    (fun _ m _ => s.size - (intOf m).toNat)
  case atStart => exact ⟨1, [], none, 0, by go_num, by omega, HE.out, rfl, by simp, HS.out, World.ownsRow_nil _ _ _ _, Below.refl _ _⟩
  case round =>
    clear HS HE
    obtain ⟨i, bs, A, cA, rfl, hi1, hi, rfl, hlen, hU, HQ⟩ := hrel
    have hbs := HQ.bel.size
    replace HQ := Lib.hid HQ
    by_cases hlt : i < s.size
    case neg =>
      have hlt1 : ¬ (i : Int) < (s.size : Int) := by omega
      have HU := Lib.hid (unqV_none (hU.none (by rw [HN.out]; omega)))
      clear hU
      go_wp2_with fail
      go_ret3
      exact ⟨by rw [HU.out]; rfl, HQ.out.bel⟩
    have hlt1 : (i : Int) < (s.size : Int) := by omega
    have hat := toN_at hlt
    obtain ⟨c, hc⟩ : ∃ c : UInt8, s[i]'hlt = c := ⟨_, rfl⟩
    rw [hc] at hat
    obtain ⟨n, hn⟩ : ∃ n, n = c.toNat := ⟨_, rfl⟩
    have hn2 : n < 256 := by rw [hn]; exact c.toNat_lt
    have hcell : ∀ h, ((s[i]'h).toNat : Int) = (n : Int) := by intro h; rw [hc, hn]
    rw [← hn] at hat
    clear hc
    by_cases g1 : n = 34
    · have HU := Lib.hid (unqV_some (hU.quote (by rw [hat, g1])))
      replace hcell : ∀ h, ((s[i]'h).toNat : Int) = 34 := by intro h; rw [hcell, g1]; rfl
      have hconv := conv_row (P := Tryz.prog) HQ.out.own Tryz.underlying99 Tryz.underlying5 Tryz.underlying9
      clear hat hU hn hn2 g1
      go_wp2_with fail
      go_ret3
      exact ⟨by rw [HU.out, ofN_map]; rfl, HQ.out.bel⟩
    have e1 : (((n : Nat) : Int) == 34) = false := by simp; omega
    by_cases g2 : n < 32
    · have HU := Lib.hid (unqV_none (hU.bad hat g1 (.inl g2)))
      have e3 : ((n : Nat) : Int) < 32 := by omega
      clear hat hU hn g1
      go_wp2_with fail
      go_ret3
      exact ⟨by rw [HU.out]; rfl, HQ.out.bel⟩
    have e3 : ¬ ((n : Nat) : Int) < 32 := by omega
    by_cases g3 : 126 < n
    · have HU := Lib.hid (unqV_none (hU.bad hat g1 (.inr g3)))
      have e4 : (126 : Int) < ((n : Nat) : Int) := by omega
      clear hat hU hn g1 g2
      go_wp2_with fail
      go_ret3
      exact ⟨by rw [HU.out]; rfl, HQ.out.bel⟩
    have e4 : ¬ (126 : Int) < ((n : Nat) : Int) := by omega
    by_cases g4 : n = 92
    case neg =>
      have e5 : (((n : Nat) : Int) == 92) = false := by simp; omega
      have HU := Lib.hid (hU.plain hat g1 (by omega) g4)
      have HC := Lib.hid hn
      clear hat hU hn g1 g2 g3 g4
      go_wp2_with (at_builtin; refine wpList_pushN _ rfl (.tmp 47) (.tmp 49) _ rfl w.heap.size 5 Tryz.underlying99 infoB rfl (by decide) (by decide) _ _ (Lib.byteCells bs) rfl HQ.out.own 1 (by omega) _ rfl rfl ?_ (by omega) hbs ?_)
      · first | rfl | exact ⟨rfl, rfl⟩ | exact ⟨rfl, rfl, rfl⟩
      intro A2 c2 w2 hown2 hg2
      rw [HC.out] at hown2
      have HN2 := Lib.hid (HQ.out.next (l := [c]) hown2 rfl hg2)
      refine wpList_at (UQ w A2 c2 (bs ++ [c])) HN2.out ?_
      clear hown2 hg2 HN2 HQ
      intro w3 HN2
      replace HN2 := Lib.hid HN2
      go_wp2_with fail
      go_roundw
      case rel => exact ⟨i + 1, bs ++ [c], A2, c2, by go_num, by omega, by omega, by simp, by simp; omega, by have := HU.out; rw [HC.out] at this; simpa using this, HN2.out⟩
      case measure => simp [intOf]; omega
    replace hcell : ∀ h, ((s[i]'h).toNat : Int) = 92 := by intro h; rw [hcell, g4]; rfl
    rw [g4] at hat
    clear hn hn2 g1 e1 g2 e3 g3 e4 g4
    have hqs : (s.extract (i + 1) s.size).size = s.size - (i + 1) := by simp
    by_cases k1 : s.size = i + 1
    · have hem : (s.extract (i + 1) s.size).toList.isEmpty = true := by
        rw [ByteArray.toList_eq]
        have : (s.extract (i + 1) s.size).data.toList.length = 0 := by
          have h := hqs
          have e : (s.extract (i + 1) s.size).size = (s.extract (i + 1) s.size).data.toList.length := rfl
          omega
        rw [List.eq_nil_of_length_eq_zero this]; rfl
      have HU := Lib.hid (unqV_none (hU.end1 hat (by rw [HN.out]; omega)))
      have k2 : ((s.size - (i + 1) : Nat) : Int) < 2 := by omega
      clear hU hat k1
      go_wp2_with fail
      go_ret3
      exact ⟨by rw [HU.out]; rfl, HQ.out.bel⟩
    have hlt2 : i + 1 < s.size := by omega
    have hem : (s.extract (i + 1) s.size).toList.isEmpty = false := by
      rw [ByteArray.toList_eq]
      cases hd : (s.extract (i + 1) s.size).data.toList with
      | nil =>
        have e : (s.extract (i + 1) s.size).size = (s.extract (i + 1) s.size).data.toList.length := rfl
        rw [hd] at e
        simp at e
        omega
      | cons c l => rfl
    have hatd := toN_at hlt2
    obtain ⟨dd, hdd⟩ : ∃ dd : UInt8, s[i + 1]'hlt2 = dd := ⟨_, rfl⟩
    rw [hdd] at hatd
    obtain ⟨d, hd⟩ : ∃ d, d = dd.toNat := ⟨_, rfl⟩
    have hd2 : d < 256 := by rw [hd]; exact dd.toNat_lt
    have hcd : ∀ h, (((s.extract (i + 1) s.size)[0]'h).toNat : Int) = (d : Int) := by intro h; rw [ByteArray.getElem_extract]; simp only [Nat.add_zero]; rw [hdd, hd]
    have hcd1 : ∀ h, ((s[i + 1]'h).toNat : Int) = (d : Int) := by intro h; rw [hdd, hd]
    have hcd2 : ∀ h, ((s[i + 1 + 0]'h).toNat : Int) = (d : Int) := by intro h; exact hcd1 h
    rw [← hd] at hatd
    clear hdd
    have hq0 : 0 < s.size - (i + 1) := by omega
    by_cases k2 : d = 34 ∨ d = 92
    · have HU := Lib.hid (hU.esc hat hatd k2)
      have HD := Lib.hid hd
      have k3 : (d : Int) = 34 ∨ (d : Int) = 92 := by omega
      clear hU hat hatd hd k1 k2
      rcases k3 with k3 | k3
      all_goals
        rw [k3] at hcd hcd1 hcd2
        go_wp2_with (at_builtin; refine wpList_pushN _ rfl (.tmp 67) (.tmp 70) _ rfl w.heap.size 5 Tryz.underlying99 infoB rfl (by decide) (by decide) _ _ (Lib.byteCells bs) rfl HQ.out.own 1 (by omega) _ rfl rfl ?_ (by omega) hbs ?_)
        · first | rfl | exact ⟨rfl, rfl⟩ | exact ⟨rfl, rfl, rfl⟩
        intro A2 c2 w2 hown2 hg2
        rw [← k3, HD.out] at hown2
        have HN2 := Lib.hid (HQ.out.next (l := [dd]) hown2 rfl hg2)
        refine wpList_at (UQ w A2 c2 (bs ++ [dd])) HN2.out ?_
        clear hown2 hg2 HN2 HQ
        intro w3 HN2
        replace HN2 := Lib.hid HN2
        go_wp2_with fail
        go_roundw
        case rel => exact ⟨i + 2, bs ++ [dd], A2, c2, by go_num, by omega, by omega, by simp, by simp; omega, by have := HU.out; rw [HD.out] at this; simpa using this, HN2.out⟩
        case measure => simp [intOf]; omega
    have k3 : ((d : Int) == 34) = false := by simp; omega
    have k4 : ((d : Int) == 92) = false := by simp; omega
    have k3n : ¬ (d : Int) = 34 := by omega
    have k4n : ¬ (d : Int) = 92 := by omega
    have k3d : decide ((d : Int) = 34) = false := by simp; omega
    have k4d : decide ((d : Int) = 92) = false := by simp; omega
    have k34 : (decide ((d : Int) = 34) || decide ((d : Int) = 92)) = false := by simp; omega
    have k34b : (((d : Int) == 34) || ((d : Int) == 92)) = false := by simp; omega
    by_cases k5 : s.size = i + 2
    · have HU := Lib.hid (unqV_none (hU.end2 hat hatd k2 (by rw [HN.out]; omega)))
      have k6 : ((s.size - (i + 1) : Nat) : Int) < 2 := by omega
      clear hU hat k1 k2 k5 hatd hd
      go_wp2_with fail
      go_ret3
      exact ⟨by rw [HU.out]; rfl, HQ.out.bel⟩
    have hlt3 : i + 2 < s.size := by omega
    have hate := toN_at hlt3
    obtain ⟨ee, hee⟩ : ∃ ee : UInt8, s[i + 2]'hlt3 = ee := ⟨_, rfl⟩
    rw [hee] at hate
    obtain ⟨e, he⟩ : ∃ e, e = ee.toNat := ⟨_, rfl⟩
    have he2 : e < 256 := by rw [he]; exact ee.toNat_lt
    have hce : ∀ h, (((s.extract (i + 1) s.size)[1]'h).toNat : Int) = (e : Int) := by intro h; rw [ByteArray.getElem_extract, he, ← hee]
    have hce1 : ∀ h, ((s[i + 2]'h).toNat : Int) = (e : Int) := by intro h; rw [hee, he]
    have hce2 : ∀ h, ((s[i + 1 + 1]'h).toNat : Int) = (e : Int) := by intro h; exact hce1 h
    rw [← he] at hate
    clear hee
    have k6 : ¬ ((s.size - (i + 1) : Nat) : Int) < 2 := by omega
    have hq1 : 1 < s.size - (i + 1) := by omega
    have hq1i : (1 : Int) < ((s.size - (i + 1) : Nat) : Int) := by omega
    have hq1e : 1 < (s.extract (i + 1) s.size).size := by omega
    have hx1 : ∀ w, (Instr.index 9 (.string (s.extract (i + 1) s.size)) (.int .i64 1)).run Tryz.prog w = .ok (.int .u8 e) w := by
      intro w
      rw [run_index_string _ _ _ _ _ Tryz.underlying9, dif_pos ⟨by omega, by omega⟩]
      have := hce hq1e
      rw [← this]
      rfl
    have hId : Lib.indexByte [48, 49, 50, 51, 52, 53, 54, 55, 56, 57, 97, 98, 99, 100, 101, 102] (UInt8.ofNat d) = hexD d := hexIdx d hd2
    have hIe : Lib.indexByte [48, 49, 50, 51, 52, 53, 54, 55, 56, 57, 97, 98, 99, 100, 101, 102] (UInt8.ofNat e) = hexD e := hexIdx e he2
    have hbd := hexD_le d
    have hbe := hexD_le e
    obtain ⟨hi_, hhi⟩ : ∃ x, x = hexD d := ⟨_, rfl⟩
    obtain ⟨lo_, hlo⟩ : ∃ x, x = hexD e := ⟨_, rfl⟩
    rw [← hhi] at hId hbd
    rw [← hlo] at hIe hbe
    have HH := Lib.hid (And.intro hhi hlo)
    have HU := Lib.hid (And.intro hU (And.intro hat (And.intro hatd (And.intro hate k2))))
    obtain ⟨x0, hx0⟩ : ∃ x0, bits .or .i64 (wrap64 (hi_ * 16)) lo_ = x0 := ⟨_, rfl⟩
    clear hhi hlo hU hat hatd hate k1 k2 k5 hd he
    by_cases m1 : hi_ < 0
    · have HV := Lib.hid (unqV_none (HU.out.1.hexBad HU.out.2.1 HU.out.2.2.1 HU.out.2.2.2.1 HU.out.2.2.2.2 (by unfold hexBad; rw [← HH.out.1, decide_eq_true m1]; rfl)))
      clear hbd hbe
      go_wp2_with fail
      go_quiet (first | (go_at_call 62; refine Calls.quiet_of_same (Tryz.strings_IndexByte _ _ _)))
      go_wp2_with fail
      go_ret3
      exact ⟨by rw [HV.out]; rfl, (HQ.out.drew _).bel⟩
    by_cases m2 : lo_ < 0
    · have HV := Lib.hid (unqV_none (HU.out.1.hexBad HU.out.2.1 HU.out.2.2.1 HU.out.2.2.2.1 HU.out.2.2.2.2 (by unfold hexBad; rw [← HH.out.2, decide_eq_true m2]; simp)))
      clear hbd hbe
      go_wp2_with fail
      go_quiet (first | (go_at_call 62; refine Calls.quiet_of_same (Tryz.strings_IndexByte _ _ _)))
      go_wp2_with fail
      go_ret3
      exact ⟨by rw [HV.out]; rfl, (HQ.out.drew _).bel⟩
    have hxv := nib_or hi_ lo_ (by omega) (by omega) (by omega) (by omega)
    rw [hx0] at hxv
    by_cases m3 : 32 ≤ x0 ∧ x0 ≤ 126
    · have HV := Lib.hid (unqV_none (HU.out.1.hexBad HU.out.2.1 HU.out.2.2.1 HU.out.2.2.2.1 HU.out.2.2.2.2 (by unfold hexBad; rw [← HH.out.1, ← HH.out.2, ← hxv, decide_eq_true m3.1, decide_eq_true m3.2]; simp)))
      obtain ⟨m4, m5⟩ := m3
      clear hbd hbe hxv
      go_wp2_with fail
      go_quiet (first | (go_at_call 62; refine Calls.quiet_of_same (Tryz.strings_IndexByte _ _ _)))
      go_wp2_with fail
      go_ret3
      exact ⟨by rw [HV.out]; rfl, (HQ.out.drew _).bel⟩
    have HV := Lib.hid (HU.out.1.hex HU.out.2.1 HU.out.2.2.1 HU.out.2.2.2.1 HU.out.2.2.2.2 (by
      unfold hexBad
      rw [← HH.out.1, ← HH.out.2, ← hxv]
      simp only [Bool.or_eq_false_iff, Bool.and_eq_false_iff, decide_eq_false_iff_not]
      exact ⟨m1, m2, by omega⟩))
    rw [← HH.out.1, ← HH.out.2, ← hxv] at HV
    obtain ⟨m, hm⟩ : ∃ m : Nat, x0 = (m : Int) := ⟨x0.toNat, by omega⟩
    have hm2 : m < 256 := by omega
    subst hm
    rw [Int.toNat_natCast] at HV
    have hmod : (m : Int) % 256 = m := by omega
    have hwm : IntKind.u8.wrap (m : Int) = m := by
      have : IntKind.u8.wrap (m : Int) = (m : Int) % 256 := rfl
      omega
    have hmb : (UInt8.ofNat m).toNat = m := by rw [UInt8.toNat_ofNat']; omega
    have HMB := Lib.hid hmb
    clear hbd hbe hxv hmb
    rcases (show (m : Int) < 32 ∨ (126 : Int) < m by omega) with m4 | m4
    all_goals
      clear m3
      have m5 : ¬ (32 : Int) ≤ m ∨ ¬ (m : Int) ≤ 126 := by omega
      go_wp2_with fail
      go_quiet (first | (go_at_call 62; refine Calls.quiet_of_same (Tryz.strings_IndexByte _ _ _)))
      have hbs2 : w.heap.size ≤ (wr.drewN nq).heap.size := hbs
      have HQ2 : UQ w A cA bs (wr.drewN nq) := HQ.out.drew nq
      go_wp2_with (at_builtin; refine wpList_pushN _ rfl (.tmp 103) (.tmp 106) _ rfl w.heap.size 5 Tryz.underlying99 infoB rfl (by decide) (by decide) _ _ (Lib.byteCells bs) rfl HQ2.own 1 (by omega) _ rfl rfl ?_ (by omega) hbs2 ?_)
      · first | rfl | exact ⟨rfl, rfl⟩ | exact ⟨rfl, rfl, rfl⟩
      intro A2 c2 w2 hown2 hg2
      have HN2 := Lib.hid (HQ2.next (l := [UInt8.ofNat m]) (by rw [show Lib.byteCells [UInt8.ofNat m] = [.int .u8 m] from by simp only [Lib.byteCells, List.map_cons, List.map_nil]; rw [HMB.out]]; exact hown2) rfl hg2)
      refine wpList_at (UQ w A2 c2 (bs ++ [UInt8.ofNat m])) HN2.out ?_
      clear hown2 hg2 HN2 HQ HQ2
      intro w3 HN2
      replace HN2 := Lib.hid HN2
      go_wp2_with fail
      go_roundw
      case rel => exact ⟨i + 3, bs ++ [UInt8.ofNat m], A2, c2, by go_num, by omega, by omega, by simp, by simp; omega, by have := HV.out; rw [← HMB.out] at this; simpa using this, HN2.out⟩
      case measure => simp [intOf]; omega
end Go.Proofs.YtpeckpiidgkgoaaGreatDoor
