/- BuildW, Quote. -/
import Derived.Test.YtpeckpiidgkgoaaGreatDoorPg10
import Derived.Lib.AppendStr
import Derived.Test.YtpeckpiidgkgoaaGreatDoorPg8
import Derived.Deep.RegionHeld3
import Derived.Deep.RegionWith
import Derived.Deep.RegionLaw
/- strings.Builder, made by the call itself: WriteByte, Write, WriteString, String: the contracts. -/
namespace Go.Proofs.YtpeckpiidgkgoaaGreatDoor
open Go.RowKit
set_option linter.unusedVariables false
set_option linter.unusedSimpArgs false

theorem owns_only {w w' : World} {e : TypeId} {A : Option Addr} {n c : Nat} {xs : List Value} {S : Nat → Prop} (h : w.ownsRow 0 e 1 (.slice A n c) n xs) (ho : Only S w w') (hn : ∀ a, A = some a → ¬ S a.block) : w'.ownsRow 0 e 1 (.slice A n c) n xs := by
  refine ⟨h.1, h.2.imp id ?_⟩
  rintro ⟨g, cap, cur, h1, h2, h3, h4⟩
  refine ⟨g, cap, cur, h1, h2, ?_, h4⟩
  injection h1 with hA _ _
  rw [ho.block g (Array.getElem?_eq_some_iff.1 h3).1 (hn _ hA)]
  exact h3

theorem bu_put {S : Nat → Prop} {b n m : Nat} {bs l : List UInt8} {A A' : Option Addr} {c c' : Nat} {w w1 w2 w' : World} (h0 : S b)
    (hB : Blk w1 b 108 #[.pointer (some ⟨b, 0, none⟩), .slice A n c]) (h4 : ∀ a, A = some a → S a.block ∧ a.block ≠ b) (ho : Only S w w1) (hS : ∀ k, w.heap.size ≤ k → S k)
    (hb : Below w1.heap.size w1 w2) (r2 : w'.ownsRow 0 5 1 (.slice A' m c') m (Lib.byteCells (bs ++ l))) (hm : m = (bs ++ l).length) (r3 : w2.grownBy w' (Value.slice A n c).ownBlock) (r4 : (A' = A ∧ c' = c) ∨ A' = some ⟨w2.heap.size, 0, none⟩) :
    Blk w' b 108 #[.pointer (some ⟨b, 0, none⟩), .slice A n c] ∧ Bu S b (bs ++ l) (w'.setCell ⟨b, 1, none⟩ (.slice A' m c')) ∧ Only S w (w'.setCell ⟨b, 1, none⟩ (.slice A' m c')) := by
  have hB2 := hB.below hb hB.lt
  have hne : some b ≠ (Value.slice A n c).ownBlock := by
    cases A with
    | none => simp [Value.ownBlock]
    | some a => simpa [Value.ownBlock] using fun e => (h4 a rfl).2 e.symm
  have hB3 : Blk w' b 108 #[.pointer (some ⟨b, 0, none⟩), .slice A n c] := by
    unfold Blk
    rw [r3.block b hB2.lt hne]
    exact hB2
  have hA' : ∀ a, A' = some a → S a.block ∧ a.block ≠ b := by
    intro a ha
    rcases r4 with ⟨e1, _⟩ | e1
    · exact h4 a (by rw [← e1]; exact ha)
    · rw [e1] at ha
      injection ha with ha
      subst ha
      have h1 := hb.size
      have h2 := ho.size
      have h3 := hB2.lt
      exact ⟨hS _ (by show w.heap.size ≤ w2.heap.size; omega), by show w2.heap.size ≠ b; omega⟩
  have ho2 : Only S w w' := by
    refine ho.trans ((Only.of_below hb).trans ⟨r3.os, r3.tape, r3.output, r3.size, fun k hk hn => r3.block k hk ?_⟩)
    intro e
    cases A with
    | none => simp [Value.ownBlock] at e
    | some a =>
      simp only [Value.ownBlock, Option.some.injEq] at e
      exact hn (by rw [e]; exact (h4 a rfl).1)
  have hset := hB3.set_ 1 (.slice A' m c')
  have ho3 := (Only.refl (fun k => k = b) w').setCell (p := ⟨b, 1, none⟩) rfl (.slice A' m c')
  refine ⟨hB3, ⟨h0, _, A', c', .inr rfl, ?_, ?_, hA'⟩, ho2.setCell (p := ⟨b, 1, none⟩) h0 _⟩
  · rw [← hm]; simpa using hset
  · rw [← hm]; exact owns_only r2 ho3 (fun a ha => (hA' a ha).2)

set_option maxRecDepth 100000 in
set_option maxHeartbeats 1000000 in
theorem bu_byte (S : Nat → Prop) (b : Nat) (bs : List UInt8) (x : UInt8) (w : World) (h : Bu S b bs w) (hS : ∀ k, w.heap.size ≤ k → S k) (hl : bs.length ≤ 1000000000) :
    Calls Tryz.prog 59 #[.pointer (some ⟨b, 0, none⟩), .int .u8 x.toNat] w fun e w' => e = .returned .nilIface ∧ Bu S b (bs ++ [x]) w' ∧ Only S w w' := by
  obtain ⟨h0, p, A, c, h1, h2, h3, h4⟩ := h
  go_enter Tryz.func59, Tryz.ntmps59
  go_wp2_with (go_at_call 76; refine (copy_check b p _ _ h1 h2).mono ?_)
  rintro e w1 ⟨rfl, hb1, ho1⟩
  have h31 := owns_only h3 ho1 (fun a ha => (h4 a ha).2)
  have ho : Only S w w1 := ho1.mono (fun k _ hk => by rw [hk]; exact h0)
  have c1 : w1.cell? ⟨b, 1, none⟩ = some (.slice A bs.length c) := hb1.cell 1
  have hbel := (Below.refl w1.heap.size w1).alloc (Nat.le_refl _) (.cells #[.int .u8 x.toNat] 5 (0, 0))
  have hnew : SlAt (w1.alloc (.cells #[.int .u8 x.toNat] 5 (0, 0))) (some ⟨w1.heap.size, 0, none⟩) [.int .u8 x.toNat] :=
    .inr ⟨_, 0, rfl, fun j u hu => by rw [Nat.zero_add, (Blk.new w1 5 #[.int .u8 x.toNat]).cell]; simpa using hu⟩
  obtain ⟨A', c', w', r1, r2, r3, r4⟩ := run_append_sl (P := Tryz.prog) (w1.alloc (.cells #[.int .u8 x.toNat] 5 (0, 0))) 99 99 5 Tryz.underlying99 infoB rfl (by decide) A bs.length c (Lib.byteCells bs) (h31.alloc _) (some ⟨w1.heap.size, 0, none⟩) 1 1 [.int .u8 x.toNat] rfl hnew (bytes_one [x]) (by simp only [maxLen]; omega) (by omega)
  obtain ⟨f1, f2, f3⟩ := bu_put (l := [x]) h0 hb1 h4 ho hS hbel (by rw [Lib.byteCells_append]; exact r2) (by simp) r3 r4
  have d1 := f1.cell 1
  have e1 := f1.frozen 1
  have HF := Lib.hid (And.intro f2 f3)
  clear f1 f2 f3 r2 r3 r4 hnew hbel h31 ho ho1 hb1 h2 h3 h4 hS
  go_wp2_with (at_builtin; refine wpList_append_run rfl _ _ _ _ rfl rfl rfl r1 ?_)
  go_wp2_with fail
  go_ret
  exact ⟨rfl, HF.out.1, HF.out.2⟩

set_option maxRecDepth 100000 in
set_option maxHeartbeats 1000000 in
theorem bu_bytes (S : Nat → Prop) (b : Nat) (bs l : List UInt8) (Al : Option Addr) (cl : Nat) (w : World) (h : Bu S b bs w) (hS : ∀ k, w.heap.size ≤ k → S k) (hl : bs.length + l.length ≤ 1000000000)
    (hAl : SlAt w Al (Lib.byteCells l)) (hnb : ∀ a, Al = some a → a.block ≠ b) :
    Calls Tryz.prog 60 #[.pointer (some ⟨b, 0, none⟩), .slice Al l.length cl] w fun e w' => e = .returned (.tuple #[.int .i64 l.length, .nilIface]) ∧ Bu S b (bs ++ l) w' ∧ Only S w w' := by
  obtain ⟨h0, p, A, c, h1, h2, h3, h4⟩ := h
  go_enter Tryz.func60, Tryz.ntmps60
  go_wp2_with (go_at_call 76; refine (copy_check b p _ _ h1 h2).mono ?_)
  rintro e w1 ⟨rfl, hb1, ho1⟩
  have h31 := owns_only h3 ho1 (fun a ha => (h4 a ha).2)
  have ho : Only S w w1 := ho1.mono (fun k _ hk => by rw [hk]; exact h0)
  have c1 : w1.cell? ⟨b, 1, none⟩ = some (.slice A bs.length c) := hb1.cell 1
  have hAl1 := hAl.only ho1 (fun q off s e => hnb _ e)
  obtain ⟨A', c', w', r1, r2, r3, r4⟩ := run_append_sl (P := Tryz.prog) w1 99 99 5 Tryz.underlying99 infoB rfl (by decide) A bs.length c (Lib.byteCells bs) h31 Al l.length cl (Lib.byteCells l) (by rw [Lib.byteCells_length]; omega) hAl1 (bytes_one l) (by simp only [maxLen]; omega) (by omega)
  obtain ⟨f1, f2, f3⟩ := bu_put (l := l) h0 hb1 h4 ho hS (Below.refl _ _) (by rw [Lib.byteCells_append]; exact r2) (by simp) r3 r4
  have d1 := f1.cell 1
  have e1 := f1.frozen 1
  have HF := Lib.hid (And.intro f2 f3)
  clear f1 f2 f3 r2 r3 r4 hAl1 h31 ho ho1 hb1 h2 h3 h4 hS hAl hnb
  go_wp2_with (at_builtin; refine wpList_append_run rfl _ _ _ _ rfl rfl rfl r1 ?_)
  go_wp2_with fail
  go_ret2
  exact ⟨rfl, HF.out.1, HF.out.2⟩
end Go.Proofs.YtpeckpiidgkgoaaGreatDoor
/- value.Quote: the text between quotes: the contract. -/
namespace Go.Proofs.YtpeckpiidgkgoaaGreatDoor
open Go.RowKit
set_option linter.unusedVariables false
set_option linter.unusedSimpArgs false

theorem row_prefix (s : ByteArray) (n : Nat) (j : Nat) (u : Value) (h : (Lib.byteCells s.data.toList)[j]? = some u) : (bytesRow s n)[j]? = some u := by
  have hj : j < s.data.size := by
    have := (List.getElem?_eq_some_iff.1 h).1
    simpa [Lib.byteCells] using this
  rw [bytesRow_at s n j hj, ← h]
  simp [Lib.byteCells, Array.getElem?_eq_getElem hj]
theorem oper_convert {P : Program} {o : Oper} {a : Act} {w : World} {K : Act → World → Prop} {Q : Exit → Act → World → Prop} {src dst : TypeId} {x : Operand} {d : Tmp} (hd : o.dst = some d) (hop : o.op = .convert src dst x) (y : Value) (hx : a.eval x = y) {v : Value} {w' : World}
    (hrun : (convert src dst y).run P w = .ok v w') (F : World → Prop) (hF : F w') (hK : ∀ w1, F w1 → K (a.put (some d) v) w1) : Oper.wp P o a w K Q := by
  unfold Oper.wp
  simp [execOp, hop, hx, hrun, Result.andThen]
  have := hK _ hF
  rw [← hd] at this
  exact this

/-- What is known in the loop: the bytes of L stand in block R, the builder holds bs. -/
structure QRel (w : World) (R : Nat) (L bs : List UInt8) (wr : World) : Prop where
  bu : Bu (fun k => w.heap.size ≤ k ∧ k ≠ R) w.heap.size bs wr
  bel : Below w.heap.size w wr
  lt : R < wr.heap.size
  ne : R ≠ w.heap.size
  cells : ∀ j (x : UInt8), L[j]? = some x → wr.cell? ⟨R, j, none⟩ = some (.int .u8 x.toNat)
theorem QRel.next {w wr w' : World} {R : Nat} {L bs bs' : List UInt8} (h : QRel w R L bs wr) (hb : Bu (fun k => w.heap.size ≤ k ∧ k ≠ R) w.heap.size bs' w') (ho : Only (fun k => w.heap.size ≤ k ∧ k ≠ R) wr w') : QRel w R L bs' w' := by
  have hs := h.bel.size
  refine ⟨hb, h.bel.trans (ho.below hs (fun k hk hn => by omega)), Nat.lt_of_lt_of_le h.lt ho.size, h.ne, fun j x hx => ?_⟩
  rw [World.cell?_of_block (ho.block R h.lt (by simp))]
  exact h.cells j x hx
theorem QRel.below {w wr w' : World} {R : Nat} {L bs : List UInt8} (h : QRel w R L bs wr) (hb : Below wr.heap.size wr w') : QRel w R L bs w' := h.next (h.bu.below hb) (Only.of_below hb)
theorem QRel.byte {w wr : World} {R : Nat} {L bs : List UInt8} (h : QRel w R L bs wr) (x : UInt8) (hl : bs.length ≤ 100000000) :
    Calls Tryz.prog 59 #[.pointer (some ⟨w.heap.size, 0, none⟩), .int .u8 x.toNat] wr fun e w' => e = .returned .nilIface ∧ QRel w R L (bs ++ [x]) w' :=
  (bu_byte (fun k => w.heap.size ≤ k ∧ k ≠ R) w.heap.size bs x wr h.bu (fun k hk => by have := h.bel.size; have := h.lt; omega) (by omega)).mono (by
    rintro e w' ⟨rfl, hb, ho⟩
    exact ⟨rfl, h.next hb ho⟩)
theorem QRel.bytes {w wr : World} {R : Nat} {L bs : List UInt8} (h : QRel w R L bs wr) (l : List UInt8) (g cl : Nat) (hg : w.heap.size < g) (hr : SlAt wr (some ⟨g, 0, none⟩) (Lib.byteCells l)) (hl : bs.length + l.length ≤ 100000000) :
    Calls Tryz.prog 60 #[.pointer (some ⟨w.heap.size, 0, none⟩), .slice (some ⟨g, 0, none⟩) l.length cl] wr fun e w' => e = .returned (.tuple #[.int .i64 l.length, .nilIface]) ∧ QRel w R L (bs ++ l) w' :=
  (bu_bytes (fun k => w.heap.size ≤ k ∧ k ≠ R) w.heap.size bs l _ cl wr h.bu (fun k hk => by have := h.bel.size; have := h.lt; omega) (by omega) hr (fun a ha => by injection ha with ha; subst ha; show g ≠ w.heap.size; omega)).mono (by
    rintro e w' ⟨rfl, hb, ho⟩
    exact ⟨rfl, h.next hb ho⟩)

theorem and15' : ∀ x : Fin 256, bits .and .u8 ((x.val : Nat) : Int) 15 = ((x.val % 16 : Nat) : Int) := by decide +kernel
theorem and15 (n : Nat) (h : n < 256) : bits .and .u8 ((n : Nat) : Int) 15 = (n : Int) % 16 := by
  have := and15' ⟨n, h⟩
  simp only at this
  omega
theorem hex_at (n : Nat) (h16 : n < 16) (k : Nat) (hk : k = n) : ∀ h, ((⟨#[48, 49, 50, 51, 52, 53, 54, 55, 56, 57, 97, 98, 99, 100, 101, 102]⟩ : ByteArray)[k]'h) = hexU n := by
  subst hk
  intro h
  have : ∀ i : Fin 16, ((⟨#[48, 49, 50, 51, 52, 53, 54, 55, 56, 57, 97, 98, 99, 100, 101, 102]⟩ : ByteArray)[i.val]'i.isLt) = hexU i.val := by decide
  exact this ⟨k, h16⟩

set_option maxRecDepth 100000 in
set_option maxHeartbeats 1000000 in
theorem quote_any (s : ByteArray) (hs : s.size ≤ 1000000) (w : World) :
    Calls Tryz.prog 40 #[.string s] w fun e w' => e = .returned (.string ⟨(quoteL s.data.toList).toArray⟩) ∧ Below w.heap.size w w' := by
  have HZ := Lib.hid (show s.size = s.data.toList.length from rfl)
  go_enter Tryz.func40, Tryz.ntmps40
  go_wp2_with (go_at_call 59; refine (bu_byte (fun k => w.heap.size ≤ k) w.heap.size [] 34 _ (Bu.fresh w (Nat.le_refl _)) (by intro k hk; simp at hk; omega) (by simp)).mono ?_)
  rintro e w1 ⟨rfl, hb1, ho1⟩
  have hcv := fun w => run_bytes_of_string (P := Tryz.prog) w 9 99 5 s Tryz.underlying9 Tryz.underlying99 Tryz.underlying5
  have hlt1 := hb1.lt
  have hbel1 : Below w.heap.size w w1 := ((Below.refl _ w).alloc (Nat.le_refl _) _).trans (ho1.below (by simp) (fun k hk hn => by omega))
  have hR : QRel w w1.heap.size s.data.toList [34] (w1.drew.alloc (.cells (bytesRow s (grownCap w1 s.size 0 5)) 5 ((bytesRow s (grownCap w1 s.size 0 5)).size, (bytesRow s (grownCap w1 s.size 0 5)).size + 1))) := by
    have hcell : ∀ j u, (Lib.byteCells s.data.toList)[j]? = some u → (w1.drew.alloc (.cells (bytesRow s (grownCap w1 s.size 0 5)) 5 ((bytesRow s (grownCap w1 s.size 0 5)).size, (bytesRow s (grownCap w1 s.size 0 5)).size + 1))).cell? ⟨w1.heap.size, j, none⟩ = some u := by
      intro j u hu
      rw [cell_of_row _ w1.heap.size j _ _ _ (heap_alloc_new w1.drew _)]
      exact row_prefix s _ j u hu
    have hb2 : Bu (fun k => w.heap.size ≤ k ∧ k ≠ w1.heap.size) w.heap.size [34] w1 := hb1.mono (fun k hk hS => ⟨hS, by omega⟩)
    refine ⟨hb2.below (((Below.refl w1.heap.size w1).drew).alloc (Nat.le_refl _) _), (hbel1.drew).alloc (by have := hbel1.size; exact this) _, by simp, by omega, fun j x hx => hcell j _ (by simp [Lib.byteCells, hx])⟩
  have HR := Lib.hid hR
  clear hR hb1 ho1 hbel1
  go_wp2_with fail
  obtain ⟨cap, hcap⟩ : ∃ cap, cap = grownCap w1 s.size 0 5 := ⟨_, rfl⟩
  obtain ⟨R, hRR⟩ : ∃ R, R = w1.heap.size := ⟨_, rfl⟩
  rw [← hcap, ← hRR] at HR
  rw [← hcap, ← hRR]
  refine wp_at (QRel w R s.data.toList [34]) HR.out ?_
  clear hcv HR hcap hlt1 hRR
  intro w2 H2
  replace H2 := Lib.hid H2
  go_loopw [10] (fun m wr => ∃ i : Nat, m = .int .i64 i ∧ i ≤ s.size ∧ QRel w R s.data.toList (quoteTo s.data.toList i) wr) (fun m _ => s.size - (intOf m).toNat)
  case atStart => exact ⟨0, by go_num, by omega, H2.out⟩
  case round =>
    clear H2
    obtain ⟨i, rfl, hi, HQ⟩ := hrel
    have hlen := quoteTo_len s.data.toList i
    rw [← HZ.out] at hlen
    have HW := HQ.bel.size
    by_cases hlt : i < s.size
    · have hlt1 : (i : Int) < (s.size : Int) := by omega
      obtain ⟨c, hc⟩ : ∃ c : UInt8, s.data.toList[i]? = some c := ⟨_, List.getElem?_eq_getElem (by rw [← HZ.out]; exact hlt)⟩
      have hstep := quoteTo_step hc
      have hcell := HQ.cells i c hc
      have HQ := Lib.hid HQ
      have HI := Lib.hid (And.intro hc hstep); clear hc hstep
      obtain ⟨bs, hbs⟩ : ∃ bs, bs = quoteTo s.data.toList i := ⟨_, rfl⟩
      rw [← hbs] at HQ hlen
      obtain ⟨n, hn⟩ : ∃ n, n = c.toNat := ⟨_, rfl⟩
      rw [← hn] at hcell
      have hn2 : n < 256 := by rw [hn]; exact c.toNat_lt
      have HC := HQ.out.byte c (by omega)
      rw [← hn] at HC
      replace HC := Lib.hid HC
      by_cases g1 : n = 34
      · have hc34 : c = 34 := UInt8.toNat_inj.1 (by rw [← hn]; exact g1)
        subst hc34
        replace hcell : wr.cell? ⟨R, i, none⟩ = some (.int .u8 34) := by rw [hcell, g1]; rfl
        have HJ := Lib.hid (show quoteTo s.data.toList (i + 1) = (bs ++ [92]) ++ [34] from by rw [HI.out.2, hbs]; simp [quoteB])
        have HC1 := Lib.hid (show Calls Tryz.prog 59 #[.pointer (some ⟨w.heap.size, 0, none⟩), .int .u8 92] wr fun e w' => e = .returned .nilIface ∧ QRel w R s.data.toList (bs ++ [92]) w' from HQ.out.byte 92 (by omega))
        have HC2 := Lib.hid (fun W (h : QRel w R s.data.toList (bs ++ [92]) W) => show Calls Tryz.prog 59 #[.pointer (some ⟨w.heap.size, 0, none⟩), .int .u8 34] W fun e w' => e = .returned .nilIface ∧ QRel w R s.data.toList ((bs ++ [92]) ++ [34]) w' from h.byte 34 (by simp; omega))
        clear hbs HI hlen HC g1 HQ hn hn2
        go_wp2_with (go_at_call 59; refine HC1.out.mono ?_; clear HC1)
        first | (rintro e w3 rfl hb3) | (rintro e w3 ⟨rfl, hb3⟩)
        replace hb3 := Lib.hid hb3
        go_wp2_with (go_at_call 59; refine (HC2.out _ hb3.out).mono ?_; rintro e w4 ⟨rfl, hb4⟩; have HN := Lib.hid hb4)
        go_roundw
        case rel => exact ⟨i + 1, by go_num, by omega, by rw [HJ.out]; exact HN.out⟩
        case measure => simp [intOf]; omega
      by_cases g2 : n = 92
      · have hc34 : c = 92 := UInt8.toNat_inj.1 (by rw [← hn]; exact g2)
        subst hc34
        replace hcell : wr.cell? ⟨R, i, none⟩ = some (.int .u8 92) := by rw [hcell, g2]; rfl
        have HJ := Lib.hid (show quoteTo s.data.toList (i + 1) = (bs ++ [92]) ++ [92] from by rw [HI.out.2, hbs]; simp [quoteB])
        have HC1 := Lib.hid (show Calls Tryz.prog 59 #[.pointer (some ⟨w.heap.size, 0, none⟩), .int .u8 92] wr fun e w' => e = .returned .nilIface ∧ QRel w R s.data.toList (bs ++ [92]) w' from HQ.out.byte 92 (by omega))
        have HC2 := Lib.hid (fun W (h : QRel w R s.data.toList (bs ++ [92]) W) => show Calls Tryz.prog 59 #[.pointer (some ⟨w.heap.size, 0, none⟩), .int .u8 92] W fun e w' => e = .returned .nilIface ∧ QRel w R s.data.toList ((bs ++ [92]) ++ [92]) w' from h.byte 92 (by simp; omega))
        clear hbs HI hlen HC g2 HQ hn hn2
        go_wp2_with (go_at_call 59; refine HC1.out.mono ?_; clear HC1)
        first | (rintro e w3 rfl hb3) | (rintro e w3 ⟨rfl, hb3⟩)
        replace hb3 := Lib.hid hb3
        go_wp2_with (go_at_call 59; refine (HC2.out _ hb3.out).mono ?_; rintro e w4 ⟨rfl, hb4⟩; have HN := Lib.hid hb4)
        go_roundw
        case rel => exact ⟨i + 1, by go_num, by omega, by rw [HJ.out]; exact HN.out⟩
        case measure => simp [intOf]; omega
      have e1 : (((n : Nat) : Int) == 34) = false := by simp; omega
      have e2 : (((n : Nat) : Int) == 92) = false := by simp; omega
      have hbit := and15 n hn2
      have hd0 : (0 : Int) ≤ (n : Int) / 16 := by omega
      have hd1 : (n : Int) / 16 < 16 := by omega
      have hm0 : (0 : Int) ≤ (n : Int) % 16 := by omega
      have hm1 : (n : Int) % 16 < 16 := by omega
      have hx1 := hex_at (n / 16) (by omega) ((n : Int) / 16).toNat (by omega)
      have hx2 := hex_at (n % 16) (by omega) ((n : Int) % 16).toNat (by omega)
      obtain ⟨u1, hu1⟩ : ∃ u1, hexU (n / 16) = u1 := ⟨_, rfl⟩
      obtain ⟨u2, hu2⟩ : ∃ u2, hexU (n % 16) = u2 := ⟨_, rfl⟩
      rw [hu1] at hx1
      rw [hu2] at hx2
      have hnew : SlAt (wr.alloc (.cells #[.int .u8 92, .int .u8 u1.toNat, .int .u8 u2.toNat] 5)).drew (some ⟨wr.heap.size, 0, none⟩) (Lib.byteCells [92, u1, u2]) :=
        .inr ⟨_, 0, rfl, fun j u hu => by rw [Nat.zero_add, (show Blk (wr.alloc (.cells #[.int .u8 92, .int .u8 u1.toNat, .int .u8 u2.toNat] 5)).drew wr.heap.size 5 #[.int .u8 92, .int .u8 u1.toNat, .int .u8 u2.toNat] from Blk.new wr _ _).cell]; simpa [Lib.byteCells] using hu⟩
      have HC3 := Lib.hid ((HQ.out.below (((Below.refl wr.heap.size wr).alloc (Nat.le_refl _) (.cells #[.int .u8 92, .int .u8 u1.toNat, .int .u8 u2.toNat] 5)).drew)).bytes [92, u1, u2] wr.heap.size 3 (by have := HQ.out.bu.lt; exact this) hnew (by simp; omega))
      clear hnew
      by_cases g3 : n < 32
      · have e3 : ((n : Nat) : Int) < 32 := by omega
        have hq : quoteB c = [92, u1, u2] := by
          rw [← hu1, ← hu2]
          rcases qkind c with ⟨h, q⟩ | ⟨h1, h2, h, q⟩ | ⟨h1, h2, h, h', q⟩
          · rcases h with rfl | rfl
            · exact absurd hn g1
            · exact absurd hn g2
          · rw [hn]; exact q
          · omega
        have HJ := Lib.hid (show quoteTo s.data.toList (i + 1) = bs ++ [92, u1, u2] from by rw [HI.out.2, hq, hbs])
        clear hq hbs HC g1 g2 g3 hn HI hu1 hu2
        go_wp2_with fail
        go_region_with (go_at_call 60; refine HC3.out.mono ?_; rintro e w3 ⟨rfl, hb3⟩; have HN := Lib.hid hb3)
        go_wp2_with fail
        go_roundw
        case rel => exact ⟨i + 1, by go_num, by omega, by rw [HJ.out]; exact HN.out⟩
        case measure => simp [intOf]; omega
        case roundEnd => exact ⟨⟨i + 1, by go_num, by omega, by rw [HJ.out]; exact HN.out⟩, by simp [intOf]; omega⟩
      by_cases g4 : 126 < n
      · have e3 : ¬ ((n : Nat) : Int) < 32 := by omega
        have e4 : (126 : Int) < ((n : Nat) : Int) := by omega
        have hq : quoteB c = [92, u1, u2] := by
          rw [← hu1, ← hu2]
          rcases qkind c with ⟨h, q⟩ | ⟨h1, h2, h, q⟩ | ⟨h1, h2, h, h', q⟩
          · rcases h with rfl | rfl
            · exact absurd hn g1
            · exact absurd hn g2
          · rw [hn]; exact q
          · omega
        have HJ := Lib.hid (show quoteTo s.data.toList (i + 1) = bs ++ [92, u1, u2] from by rw [HI.out.2, hq, hbs])
        clear hq hbs HC g1 g2 g3 hn HI hu1 hu2
        go_wp2_with fail
        go_region_with (go_at_call 60; refine HC3.out.mono ?_; rintro e w3 ⟨rfl, hb3⟩; have HN := Lib.hid hb3)
        go_wp2_with fail
        go_roundw
        case rel => exact ⟨i + 1, by go_num, by omega, by rw [HJ.out]; exact HN.out⟩
        case measure => simp [intOf]; omega
        case roundEnd => exact ⟨⟨i + 1, by go_num, by omega, by rw [HJ.out]; exact HN.out⟩, by simp [intOf]; omega⟩
      · have e3 : ¬ ((n : Nat) : Int) < 32 := by omega
        have e4 : ¬ (126 : Int) < ((n : Nat) : Int) := by omega
        have hq : quoteB c = [c] := by
          rcases qkind c with ⟨h, q⟩ | ⟨h1, h2, h, q⟩ | ⟨h1, h2, h, h', q⟩
          · rcases h with rfl | rfl
            · exact absurd hn g1
            · exact absurd hn g2
          · omega
          · exact q
        have HJ := Lib.hid (show quoteTo s.data.toList (i + 1) = bs ++ [c] from by rw [HI.out.2, hq, hbs])
        clear hq hbs HQ g1 g2 g3 g4 hn HI hlen
        go_wp2_with (go_at_call 59; refine HC.out.mono ?_; rintro e w3 ⟨rfl, hb3⟩; have HN := Lib.hid hb3)
        go_roundw
        case rel => exact ⟨i + 1, by go_num, by omega, by rw [HJ.out]; exact HN.out⟩
        case measure => simp [intOf]; omega
    · have hlt1 : ¬ (i : Int) < (s.size : Int) := by omega
      have he := quoteTo_end s.data.toList (i := i) (by rw [← HZ.out]; omega)
      have HC1 := Lib.hid (show Calls Tryz.prog 59 #[.pointer (some ⟨w.heap.size, 0, none⟩), .int .u8 34] wr fun e w' => e = .returned .nilIface ∧ QRel w R s.data.toList (quoteL s.data.toList) w' from he ▸ HQ.byte 34 (by omega))
      clear he HQ
      go_wp2_with (go_at_call 59; refine HC1.out.mono ?_)
      first | (rintro e w3 rfl hb3) | (rintro e w3 ⟨rfl, hb3⟩)
      have hbw := hb3.bel
      have HS := Lib.hid (Tryz.Builder_String_any_k w.heap.size w.heap.size _ w3 (hb3.bu.isB (fun k hk => hk.1)) hbw.size)
      replace hbw := Lib.hid hbw
      clear hb3
      go_wp2_with (go_at_call 61; refine HS.out.mono ?_; rintro e w4 ⟨rfl, _, hb4, _⟩; have HN := Lib.hid (hbw.out.trans hb4))
      go_ret
      exact ⟨rfl, HN.out⟩
end Go.Proofs.YtpeckpiidgkgoaaGreatDoor
