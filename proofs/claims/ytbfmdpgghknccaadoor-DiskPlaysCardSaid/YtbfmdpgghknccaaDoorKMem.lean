/- bookref3.K in memory; file, without: contracts. -/
import Derived.Test.YtbfmdpgghknccaaDoorKNamed
namespace Go.Proofs.YtbfmdpgghknccaaDoor
open Go.RowKit Go.Maps
set_option linter.unusedVariables false
set_option linter.unusedSimpArgs false

/-- A file as it lies in memory: its bytes' row. -/
structure FM where
  A : Option Addr
  c : Nat
  b : List Int
  s : Nat
def fcells (l : List FM) : List Value := l.flatMap fun f => [.slice f.A f.b.length f.c, .int .i64 f.s]
def ncells (l : Nms) : List Value := l.flatMap fun x => [.string ⟨x.1.toArray⟩, .int .i64 x.2]
theorem fcells_len (l : List FM) : (fcells l).length = l.length * 2 := by
  induction l with
  | nil => rfl
  | cons f l ih => simp [fcells] at ih ⊢; omega
theorem ncells_len (l : Nms) : (ncells l).length = l.length * 2 := by
  induction l with
  | nil => rfl
  | cons f l ih => simp [ncells] at ih ⊢; omega
theorem fcells_at : ∀ (l : List FM) (i : Nat) (f : FM), l[i]? = some f → (fcells l)[i * 2]? = some (.slice f.A f.b.length f.c) ∧ (fcells l)[i * 2 + 1]? = some (.int .i64 f.s) := by
  intro l
  induction l with
  | nil => intro i f h; simp at h
  | cons x l ih =>
    intro i f h
    cases i with
    | zero => simp at h; subst h; exact ⟨rfl, rfl⟩
    | succ i =>
      have e : (i + 1) * 2 = i * 2 + 1 + 1 := by omega
      rw [e]
      exact ih i f (by simpa using h)
theorem ncells_at : ∀ (l : Nms) (i : Nat) (x : List UInt8 × Nat), l[i]? = some x → (ncells l)[i * 2]? = some (.string ⟨x.1.toArray⟩) ∧ (ncells l)[i * 2 + 1]? = some (.int .i64 x.2) := by
  intro l
  induction l with
  | nil => intro i f h; simp at h
  | cons y l ih =>
    intro i x h
    cases i with
    | zero => simp at h; subst h; exact ⟨rfl, rfl⟩
    | succ i =>
      have e : (i + 1) * 2 = i * 2 + 1 + 1 := by omega
      rw [e]
      exact ih i x (by simpa using h)
theorem fcells_append (l m : List FM) : fcells (l ++ m) = fcells l ++ fcells m := by simp [fcells]
theorem ncells_append (l m : Nms) : ncells (l ++ m) = ncells l ++ ncells m := by simp [ncells]
theorem row_only {w w' : World} {base : Nat} {e : TypeId} {size n c : Nat} {A : Option Addr} {xs : List Value} (h : w.ownsRow base e size (.slice A n c) n xs) {X : Nat → Prop} (ho : Only X w w') (hX : ∀ a, A = some a → ¬ X a.block) : w'.ownsRow base e size (.slice A n c) n xs := by
  refine ⟨h.1, ?_⟩
  rcases h.2 with hn | ⟨g, cap, cur, hv, hb, hg, rest⟩
  · exact .inl hn
  · refine .inr ⟨g, cap, cur, hv, hb, ?_, rest⟩
    injection hv with hA' _ _
    rw [ho.block g (Array.getElem?_eq_some_iff.1 hg).1 (hX _ hA')]
    exact hg
theorem row_below {w w' : World} {base : Nat} {e : TypeId} {size n c : Nat} {A : Option Addr} {xs : List Value} (h : w.ownsRow base e size (.slice A n c) n xs) (hb : Below w.heap.size w w') : w'.ownsRow base e size (.slice A n c) n xs :=
  row_only h (Only.of_below hb (S := fun _ => False)) (fun _ _ h => h)
theorem row_type {w : World} {base : Nat} {e : TypeId} {size n c : Nat} {A : Option Addr} {xs : List Value} (h : w.ownsRow base e size (.slice A n c) n xs) : ∀ a, A = some a → a.off = 0 ∧ ∃ cur, Blk w a.block e cur := by
  intro a ha
  rcases h.2 with ⟨hv, _⟩ | ⟨g, cap, cur, hv, _, hg, _⟩
  · injection hv with h1 _ _; rw [ha] at h1; cases h1
  · injection hv with h1 _ _
    rw [ha] at h1
    injection h1 with h1
    subst h1
    exact ⟨rfl, cur, hg⟩
/-- Rows of two types are apart; a row and a block of another type. -/
theorem row_ne {w : World} {base base' : Nat} {e e' : TypeId} {size size' n n' c c' : Nat} {A B : Option Addr} {xs ys : List Value} (h : w.ownsRow base e size (.slice A n c) n xs) (h' : w.ownsRow base' e' size' (.slice B n' c') n' ys) (he : e ≠ e') : ∀ a b, A = some a → B = some b → a.block ≠ b.block := by
  intro a b ha hb hab
  obtain ⟨_, c1, g1⟩ := row_type h a ha
  obtain ⟨_, c2, g2⟩ := row_type h' b hb
  rw [hab] at g1
  exact he (g1.same_type g2)
theorem row_ne_blk {w : World} {base : Nat} {e t : TypeId} {size n c g : Nat} {A : Option Addr} {xs : List Value} {cs : Array Value} (h : w.ownsRow base e size (.slice A n c) n xs) (h' : Blk w g t cs) (he : e ≠ t) : ∀ a, A = some a → a.block ≠ g := by
  intro a ha hab
  obtain ⟨_, c1, g1⟩ := row_type h a ha
  rw [hab] at g1
  exact he (g1.same_type h')

/-- K: its block, its rows. -/
structure KAt (w : World) (k : Nat) (fm : List FM) (names safe : Nms) (steps stop : Int) (FA : Option Addr) (Fc : Nat) (NA : Option Addr) (Nc : Nat) (SA : Option Addr) (Sc : Nat) : Prop where
  blk : Blk w k 47 #[.slice FA fm.length Fc, .slice NA names.length Nc, .slice SA safe.length Sc, .int .i64 steps, .int .i64 stop]
  fl : w.ownsRow 0 97 2 (.slice FA fm.length Fc) fm.length (fcells fm)
  fb : ∀ f ∈ fm, w.ownsRow 0 5 1 (.slice f.A f.b.length f.c) f.b.length (u8s f.b)
  nm : w.ownsRow 0 89 2 (.slice NA names.length Nc) names.length (ncells names)
  sf : w.ownsRow 0 89 2 (.slice SA safe.length Sc) safe.length (ncells safe)
section
variable {w w' : World} {k : Nat} {fm : List FM} {names safe : Nms} {steps stop : Int} {FA : Option Addr} {Fc : Nat} {NA : Option Addr} {Nc : Nat} {SA : Option Addr} {Sc : Nat}
/-- What turns neither K's block nor any row of it. -/
theorem KAt.only (h : KAt w k fm names safe steps stop FA Fc NA Nc SA Sc) {X : Nat → Prop} (ho : Only X w w') (hX : ∀ g cur e, Blk w g e cur → (e = 47 ∨ e = 97 ∨ e = 89 ∨ e = 5) → ¬ X g) : KAt w' k fm names safe steps stop FA Fc NA Nc SA Sc := by
  have row : ∀ (A : Option Addr) (n c : Nat) (e : TypeId) (size : Nat) (xs : List Value), w.ownsRow 0 e size (.slice A n c) n xs → (e = 47 ∨ e = 97 ∨ e = 89 ∨ e = 5) → w'.ownsRow 0 e size (.slice A n c) n xs := fun A n c e size xs hr he => row_only hr ho (fun a ha => by
    obtain ⟨_, cur, hb⟩ := row_type hr a ha
    exact hX _ _ _ hb he)
  exact ⟨h.blk.only ho (hX _ _ _ h.blk (.inl rfl)), row _ _ _ _ _ _ h.fl (.inr (.inl rfl)), fun f hf => row _ _ _ _ _ _ (h.fb f hf) (.inr (.inr (.inr rfl))), row _ _ _ _ _ _ h.nm (.inr (.inr (.inl rfl))), row _ _ _ _ _ _ h.sf (.inr (.inr (.inl rfl)))⟩
theorem KAt.below (h : KAt w k fm names safe steps stop FA Fc NA Nc SA Sc) (hb : Below w.heap.size w w') : KAt w' k fm names safe steps stop FA Fc NA Nc SA Sc :=
  h.only (Only.of_below hb (S := fun _ => False)) (fun _ _ _ _ _ h => h)
end

theorem kFile_nil (s : List UInt8) : kFile [] s = none := rfl
theorem kFile_cons (x : List UInt8 × Nat) (l : Nms) (s : List UInt8) : kFile (x :: l) s = if x.1 = s then some x.2 else kFile l s := by
  unfold kFile
  rw [List.find?_cons]
  by_cases h : x.1 = s
  · simp [h]
  · have : (x.1 == s) = false := by simpa using h
    simp [this, h]

set_option maxRecDepth 100000 in
set_option maxHeartbeats 1000000 in
theorem kfile_any (k : Nat) (fm : List FM) (names safe : Nms) (steps stop : Int) (FA : Option Addr) (Fc : Nat) (NA : Option Addr) (Nc : Nat) (SA : Option Addr) (Sc : Nat) (s : ByteArray) (w : World) (h : KAt w k fm names safe steps stop FA Fc NA Nc SA Sc) (hl : names.length ≤ 1000000) :
    Calls Tryd.prog 39 #[.pointer (some ⟨k, 0, none⟩), .string s] w fun e w' => e = .returned (.int .i64 (atV (kFile names s.data.toList))) ∧ Below w.heap.size w w' := by
  have c1 : w.cell? ⟨k, 1, none⟩ = some (.slice NA names.length Nc) := h.blk.cell 1
  have hS := SlAt.of_owns h.nm
  have HS := Lib.hid hS
  obtain ⟨r, hr⟩ : ∃ r, kFile names s.data.toList = r := ⟨_, rfl⟩
  rw [hr]
  have HR := Lib.hid hr
  have hli : (names.length : Int) ≤ 1000000 := by omega
  clear h hS hr hl
  go_enter Tryd.func39, Tryd.ntmps39
  go_wp2_with fail
  go_loopw [5] (fun iv wr => ∃ i : Nat, iv = .int .i64 i ∧ i ≤ names.length ∧ kFile (names.drop i) s.data.toList = r ∧ wr = w) (fun iv _ => names.length - (intOf iv).toNat)
  case atStart => exact ⟨0, rfl, Nat.zero_le _, HR.out, rfl⟩
  case round =>
    obtain ⟨i, rfl, hi, hf, rfl⟩ := hrel
    by_cases hlt : i < names.length
    · have d0 : decide ((i : Int) < (names.length : Int)) = true := by simp; omega
      obtain ⟨x, hx⟩ : ∃ x, names[i]? = some x := ⟨_, List.getElem?_eq_getElem hlt⟩
      obtain ⟨hn0, hn1⟩ := ncells_at names i x hx
      obtain ⟨b, off, hA, n0⟩ := HS.out.at_ hn0
      obtain ⟨b', off', hA', n1⟩ := HS.out.at_ hn1
      rw [hA] at hA'
      injection hA' with hA'
      injection hA' with hb' ho' _
      subst hb' ho'
      subst hA
      rw [List.drop_eq_getElem_cons hlt, kFile_cons, show names[i] = x from by simpa [hlt] using hx] at hf
      obtain ⟨nx, hnx⟩ : ∃ nx : ByteArray, nx = ⟨x.1.toArray⟩ := ⟨_, rfl⟩
      have hnl : (nx.toList == s.toList) = decide (x.1 = s.data.toList) := by
        rw [hnx, ByteArray.toList_eq, ByteArray.toList_eq]
        exact (Bool.eq_iff_iff).2 (by simp)
      rw [← hnx] at n0
      rw [← Nat.add_assoc] at n1
      clear hnx hn0 hn1 hx
      by_cases he : x.1 = s.data.toList
      · rw [if_pos he] at hf
        rw [decide_eq_true he] at hnl
        subst hf
        clear he
        go_wp2_with fail
        go_ret
        exact ⟨rfl, Below.refl _ _⟩
      · rw [if_neg he] at hf
        rw [decide_eq_false he] at hnl
        have HF := Lib.hid hf
        clear he hf
        go_wp2_with fail
        go_roundw
        case rel => exact ⟨i + 1, by go_num, hlt, HF.out, trivial⟩
        case measure => simp [intOf] <;> omega
    · obtain rfl : i = names.length := by omega
      have d0 : decide ((names.length : Int) < (names.length : Int)) = false := by simp
      rw [List.drop_length, kFile_nil] at hf
      subst hf
      go_wp2_with fail
      go_ret
      exact ⟨rfl, Below.refl _ _⟩

theorem infoN : (Tryd.prog.info? 89).map (fun i => (i.zero, i.size, i.bytes)) = some (some (.agg #[.string ⟨#[]⟩, .int .i64 0]), 2, 24) := by kernel_rfl

/-- Names that without gives: a new row. -/
def WoQ (w : World) (l : Nms) (s : List UInt8) (e : Ending) (w' : World) : Prop :=
  ∃ A c, e = .returned (.slice A (without l s).length c) ∧ w'.ownsRow w.heap.size 89 2 (.slice A (without l s).length c) (without l s).length (ncells (without l s)) ∧ Below w.heap.size w w'

set_option maxRecDepth 100000 in
set_option maxHeartbeats 1000000 in
theorem without_any (l : Nms) (A : Option Addr) (c : Nat) (s : ByteArray) (w : World) (hA : SlAt w A (ncells l)) (hl : l.length ≤ 1000000) :
    Calls Tryd.prog 59 #[.slice A l.length c, .string s] w (WoQ w l s.data.toList) := by
  have HS := Lib.hid hA
  have HL := Lib.hid hl
  have hli : (l.length : Int) ≤ 1000000 := by omega
  clear hA hl
  go_enter Tryd.func59, Tryd.ntmps59
  go_wp2_with fail
  go_loopw [5, 6] (fun v iv wr => ∃ (i : Nat) (B : Option Addr) (cc : Nat) (m : Nms), iv = .int .i64 i ∧ i ≤ l.length ∧ m = without (l.take i) s.data.toList ∧ v = .slice B m.length cc ∧ wr.ownsRow w.heap.size 89 2 (.slice B m.length cc) m.length (ncells m) ∧ Below w.heap.size w wr) (fun _ iv _ => l.length - (intOf iv).toNat)
  case atStart => exact ⟨0, none, 0, [], rfl, Nat.zero_le _, rfl, rfl, World.ownsRow_nil _ _ _ _, Below.refl _ _⟩
  case round =>
    obtain ⟨i, B, cc, m, rfl, hi, hm, rfl, hrow, hb⟩ := hrel
    by_cases hlt : i < l.length
    · have d0 : decide ((i : Int) < (l.length : Int)) = true := by simp; omega
      obtain ⟨x, hx⟩ : ∃ x, l[i]? = some x := ⟨_, List.getElem?_eq_getElem hlt⟩
      obtain ⟨hn0, hn1⟩ := ncells_at l i x hx
      obtain ⟨b, off, hA, n0⟩ := (HS.out.below hb).at_ hn0
      obtain ⟨b', off', hA', n1⟩ := (HS.out.below hb).at_ hn1
      rw [hA] at hA'
      injection hA' with hA'
      injection hA' with hb' ho' _
      subst hb' ho'
      subst hA
      have htk : l.take (i + 1) = l.take i ++ [x] := by rw [List.take_add_one, hx]; rfl
      obtain ⟨nx, hnx⟩ : ∃ nx : ByteArray, nx = ⟨x.1.toArray⟩ := ⟨_, rfl⟩
      have hnl : (nx.toList == s.toList) = decide (x.1 = s.data.toList) := by
        rw [hnx, ByteArray.toList_eq, ByteArray.toList_eq]
        exact (Bool.eq_iff_iff).2 (by simp)
      rw [← hnx] at n0
      rw [← Nat.add_assoc] at n1
      by_cases he : x.1 = s.data.toList
      · have hm2 : m = without (l.take (i + 1)) s.data.toList := by
          rw [htk, hm]; unfold without; rw [List.filter_append]; simp [he]
        rw [decide_eq_true he] at hnl
        have HH := Lib.hid (And.intro hm2 (And.intro hrow hb))
        clear hnx hn0 hn1 hx htk he hm hm2 hrow hb
        go_wp2_with fail
        go_roundw
        case rel => exact ⟨i + 1, B, cc, m, by go_num, hlt, HH.out.1, rfl, HH.out.2.1, HH.out.2.2⟩
        case measure => simp [intOf] <;> omega
      · have hm2 : m ++ [x] = without (l.take (i + 1)) s.data.toList := by
          rw [htk, hm]; unfold without; rw [List.filter_append]; simp [he]
        have hml : m.length ≤ 1000000000000 := by
          have := without_len (l.take i) s.data.toList
          rw [← hm, List.length_take] at this
          have := HL.out
          omega
        have hbs := hb.size
        rw [decide_eq_false he] at hnl
        have HH := Lib.hid (And.intro hm2 (And.intro hrow (And.intro hb hnx)))
        clear hnx hn0 hn1 hx htk he hm hm2 hb
        go_wp2_with (first | (at_builtin; refine wpList_push _ rfl (.tmp 20) (.tmp 25) _ rfl w.heap.size 89 Tryd.underlying45 infoN rfl (by decide) (by decide) _ _ _ rfl hrow _ rfl rfl ?_ hml hbs ?_) | fail)
        · exact ⟨rfl, rfl⟩
        · intro A' c' w1 hrow1 hg1
          have H1 := Lib.hid (And.intro hrow1 hg1)
          clear hrow1 hg1 hrow
          go_wp2_with fail
          obtain ⟨hrow1, hg1⟩ := H1.out
          obtain ⟨hm2, hrow, hb, hnx⟩ := HH.out
          have hb2 := hb.grown hg1 hb.size (ownBlock_ge hrow)
          have hr2 : w1.ownsRow w.heap.size 89 2 (.slice A' (m ++ [x]).length c') (m ++ [x]).length (ncells (m ++ [x])) := by
            rw [ncells_append, List.length_append]
            subst hnx
            exact hrow1
          go_roundw
          case rel => exact ⟨i + 1, A', c', m ++ [x], by go_num, hlt, hm2, by simp, hr2, hb2⟩
          case measure => simp [intOf] <;> omega
    · obtain rfl : i = l.length := by omega
      have d0 : decide ((l.length : Int) < (l.length : Int)) = false := by simp
      rw [List.take_length] at hm
      have HH := Lib.hid (And.intro hm (And.intro hrow hb))
      clear hm hrow hb
      go_wp2_with fail
      go_ret
      obtain ⟨hm, hrow, hb⟩ := HH.out
      subst hm
      exact ⟨B, cc, rfl, hrow, hb⟩
end Go.Proofs.YtbfmdpgghknccaaDoor
