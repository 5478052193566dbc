/- bookref3.put: the contract. -/
import Derived.Test.YtbfmdpgghknccaaDoorRefPutHead
namespace Go.Proofs.YtbfmdpgghknccaaDoor
open Go.RowKit
set_option linter.unusedVariables false
set_option linter.unusedSimpArgs false

theorem infoStr' : (Tryd.prog.info? 9).map (fun i => (i.zero, i.size, i.bytes)) = some (some (.string ⟨#[]⟩), 1, 16) := by kernel_rfl
theorem infoTree' : (Tryd.prog.info? 29).map (fun i => (i.zero, i.size, i.bytes)) = some (some zTree, 7, 96) := by kernel_rfl

/-- One append onto a row that is new since B. -/
theorem app_step {P : Program} (B : Nat) (w : World) (t e : TypeId) {z : Value} {size bytes : Nat} (ht : P.underlying t = some (.slice e)) (hinfo : (P.info? e).map (fun i => (i.zero, i.size, i.bytes)) = some (some z, size, bytes)) (hzs : z.cells.size = size) (hsz : 0 < size)
    (A : Option Addr) (n c : Nat) (xs : List Value) (hown : w.ownsRow 0 e size (.slice A n c) n xs) (hB : B ≤ w.heap.size) (hlow : ∀ q, (Value.slice A n c).ownBlock = some q → B ≤ q) (S : Option Addr) (m k : Nat) (news : List Value) (hl : news.length = m * size) (hS : SlAt w S news) (h1 : ∀ u ∈ news, u.oneCell' = true)
    (h63 : n + m ≤ maxLen) (hbytes : (n + m) * bytes ≤ 140737488355328) :
    ∃ A' c' w', (∀ ty, (Builtin.append_ #[t, t] ty #[.slice A n c, .slice S m k]).run P w = .ok (.slice A' (n + m) c') w') ∧ w'.ownsRow 0 e size (.slice A' (n + m) c') (n + m) (xs ++ news) ∧ Below B w w' ∧
      (∀ q, (Value.slice A' (n + m) c').ownBlock = some q → B ≤ q) ∧ w.grownBy w' (Value.slice A n c).ownBlock := by
  obtain ⟨A', c', w', h1, h2, h3, h4⟩ := run_append_sl w t t e ht hinfo hzs hsz A n c xs hown S m k news hl hS h1 h63 hbytes
  refine ⟨A', c', w', fun _ => h1, h2, grown_below h3 hB hlow, ?_, h3⟩
  intro q hq
  rcases h4 with ⟨rfl, rfl⟩ | rfl
  · exact hlow q (by rw [← hq]; cases A' <;> rfl)
  · injection hq with hq
    rw [← hq]; exact hB
theorem own_own_ne {w : World} {e e' : TypeId} {size size' n n' : Nat} {v v' : Value} {xs xs' : List Value} (h : w.ownsRow 0 e size v n xs) (h' : w.ownsRow 0 e' size' v' n' xs') (hne : e ≠ e') : v.ownBlock = none ∨ v.ownBlock ≠ v'.ownBlock := by
  rcases h.2 with ⟨rfl, _⟩ | ⟨g, cap, cur, rfl, _, hh, _⟩
  · exact .inl rfl
  · refine .inr ?_
    rcases h'.2 with ⟨rfl, _⟩ | ⟨g', cap', cur', rfl, _, hh', _⟩
    · simp [Value.ownBlock]
    · intro e1
      injection e1 with e1
      subst e1
      rw [hh] at hh'
      injection hh' with hh'
      injection hh' with _ ht
      exact hne ht

/-- A tree in which kid k is x; inn: it comes in there; gone: it goes. -/
def JT.putT (t : JT) (k : Nat) (x : JT) (inn gone : Bool) (key : ByteArray) : JT :=
  .node t.val (if t.val.k = 5 then t.keys.take k ++ (if gone then [] else [key]) ++ t.keys.drop (if inn then k else k + 1) else []) (t.kids.take k ++ (if gone then [] else [x]) ++ t.kids.drop (if inn then k else k + 1))

/-- A tree that lies in a world, whatever turns at the blocks of S. -/
def Lies (S : Nat → Prop) (w : World) (T : PT) : Prop := ∀ w', Only S w w' → InJ w' T
theorem Lies.here {S : Nat → Prop} {w : World} {T : PT} (h : Lies S w T) : InJ w T := h w (Only.refl _ _)
theorem Lies.below {S S' : Nat → Prop} {w w' : World} {T : PT} (h : Lies S w T) (hb : Below w.heap.size w w') (hS : ∀ b, b < w.heap.size → S' b → S b) : Lies S' w' T := fun w'' ho =>
  h w'' ⟨ho.os.trans hb.os, ho.tape.trans hb.tape, ho.output.trans hb.output, Nat.le_trans hb.size ho.size, fun k hk hn => (ho.block k (Nat.lt_of_lt_of_le hk hb.size) (fun h => hn (hS k hk h))).trans (hb.block k hk)⟩
theorem Lies.kid {S : Nat → Prop} {w : World} {T K : PT} (h : Lies S w T) (hK : K ∈ T.kids) : Lies S w K := fun w' ho => (h w' ho).kids K hK

/-- What put gives. -/
def PutQ (S : Nat → Prop) (w : World) (t : JT) (e : Ending) (w' : World) : Prop := ∃ R : PT, e = .returned R.value ∧ R.tree = t ∧ Lies (fun b => S b ∨ (w.heap.size ≤ b ∧ b < w.heap.size + 3)) w' R ∧ R.Caps ∧ Below w.heap.size w w'

theorem results_row1 {P : Program} {fn : Func} {p : Tmp} {ty : TypeId} (h : fn.results = #[.cell p ty]) (tmps : Array Value) (w : World) (g : Nat) (t : TypeId) (cs : Array Value) (d : TypeDesc)
    (hp : tmps.getD p undef = .pointer (some ⟨g, 0, none⟩)) (hg : Blk w g t cs)
    (hu : P.underlying ty = some d) (hd : (match d with | .struct _ | .array _ _ => true | _ => false) = true) (hi : (P.info? ty).map (·.size) = some cs.size) :
    (results fn tmps).run P w = .ok (.agg cs) w := by
  have hp' : tmps[p]?.getD undef = .pointer (some ⟨g, 0, none⟩) := by simpa using hp
  simp [results, h, hp', asAddr, run_loadVar_row w g t ty cs (0, 0) d hg hu hd hi]

theorem own_low_not {w : World} {A : Option Addr} {n c B : Nat} {S : Nat → Prop} (h : ∀ q, (Value.slice A n c).ownBlock = some q → B ≤ q) (hS : ∀ b, S b → b < B) : ∀ b off s, A = some ⟨b, off, s⟩ → ¬ S b := by
  intro b off s e hs
  subst e
  have := h b rfl
  have := hS b hs
  omega

/-- What is made, is the tree. -/
theorem put_done (T X : PT) (k : Nat) (key : ByteArray) (inn gone : Bool) (S : Nat → Prop) (w Wg Wf : World) (hS : ∀ b, S b → b < w.heap.size) (hT' : Lies S w T) (hX' : Lies S w X) (hTc : T.Caps) (hXc : X.Caps) (hn : T.kids.length ≤ 1000) (hkn : T.keys.length ≤ 1000) (hkey : key.size ≤ maxLen)
    (keys' : List ByteArray) (hkeys' : keys' = if T.val.k = 5 then T.keys.take k ++ (if gone then [] else [key]) ++ T.keys.drop (if inn then k else k + 1) else [])
    (kids' : List PT) (hkids' : kids' = T.kids.take k ++ (if gone then [] else [X]) ++ T.kids.drop (if inn then k else k + 1)) (KA A3 : Option Addr) (d c3 n m : Nat)
    (owK : Wg.ownsRow 0 9 1 (.slice KA n d) keys'.length (keys'.map Value.string)) (owF : Wg.ownsRow 0 29 7 (.slice A3 m c3) kids'.length (PT.cellsL kids')) (hnn : n = keys'.length) (hm : m = kids'.length)
    (lK : ∀ q, (Value.slice KA n d).ownBlock = some q → w.heap.size + 3 ≤ q) (lF : ∀ q, (Value.slice A3 m c3).ownBlock = some q → w.heap.size + 3 ≤ q) (hb : Below w.heap.size w Wg) (ho : Only (fun b => b = w.heap.size ∨ b = w.heap.size + 1 + 1) Wg Wf) :
    PutQ S w (T.tree.putT k X.tree inn gone key) (.returned (.agg #[.int .i64 T.val.k, .int .i64 T.val.n, .string T.val.s, .int .i64 T.val.o, .int .i64 T.val.p, .slice KA n d, .slice A3 m c3])) Wf := by
  subst hnn hm
  have hT := hT'.here
  have hX := hX'.here
  have hbF : Below w.heap.size w Wf := hb.trans (ho.below hb.size (fun q hq e => by omega))
  have h1 : keys'.length ≤ 2001 := by
    rw [hkeys']
    split
    · simp only [List.length_append, List.length_take, List.length_drop]
      split <;> split <;> simp <;> omega
    · simp
  have h2 : kids'.length ≤ 2001 := by
    rw [hkids']
    simp only [List.length_append, List.length_take, List.length_drop]
    split <;> split <;> simp <;> omega
  have hkid : ∀ K ∈ kids', K = X ∨ K ∈ T.kids := by
    intro K hK
    rw [hkids'] at hK
    rcases List.mem_append.1 hK with hK | hK
    · rcases List.mem_append.1 hK with hK | hK
      · exact .inr (List.mem_of_mem_take hK)
      · cases gone <;> simp at hK
        exact .inl hK
    · exact .inr (List.mem_of_mem_drop hK)
  have hkk : ∀ s ∈ keys', s = key ∨ s ∈ T.keys := by
    intro s hs
    rw [hkeys'] at hs
    split at hs
    · rcases List.mem_append.1 hs with hs | hs
      · rcases List.mem_append.1 hs with hs | hs
        · exact .inr (List.mem_of_mem_take hs)
        · cases gone <;> simp at hs
          exact .inl hs
      · exact .inr (List.mem_of_mem_drop hs)
    · simp at hs
  refine ⟨.node T.val KA d keys' A3 c3 kids', ?_, ?_, ?_, ?_, hbF⟩
  · rw [PT.value_eq]; rfl
  · rw [PT.tree_eq]
    unfold JT.putT
    rw [PT.tree_val, PT.tree_keys, PT.tree_kids]
    show JT.node T.val keys' (kids'.map PT.tree) = _
    rw [← hkeys', hkids', ← List.map_take, ← List.map_drop]
    cases gone <;> simp
  · intro wf hof
    have hS3 : ∀ b, (S b ∨ (w.heap.size ≤ b ∧ b < w.heap.size + 3)) → b < w.heap.size + 3 := by
      intro b hb
      rcases hb with hb | hb
      · have := hS b hb; omega
      · exact hb.2
    refine InJ.mk_ ⟨hT.slot.fit, ?_, ?_, ?_, ?_, ?_⟩ ?_
    · exact ((SlAt.of_owns owK).only ho (own_low_not (w := w) (B := w.heap.size + 3) lK (by intro b hb; omega))).only hof (own_low_not (w := w) (B := w.heap.size + 3) lK hS3)
    · exact ((SlAt.of_owns owF).only ho (own_low_not (w := w) (B := w.heap.size + 3) lF (by intro b hb; omega))).only hof (own_low_not (w := w) (B := w.heap.size + 3) lF hS3)
    · exact Nat.le_trans h1 (by decide)
    · exact Nat.le_trans h2 (by decide)
    · intro s hs
      rcases hkk s hs with rfl | h
      · exact hkey
      · exact hT.slot.each s h
    · intro K hK
      have hlo : ∀ b, b < w.heap.size → (S b ∨ (w.heap.size ≤ b ∧ b < w.heap.size + 3)) → S b := by
        intro b hb hs
        rcases hs with hs | hs
        · exact hs
        · omega
      rcases hkid K hK with rfl | h
      · exact hX'.below hbF hlo wf hof
      · exact (hT'.kid h).below hbF hlo wf hof
  · refine (PT.caps_iff _).2 ⟨?_, ?_, ?_⟩
    · exact owns_cap owK
    · exact owns_cap owF
    · intro K hK
      rcases hkid K hK with rfl | h
      · exact hXc
      · exact ((PT.caps_iff T).1 hTc).2.2 K h

set_option maxRecDepth 100000 in
set_option maxHeartbeats 4000000 in
theorem put_set_map (T X : PT) (k : Nat) (key : ByteArray) (S : Nat → Prop) (w : World) (hS : ∀ b, S b → b < w.heap.size) (hT' : Lies S w T) (hX' : Lies S w X) (hTc : T.Caps) (hXc : X.Caps) (hk : k < T.kids.length) (hn : T.kids.length ≤ 1000) (hkey : key.size ≤ maxLen) (hv : T.val.k = 5) (hkl : T.keys.length = T.kids.length) :
    Calls Tryd.prog 44 #[T.value, .int .i64 k, X.value, .bool false, .bool false, .string key] w (PutQ S w (T.tree.putT k X.tree false false key)) := by
  have HL := Lib.hid (And.intro hS (And.intro hT' hX'))
  have hT := hT'.here
  have hX := hX'.here
  clear hS hT' hX'
  have htc := (PT.caps_iff T).1 hTc
  have hs := hT.slot
  have hb3 : Below w.heap.size w (((w.alloc (.cells #[.int .i64 T.val.k, .int .i64 T.val.n, .string T.val.s, .int .i64 T.val.o, .int .i64 T.val.p, .slice T.kA T.keys.length T.kc, .slice T.cA T.kids.length T.cc] 29)).alloc (.cells #[.int .i64 X.val.k, .int .i64 X.val.n, .string X.val.s, .int .i64 X.val.o, .int .i64 X.val.p, .slice X.kA X.keys.length X.kc, .slice X.cA X.kids.length X.cc] 29)).alloc (.cells #[.int .i64 0, .int .i64 0, .string ⟨#[]⟩, .int .i64 0, .int .i64 0, .slice none 0 0, .slice none 0 0] 29)) := (((Below.refl _ _).alloc (Nat.le_refl _) _).alloc (by simp) _).alloc (by simp; omega) _
  obtain ⟨W, hW⟩ : ∃ W, (((w.alloc (.cells #[.int .i64 T.val.k, .int .i64 T.val.n, .string T.val.s, .int .i64 T.val.o, .int .i64 T.val.p, .slice T.kA T.keys.length T.kc, .slice T.cA T.kids.length T.cc] 29)).alloc (.cells #[.int .i64 X.val.k, .int .i64 X.val.n, .string X.val.s, .int .i64 X.val.o, .int .i64 X.val.p, .slice X.kA X.keys.length X.kc, .slice X.cA X.kids.length X.cc] 29)).alloc (.cells #[.int .i64 0, .int .i64 0, .string ⟨#[]⟩, .int .i64 0, .int .i64 0, .slice none 0 0, .slice none 0 0] 29)) = W := ⟨_, rfl⟩
  have hsz : W.heap.size = w.heap.size + 3 := by rw [← hW]; simp
  have hBT : Blk W w.heap.size 29 #[.int .i64 T.val.k, .int .i64 T.val.n, .string T.val.s, .int .i64 T.val.o, .int .i64 T.val.p, .slice T.kA T.keys.length T.kc, .slice T.cA T.kids.length T.cc] := by rw [← hW]; exact ((Blk.new _ _ _).alloc _).alloc _
  have hBX : Blk W (w.heap.size + 1) 29 #[.int .i64 X.val.k, .int .i64 X.val.n, .string X.val.s, .int .i64 X.val.o, .int .i64 X.val.p, .slice X.kA X.keys.length X.kc, .slice X.cA X.kids.length X.cc] := by rw [← hW]; exact (Blk.newer _ _ _ (by simp)).alloc _
  have hBZ : Blk W (w.heap.size + 1 + 1) 29 #[.int .i64 0, .int .i64 0, .string ⟨#[]⟩, .int .i64 0, .int .i64 0, .slice none 0 0, .slice none 0 0] := by rw [← hW]; exact Blk.newer _ _ _ (by simp)
  rw [hW] at hb3
  have hkids : SlAt W T.cA (PT.cellsL T.kids) := hs.kids.below hb3
  have hkeys : SlAt W T.kA (T.keys.map Value.string) := hs.keys.below hb3
  obtain ⟨A1, c1, Wb, r1, ow1, b1, l1, _⟩ := app_step (P := Tryd.prog) W.heap.size W 27 29 Tryd.underlying27 infoTree' rfl (by decide) none 0 0 [] (World.ownsRow_nil _ _ _ _) (Nat.le_refl _) (fun q hq => by cases hq) T.cA k T.cc (PT.cellsL (T.kids.take k)) (by rw [PT.cellsL_length, List.length_take, Nat.min_eq_left (by omega)]) (by rw [← cellsL_take]; exact hkids.take _) (one_ptL _) (by simp only [maxLen]; omega) (by omega)
  simp only [Nat.zero_add, List.nil_append] at r1 ow1 l1
  rw [← hW] at r1
  have hb1 := hb3.trans (b1.mono hb3.size)
  have b1a : Below W.heap.size W (Wb.alloc (.cells #[.int .i64 X.val.k, .int .i64 X.val.n, .string X.val.s, .int .i64 X.val.o, .int .i64 X.val.p, .slice X.kA X.keys.length X.kc, .slice X.cA X.kids.length X.cc] 29)) := b1.alloc b1.size _
  obtain ⟨A2, c2, Wc, r2, ow2, b2', l2, _⟩ := app_step (P := Tryd.prog) W.heap.size (Wb.alloc (.cells #[.int .i64 X.val.k, .int .i64 X.val.n, .string X.val.s, .int .i64 X.val.o, .int .i64 X.val.p, .slice X.kA X.keys.length X.kc, .slice X.cA X.kids.length X.cc] 29)) 27 29 Tryd.underlying27 infoTree' rfl (by decide) A1 k c1 _ (ow1.alloc _) (b1a.size) l1 (some ⟨Wb.heap.size, 0, none⟩) 1 1 X.cells (by rw [PT.cells_length]) (SlAt.of_blk (Blk.new _ _ _)) (one_pt _) (by simp only [maxLen]; omega) (by omega)
  have b2 : Below W.heap.size W Wc := b1a.trans b2'
  have hk2 : SlAt Wc (if T.cc = k + 1 then T.cA else Option.map (fun x => x.add ((k + 1) * 7)) T.cA) (PT.cellsL (T.kids.drop (k + 1))) := by
    rw [← cellsL_drop]
    exact SlAt.from_ (hkids.below b2) T.cc (k + 1) 7 T.kids.length (PT.cellsL_length _) htc.2.1
  obtain ⟨A3, c3, Wd, r3, ow3, b3', l3, _⟩ := app_step (P := Tryd.prog) W.heap.size Wc 27 29 Tryd.underlying27 infoTree' rfl (by decide) A2 (k + 1) c2 _ ow2 b2.size l2 _ (T.kids.length - (k + 1)) (T.cc - (k + 1)) _ (by rw [PT.cellsL_length, List.length_drop]) hk2 (one_ptL _) (by simp only [maxLen]; omega) (by omega)
  have b3 : Below W.heap.size W Wd := b2.trans b3'
  have hys : SlAt Wd T.kA (T.keys.map Value.string) := hkeys.below b3
  obtain ⟨K1, d1, We, q1, kw1, e1', m1, g1⟩ := app_step (P := Tryd.prog) W.heap.size Wd 26 9 Tryd.underlying26 infoStr' rfl (by decide) none 0 0 [] (World.ownsRow_nil _ _ _ _) b3.size (fun q hq => by cases hq) T.kA k T.kc ((T.keys.map Value.string).take k) (by rw [List.length_take, List.length_map, Nat.min_eq_left (by omega), Nat.mul_one]) (hys.take _) (fun u hu => one_cells T.keys u (List.mem_of_mem_take hu)) (by simp only [maxLen]; omega) (by omega)
  have ow4 := ow3.kept g1 (own_own_ne ow3 (World.ownsRow_nil Wd 0 9 1) (by decide))
  simp only [Nat.zero_add, List.nil_append] at q1 kw1 m1
  have e1 : Below W.heap.size W We := b3.trans e1'
  have e1a : Below W.heap.size W (We.alloc (.cells #[.string key] 9)) := e1.alloc e1.size _
  obtain ⟨K2, d2, Wf, q2, kw2, e2', m2, g2⟩ := app_step (P := Tryd.prog) W.heap.size (We.alloc (.cells #[.string key] 9)) 26 9 Tryd.underlying26 infoStr' rfl (by decide) K1 k d1 _ (kw1.alloc _) e1a.size m1 (some ⟨We.heap.size, 0, none⟩) 1 1 [.string key] rfl (SlAt.of_blk (Blk.new _ _ _)) (by intro u hu; simp at hu; rw [hu]; rfl) (by simp only [maxLen]; omega) (by omega)
  have ow5 := (ow4.alloc (.cells #[.string key] 9)).kept g2 (own_own_ne (ow4.alloc (.cells #[.string key] 9)) (kw1.alloc (.cells #[.string key] 9)) (by decide))
  have e2 : Below W.heap.size W Wf := e1a.trans e2'
  have hy2 : SlAt Wf (if T.kc = k + 1 then T.kA else Option.map (fun x => x.add (k + 1)) T.kA) ((T.keys.map Value.string).drop (k + 1)) := by
    have := SlAt.from_ (hkeys.below e2) T.kc (k + 1) 1 T.keys.length (by simp) htc.1
    simpa only [Nat.mul_one] using this
  obtain ⟨K3, d3, Wg, q3, kw3, e3', m3, g3⟩ := app_step (P := Tryd.prog) W.heap.size Wf 26 9 Tryd.underlying26 infoStr' rfl (by decide) K2 (k + 1) d2 _ kw2 e2.size m2 _ (T.keys.length - (k + 1)) (T.kc - (k + 1)) _ (by rw [List.length_drop, List.length_map, Nat.mul_one]) hy2 (fun u hu => one_cells T.keys u (List.mem_of_mem_drop hu)) (by simp only [maxLen]; omega) (by omega)
  have owF := ow5.kept g3 (own_own_ne ow5 kw2 (by decide))
  have bF : Below W.heap.size W Wg := e2.trans e3'
  have t6 : (((w.alloc (.cells #[.int .i64 T.val.k, .int .i64 T.val.n, .string T.val.s, .int .i64 T.val.o, .int .i64 T.val.p, .slice T.kA T.keys.length T.kc, .slice T.cA T.kids.length T.cc] 29)).alloc (.cells #[.int .i64 X.val.k, .int .i64 X.val.n, .string X.val.s, .int .i64 X.val.o, .int .i64 X.val.p, .slice X.kA X.keys.length X.kc, .slice X.cA X.kids.length X.cc] 29)).alloc (.cells #[.int .i64 0, .int .i64 0, .string ⟨#[]⟩, .int .i64 0, .int .i64 0, .slice none 0 0, .slice none 0 0] 29)).cell? ⟨w.heap.size, 6, none⟩ = some (.slice T.cA T.kids.length T.cc) := by rw [hW]; exact hBT.cell 6
  have x0 : Wb.cell? ⟨w.heap.size + 1, 0, none⟩ = some (.int .i64 X.val.k) := (hBX.below b1 hBX.lt).cell 0
  have x1 : Wb.cell? ⟨w.heap.size + 1, 1, none⟩ = some (.int .i64 X.val.n) := (hBX.below b1 hBX.lt).cell 1
  have x2 : Wb.cell? ⟨w.heap.size + 1, 2, none⟩ = some (.string X.val.s) := (hBX.below b1 hBX.lt).cell 2
  have x3 : Wb.cell? ⟨w.heap.size + 1, 3, none⟩ = some (.int .i64 X.val.o) := (hBX.below b1 hBX.lt).cell 3
  have x4 : Wb.cell? ⟨w.heap.size + 1, 4, none⟩ = some (.int .i64 X.val.p) := (hBX.below b1 hBX.lt).cell 4
  have x5 : Wb.cell? ⟨w.heap.size + 1, 5, none⟩ = some (.slice X.kA X.keys.length X.kc) := (hBX.below b1 hBX.lt).cell 5
  have x6 : Wb.cell? ⟨w.heap.size + 1, 6, none⟩ = some (.slice X.cA X.kids.length X.cc) := (hBX.below b1 hBX.lt).cell 6
  have u6 : Wc.cell? ⟨w.heap.size, 6, none⟩ = some (.slice T.cA T.kids.length T.cc) := (hBT.below b2 hBT.lt).cell 6
  have k0 : Wd.cell? ⟨w.heap.size, 0, none⟩ = some (.int .i64 T.val.k) := (hBT.below b3 hBT.lt).cell 0
  have k5 : Wd.cell? ⟨w.heap.size, 5, none⟩ = some (.slice T.kA T.keys.length T.kc) := (hBT.below b3 hBT.lt).cell 5
  have y5 : Wf.cell? ⟨w.heap.size, 5, none⟩ = some (.slice T.kA T.keys.length T.kc) := (hBT.below e2 hBT.lt).cell 5
  have hBTg := hBT.below bF hBT.lt
  have hBZg := hBZ.below bF hBZ.lt
  have a0 : Wg.cell? ⟨w.heap.size, 0, none⟩ = some (.int .i64 T.val.k) := hBTg.cell 0
  have a1 : Wg.cell? ⟨w.heap.size, 1, none⟩ = some (.int .i64 T.val.n) := hBTg.cell 1
  have a2 : Wg.cell? ⟨w.heap.size, 2, none⟩ = some (.string T.val.s) := hBTg.cell 2
  have a3 : Wg.cell? ⟨w.heap.size, 3, none⟩ = some (.int .i64 T.val.o) := hBTg.cell 3
  have a4 : Wg.cell? ⟨w.heap.size, 4, none⟩ = some (.int .i64 T.val.p) := hBTg.cell 4
  have a5 : Wg.cell? ⟨w.heap.size, 5, none⟩ = some (.slice T.kA T.keys.length T.kc) := hBTg.cell 5
  have a6 : Wg.cell? ⟨w.heap.size, 6, none⟩ = some (.slice T.cA T.kids.length T.cc) := hBTg.cell 6
  have z0 : Wg.cell? ⟨w.heap.size + 1 + 1, 0, none⟩ = some (.int .i64 0) := hBZg.cell 0
  have z1 : Wg.cell? ⟨w.heap.size + 1 + 1, 1, none⟩ = some (.int .i64 0) := hBZg.cell 1
  have z2 : Wg.cell? ⟨w.heap.size + 1 + 1, 2, none⟩ = some (.string ⟨#[]⟩) := hBZg.cell 2
  have z3 : Wg.cell? ⟨w.heap.size + 1 + 1, 3, none⟩ = some (.int .i64 0) := hBZg.cell 3
  have z4 : Wg.cell? ⟨w.heap.size + 1 + 1, 4, none⟩ = some (.int .i64 0) := hBZg.cell 4
  have z5 : Wg.cell? ⟨w.heap.size + 1 + 1, 5, none⟩ = some (.slice none 0 0) := hBZg.cell 5
  have z6 : Wg.cell? ⟨w.heap.size + 1 + 1, 6, none⟩ = some (.slice none 0 0) := hBZg.cell 6
  have za := hBTg.frozen
  have zz := hBZg.frozen
  obtain ⟨S3, hS3⟩ : ∃ S, (if T.cc = k + 1 then T.cA else Option.map (fun x => x.add ((k + 1) * 7)) T.cA) = S := ⟨_, rfl⟩
  rw [hS3] at r3
  obtain ⟨U3, hU3⟩ : ∃ S, (if T.kc = k + 1 then T.kA else Option.map (fun x => x.add (k + 1)) T.kA) = S := ⟨_, rfl⟩
  rw [hU3] at q3
  have hV3 : (if T.kc = k + 1 then T.kA else Option.map (fun x => ({ block := x.block, off := x.off + (k + 1), spot := none } : Addr)) T.kA) = U3 := by rw [← hU3]; simp only [Addr.add_succ']
  have hk9 : (k : Int) ≤ 1000 := by omega
  have hkc : (k : Int) ≤ (T.cc : Int) := by have := htc.2.1; omega
  have hkr : ((k : Int) + 1 : Int) ≤ (T.kids.length : Int) := by omega
  have hmc : (T.kids.length : Int) ≤ (T.cc : Int) := by have := htc.2.1; omega
  have hyc : (k : Int) ≤ (T.kc : Int) := by have := htc.1; omega
  have hyr : ((k : Int) + 1 : Int) ≤ (T.keys.length : Int) := by omega
  have hymc : (T.keys.length : Int) ≤ (T.kc : Int) := by have := htc.1; omega
  have h5 : (T.val.k == 5) = true := by rw [hv]; rfl
  have R1 := Lib.hid r1
  have R2 := Lib.hid r2
  have R3 := Lib.hid r3
  have Q1 := Lib.hid q1
  have Q2 := Lib.hid q2
  have Q3 := Lib.hid q3
  have HB := Lib.hid (And.intro hBTg hBZg)
  have HH := Lib.hid (And.intro hT (And.intro hX (And.intro hTc (And.intro hXc (And.intro hk (And.intro hn (And.intro hkey (And.intro hv hkl))))))))
  have HO := Lib.hid (And.intro owF (And.intro l3 (And.intro hb3 (And.intro bF (And.intro kw3 (And.intro m3 hsz))))))
  clear hv hkl
  clear hT hX hTc hXc hk hn hkey htc hs hBT hBX hBZ hb3 hkids hkeys hb1 hk2 owF bF l3 ow1 ow2 b1 b2 l1 b3 ow3 b3' hBTg hBZg l2 hW hsz b1a b2' hys kw1 e1' m1 g1 ow4 e1 e2 hy2 kw3 e3' m3 g3 e1a kw2 e2' m2 g2 ow5
  clear r1 r2 r3 q1 q2 q3
  rw [PT.value_eq, PT.value_eq]
  go_enter Tryd.func44, Tryd.ntmps44
  go_wp2_with (at_builtin; first
    | refine Lib.wpList_append_run (o := ⟨some 21, _, _, _, _, _⟩) _ rfl _ _ _ _ rfl _ _ rfl rfl _ _ (R1.out _) ?_
    | refine Lib.wpList_append_run (o := ⟨some 27, _, _, _, _, _⟩) _ rfl _ _ _ _ rfl _ _ rfl rfl _ _ (R2.out _) ?_
    | refine Lib.wpList_append_run (o := ⟨some 37, _, _, _, _, _⟩) _ rfl _ _ _ _ rfl _ _ rfl rfl _ _ (R3.out _) ?_
    | refine Lib.wpList_append_run (o := ⟨some 47, _, _, _, _, _⟩) _ rfl _ _ _ _ rfl _ _ rfl rfl _ _ (Q1.out _) ?_
    | refine Lib.wpList_append_run (o := ⟨some 53, _, _, _, _, _⟩) _ rfl _ _ _ _ rfl _ _ rfl rfl _ _ (Q2.out _) ?_
    | refine Lib.wpList_append_run (o := ⟨some 59, _, _, _, _, _⟩) _ rfl _ _ _ _ rfl _ _ rfl rfl _ _ (Q3.out _) ?_)
  have hZ : Blk ((Wg.setCell ⟨w.heap.size, 6, none⟩ (.slice A3 (k + 1 + (T.kids.length - (k + 1))) c3)).setCell ⟨w.heap.size, 5, none⟩ (.slice K3 (k + 1 + (T.keys.length - (k + 1))) d3)) (w.heap.size + 1 + 1) 29 #[.int .i64 0, .int .i64 0, .string ⟨#[]⟩, .int .i64 0, .int .i64 0, .slice none 0 0, .slice none 0 0] := HB.out.2.only (((Only.refl (· = w.heap.size) _).setCell rfl _).setCell rfl _) (fun e => by omega)
  refine bodyPost_ret (results_row1 Tryd.results44 _ _ (w.heap.size + 1 + 1) _ _ _ rfl (blk7 _ _ _ _ _ _ _ hZ) Tryd.underlying29 rfl (by kernel_rfl)) rfl ?_
  have hcells : PT.cellsL (T.kids.take k ++ [X] ++ T.kids.drop (k + 1)) = PT.cellsL (T.kids.take k) ++ X.cells ++ PT.cellsL (T.kids.drop (k + 1)) := by simp [PT.cellsL]
  have hlen : (T.kids.take k ++ [X] ++ T.kids.drop (k + 1)).length = k + 1 + (T.kids.length - (k + 1)) := by
    simp only [List.length_append, List.length_take, List.length_drop, List.length_singleton]
    have := HH.out.2.2.2.2.1
    omega
  have hykeys : (T.keys.take k ++ [key] ++ T.keys.drop (k + 1)).map Value.string = (T.keys.map Value.string).take k ++ [Value.string key] ++ (T.keys.map Value.string).drop (k + 1) := by simp [List.map_take, List.map_drop]
  have hylen : (T.keys.take k ++ [key] ++ T.keys.drop (k + 1)).length = k + 1 + (T.keys.length - (k + 1)) := by
    simp only [List.length_append, List.length_take, List.length_drop, List.length_singleton]
    have := HH.out.2.2.2.2.1
    have := HH.out.2.2.2.2.2.2.2.2
    omega
  refine put_done T X k key false false S w Wg _ HL.out.1 HL.out.2.1 HL.out.2.2 HH.out.2.2.1 HH.out.2.2.2.1 HH.out.2.2.2.2.2.1 ?_ HH.out.2.2.2.2.2.2.1 (T.keys.take k ++ [key] ++ T.keys.drop (k + 1)) ?_ (T.kids.take k ++ [X] ++ T.kids.drop (k + 1)) (by simp) K3 A3 d3 c3 _ _ ?_ (by rw [hcells, hlen]; exact HO.out.1) ?_ hlen.symm ?_ ?_ (HO.out.2.2.1.trans (HO.out.2.2.2.1.mono HO.out.2.2.1.size)) ?_
  · rw [HH.out.2.2.2.2.2.2.2.2]; exact HH.out.2.2.2.2.2.1
  · rw [if_pos HH.out.2.2.2.2.2.2.2.1]; simp
  · rw [hykeys, hylen]; exact HO.out.2.2.2.2.1
  · exact hylen.symm
  · intro q hq
    have h1 := HO.out.2.2.2.2.2.1 q hq
    have h2 := HO.out.2.2.2.2.2.2
    omega
  · intro q hq
    have h1 := HO.out.2.1 q hq
    have h2 := HO.out.2.2.2.2.2.2
    omega
  · exact (((Only.refl _ _).setCell (.inl rfl) _).setCell (.inl rfl) _).trans ((only7 _ (w.heap.size + 1 + 1) _ _ _ _ _ _ _ _ _ _ _ _ _ _).mono (fun _ _ h => .inr h))

set_option maxRecDepth 100000 in
set_option maxHeartbeats 4000000 in
theorem put_ins_map (T X : PT) (k : Nat) (key : ByteArray) (S : Nat → Prop) (w : World) (hS : ∀ b, S b → b < w.heap.size) (hT' : Lies S w T) (hX' : Lies S w X) (hTc : T.Caps) (hXc : X.Caps) (hk : k ≤ T.kids.length) (hn : T.kids.length ≤ 1000) (hkey : key.size ≤ maxLen) (hv : T.val.k = 5) (hkl : T.keys.length = T.kids.length) :
    Calls Tryd.prog 44 #[T.value, .int .i64 k, X.value, .bool true, .bool false, .string key] w (PutQ S w (T.tree.putT k X.tree true false key)) := by
  have HL := Lib.hid (And.intro hS (And.intro hT' hX'))
  have hT := hT'.here
  have hX := hX'.here
  clear hS hT' hX'
  have htc := (PT.caps_iff T).1 hTc
  have hs := hT.slot
  have hb3 : Below w.heap.size w (((w.alloc (.cells #[.int .i64 T.val.k, .int .i64 T.val.n, .string T.val.s, .int .i64 T.val.o, .int .i64 T.val.p, .slice T.kA T.keys.length T.kc, .slice T.cA T.kids.length T.cc] 29)).alloc (.cells #[.int .i64 X.val.k, .int .i64 X.val.n, .string X.val.s, .int .i64 X.val.o, .int .i64 X.val.p, .slice X.kA X.keys.length X.kc, .slice X.cA X.kids.length X.cc] 29)).alloc (.cells #[.int .i64 0, .int .i64 0, .string ⟨#[]⟩, .int .i64 0, .int .i64 0, .slice none 0 0, .slice none 0 0] 29)) := (((Below.refl _ _).alloc (Nat.le_refl _) _).alloc (by simp) _).alloc (by simp; omega) _
  obtain ⟨W, hW⟩ : ∃ W, (((w.alloc (.cells #[.int .i64 T.val.k, .int .i64 T.val.n, .string T.val.s, .int .i64 T.val.o, .int .i64 T.val.p, .slice T.kA T.keys.length T.kc, .slice T.cA T.kids.length T.cc] 29)).alloc (.cells #[.int .i64 X.val.k, .int .i64 X.val.n, .string X.val.s, .int .i64 X.val.o, .int .i64 X.val.p, .slice X.kA X.keys.length X.kc, .slice X.cA X.kids.length X.cc] 29)).alloc (.cells #[.int .i64 0, .int .i64 0, .string ⟨#[]⟩, .int .i64 0, .int .i64 0, .slice none 0 0, .slice none 0 0] 29)) = W := ⟨_, rfl⟩
  have hsz : W.heap.size = w.heap.size + 3 := by rw [← hW]; simp
  have hBT : Blk W w.heap.size 29 #[.int .i64 T.val.k, .int .i64 T.val.n, .string T.val.s, .int .i64 T.val.o, .int .i64 T.val.p, .slice T.kA T.keys.length T.kc, .slice T.cA T.kids.length T.cc] := by rw [← hW]; exact ((Blk.new _ _ _).alloc _).alloc _
  have hBX : Blk W (w.heap.size + 1) 29 #[.int .i64 X.val.k, .int .i64 X.val.n, .string X.val.s, .int .i64 X.val.o, .int .i64 X.val.p, .slice X.kA X.keys.length X.kc, .slice X.cA X.kids.length X.cc] := by rw [← hW]; exact (Blk.newer _ _ _ (by simp)).alloc _
  have hBZ : Blk W (w.heap.size + 1 + 1) 29 #[.int .i64 0, .int .i64 0, .string ⟨#[]⟩, .int .i64 0, .int .i64 0, .slice none 0 0, .slice none 0 0] := by rw [← hW]; exact Blk.newer _ _ _ (by simp)
  rw [hW] at hb3
  have hkids : SlAt W T.cA (PT.cellsL T.kids) := hs.kids.below hb3
  have hkeys : SlAt W T.kA (T.keys.map Value.string) := hs.keys.below hb3
  obtain ⟨A1, c1, Wb, r1, ow1, b1, l1, _⟩ := app_step (P := Tryd.prog) W.heap.size W 27 29 Tryd.underlying27 infoTree' rfl (by decide) none 0 0 [] (World.ownsRow_nil _ _ _ _) (Nat.le_refl _) (fun q hq => by cases hq) T.cA k T.cc (PT.cellsL (T.kids.take k)) (by rw [PT.cellsL_length, List.length_take, Nat.min_eq_left (by omega)]) (by rw [← cellsL_take]; exact hkids.take _) (one_ptL _) (by simp only [maxLen]; omega) (by omega)
  simp only [Nat.zero_add, List.nil_append] at r1 ow1 l1
  rw [← hW] at r1
  have hb1 := hb3.trans (b1.mono hb3.size)
  have b1a : Below W.heap.size W (Wb.alloc (.cells #[.int .i64 X.val.k, .int .i64 X.val.n, .string X.val.s, .int .i64 X.val.o, .int .i64 X.val.p, .slice X.kA X.keys.length X.kc, .slice X.cA X.kids.length X.cc] 29)) := b1.alloc b1.size _
  obtain ⟨A2, c2, Wc, r2, ow2, b2', l2, _⟩ := app_step (P := Tryd.prog) W.heap.size (Wb.alloc (.cells #[.int .i64 X.val.k, .int .i64 X.val.n, .string X.val.s, .int .i64 X.val.o, .int .i64 X.val.p, .slice X.kA X.keys.length X.kc, .slice X.cA X.kids.length X.cc] 29)) 27 29 Tryd.underlying27 infoTree' rfl (by decide) A1 k c1 _ (ow1.alloc _) (b1a.size) l1 (some ⟨Wb.heap.size, 0, none⟩) 1 1 X.cells (by rw [PT.cells_length]) (SlAt.of_blk (Blk.new _ _ _)) (one_pt _) (by simp only [maxLen]; omega) (by omega)
  have b2 : Below W.heap.size W Wc := b1a.trans b2'
  have hk2 : SlAt Wc (if T.cc = k then T.cA else Option.map (fun x => x.add (k * 7)) T.cA) (PT.cellsL (T.kids.drop k)) := by
    rw [← cellsL_drop]
    exact SlAt.from_ (hkids.below b2) T.cc k 7 T.kids.length (PT.cellsL_length _) htc.2.1
  obtain ⟨A3, c3, Wd, r3, ow3, b3', l3, _⟩ := app_step (P := Tryd.prog) W.heap.size Wc 27 29 Tryd.underlying27 infoTree' rfl (by decide) A2 (k + 1) c2 _ ow2 b2.size l2 _ (T.kids.length - k) (T.cc - k) _ (by rw [PT.cellsL_length, List.length_drop]) hk2 (one_ptL _) (by simp only [maxLen]; omega) (by omega)
  have b3 : Below W.heap.size W Wd := b2.trans b3'
  have hys : SlAt Wd T.kA (T.keys.map Value.string) := hkeys.below b3
  obtain ⟨K1, d1, We, q1, kw1, e1', m1, g1⟩ := app_step (P := Tryd.prog) W.heap.size Wd 26 9 Tryd.underlying26 infoStr' rfl (by decide) none 0 0 [] (World.ownsRow_nil _ _ _ _) b3.size (fun q hq => by cases hq) T.kA k T.kc ((T.keys.map Value.string).take k) (by rw [List.length_take, List.length_map, Nat.min_eq_left (by omega), Nat.mul_one]) (hys.take _) (fun u hu => one_cells T.keys u (List.mem_of_mem_take hu)) (by simp only [maxLen]; omega) (by omega)
  have ow4 := ow3.kept g1 (own_own_ne ow3 (World.ownsRow_nil Wd 0 9 1) (by decide))
  simp only [Nat.zero_add, List.nil_append] at q1 kw1 m1
  have e1 : Below W.heap.size W We := b3.trans e1'
  have e1a : Below W.heap.size W (We.alloc (.cells #[.string key] 9)) := e1.alloc e1.size _
  obtain ⟨K2, d2, Wf, q2, kw2, e2', m2, g2⟩ := app_step (P := Tryd.prog) W.heap.size (We.alloc (.cells #[.string key] 9)) 26 9 Tryd.underlying26 infoStr' rfl (by decide) K1 k d1 _ (kw1.alloc _) e1a.size m1 (some ⟨We.heap.size, 0, none⟩) 1 1 [.string key] rfl (SlAt.of_blk (Blk.new _ _ _)) (by intro u hu; simp at hu; rw [hu]; rfl) (by simp only [maxLen]; omega) (by omega)
  have ow5 := (ow4.alloc (.cells #[.string key] 9)).kept g2 (own_own_ne (ow4.alloc (.cells #[.string key] 9)) (kw1.alloc (.cells #[.string key] 9)) (by decide))
  have e2 : Below W.heap.size W Wf := e1a.trans e2'
  have hy2 : SlAt Wf (if T.kc = k then T.kA else Option.map (fun x => x.add k) T.kA) ((T.keys.map Value.string).drop k) := by
    have := SlAt.from_ (hkeys.below e2) T.kc k 1 T.keys.length (by simp) htc.1
    simpa only [Nat.mul_one] using this
  obtain ⟨K3, d3, Wg, q3, kw3, e3', m3, g3⟩ := app_step (P := Tryd.prog) W.heap.size Wf 26 9 Tryd.underlying26 infoStr' rfl (by decide) K2 (k + 1) d2 _ kw2 e2.size m2 _ (T.keys.length - k) (T.kc - k) _ (by rw [List.length_drop, List.length_map, Nat.mul_one]) hy2 (fun u hu => one_cells T.keys u (List.mem_of_mem_drop hu)) (by simp only [maxLen]; omega) (by omega)
  have owF := ow5.kept g3 (own_own_ne ow5 kw2 (by decide))
  have bF : Below W.heap.size W Wg := e2.trans e3'
  have t6 : (((w.alloc (.cells #[.int .i64 T.val.k, .int .i64 T.val.n, .string T.val.s, .int .i64 T.val.o, .int .i64 T.val.p, .slice T.kA T.keys.length T.kc, .slice T.cA T.kids.length T.cc] 29)).alloc (.cells #[.int .i64 X.val.k, .int .i64 X.val.n, .string X.val.s, .int .i64 X.val.o, .int .i64 X.val.p, .slice X.kA X.keys.length X.kc, .slice X.cA X.kids.length X.cc] 29)).alloc (.cells #[.int .i64 0, .int .i64 0, .string ⟨#[]⟩, .int .i64 0, .int .i64 0, .slice none 0 0, .slice none 0 0] 29)).cell? ⟨w.heap.size, 6, none⟩ = some (.slice T.cA T.kids.length T.cc) := by rw [hW]; exact hBT.cell 6
  have x0 : Wb.cell? ⟨w.heap.size + 1, 0, none⟩ = some (.int .i64 X.val.k) := (hBX.below b1 hBX.lt).cell 0
  have x1 : Wb.cell? ⟨w.heap.size + 1, 1, none⟩ = some (.int .i64 X.val.n) := (hBX.below b1 hBX.lt).cell 1
  have x2 : Wb.cell? ⟨w.heap.size + 1, 2, none⟩ = some (.string X.val.s) := (hBX.below b1 hBX.lt).cell 2
  have x3 : Wb.cell? ⟨w.heap.size + 1, 3, none⟩ = some (.int .i64 X.val.o) := (hBX.below b1 hBX.lt).cell 3
  have x4 : Wb.cell? ⟨w.heap.size + 1, 4, none⟩ = some (.int .i64 X.val.p) := (hBX.below b1 hBX.lt).cell 4
  have x5 : Wb.cell? ⟨w.heap.size + 1, 5, none⟩ = some (.slice X.kA X.keys.length X.kc) := (hBX.below b1 hBX.lt).cell 5
  have x6 : Wb.cell? ⟨w.heap.size + 1, 6, none⟩ = some (.slice X.cA X.kids.length X.cc) := (hBX.below b1 hBX.lt).cell 6
  have u6 : Wc.cell? ⟨w.heap.size, 6, none⟩ = some (.slice T.cA T.kids.length T.cc) := (hBT.below b2 hBT.lt).cell 6
  have k0 : Wd.cell? ⟨w.heap.size, 0, none⟩ = some (.int .i64 T.val.k) := (hBT.below b3 hBT.lt).cell 0
  have k5 : Wd.cell? ⟨w.heap.size, 5, none⟩ = some (.slice T.kA T.keys.length T.kc) := (hBT.below b3 hBT.lt).cell 5
  have y5 : Wf.cell? ⟨w.heap.size, 5, none⟩ = some (.slice T.kA T.keys.length T.kc) := (hBT.below e2 hBT.lt).cell 5
  have hBTg := hBT.below bF hBT.lt
  have hBZg := hBZ.below bF hBZ.lt
  have a0 : Wg.cell? ⟨w.heap.size, 0, none⟩ = some (.int .i64 T.val.k) := hBTg.cell 0
  have a1 : Wg.cell? ⟨w.heap.size, 1, none⟩ = some (.int .i64 T.val.n) := hBTg.cell 1
  have a2 : Wg.cell? ⟨w.heap.size, 2, none⟩ = some (.string T.val.s) := hBTg.cell 2
  have a3 : Wg.cell? ⟨w.heap.size, 3, none⟩ = some (.int .i64 T.val.o) := hBTg.cell 3
  have a4 : Wg.cell? ⟨w.heap.size, 4, none⟩ = some (.int .i64 T.val.p) := hBTg.cell 4
  have a5 : Wg.cell? ⟨w.heap.size, 5, none⟩ = some (.slice T.kA T.keys.length T.kc) := hBTg.cell 5
  have a6 : Wg.cell? ⟨w.heap.size, 6, none⟩ = some (.slice T.cA T.kids.length T.cc) := hBTg.cell 6
  have z0 : Wg.cell? ⟨w.heap.size + 1 + 1, 0, none⟩ = some (.int .i64 0) := hBZg.cell 0
  have z1 : Wg.cell? ⟨w.heap.size + 1 + 1, 1, none⟩ = some (.int .i64 0) := hBZg.cell 1
  have z2 : Wg.cell? ⟨w.heap.size + 1 + 1, 2, none⟩ = some (.string ⟨#[]⟩) := hBZg.cell 2
  have z3 : Wg.cell? ⟨w.heap.size + 1 + 1, 3, none⟩ = some (.int .i64 0) := hBZg.cell 3
  have z4 : Wg.cell? ⟨w.heap.size + 1 + 1, 4, none⟩ = some (.int .i64 0) := hBZg.cell 4
  have z5 : Wg.cell? ⟨w.heap.size + 1 + 1, 5, none⟩ = some (.slice none 0 0) := hBZg.cell 5
  have z6 : Wg.cell? ⟨w.heap.size + 1 + 1, 6, none⟩ = some (.slice none 0 0) := hBZg.cell 6
  have za := hBTg.frozen
  have zz := hBZg.frozen
  obtain ⟨S3, hS3⟩ : ∃ S, (if T.cc = k then T.cA else Option.map (fun x => x.add (k * 7)) T.cA) = S := ⟨_, rfl⟩
  rw [hS3] at r3
  obtain ⟨U3, hU3⟩ : ∃ S, (if T.kc = k then T.kA else Option.map (fun x => x.add k) T.kA) = S := ⟨_, rfl⟩
  rw [hU3] at q3
  have hk9 : (k : Int) ≤ 1000 := by omega
  have hkc : (k : Int) ≤ (T.cc : Int) := by have := htc.2.1; omega
  have hkr : (k : Int) ≤ (T.kids.length : Int) := by omega
  have hmc : (T.kids.length : Int) ≤ (T.cc : Int) := by have := htc.2.1; omega
  have hyc : (k : Int) ≤ (T.kc : Int) := by have := htc.1; omega
  have hyr : (k : Int) ≤ (T.keys.length : Int) := by omega
  have hymc : (T.keys.length : Int) ≤ (T.kc : Int) := by have := htc.1; omega
  have h5 : (T.val.k == 5) = true := by rw [hv]; rfl
  have R1 := Lib.hid r1
  have R2 := Lib.hid r2
  have R3 := Lib.hid r3
  have Q1 := Lib.hid q1
  have Q2 := Lib.hid q2
  have Q3 := Lib.hid q3
  have HB := Lib.hid (And.intro hBTg hBZg)
  have HH := Lib.hid (And.intro hT (And.intro hX (And.intro hTc (And.intro hXc (And.intro hk (And.intro hn (And.intro hkey (And.intro hv hkl))))))))
  have HO := Lib.hid (And.intro owF (And.intro l3 (And.intro hb3 (And.intro bF (And.intro kw3 (And.intro m3 hsz))))))
  clear hv hkl
  clear hT hX hTc hXc hk hn hkey htc hs hBT hBX hBZ hb3 hkids hkeys hb1 hk2 owF bF l3 ow1 ow2 b1 b2 l1 b3 ow3 b3' hBTg hBZg l2 hW hsz b1a b2' hys kw1 e1' m1 g1 ow4 e1 e2 hy2 kw3 e3' m3 g3 e1a kw2 e2' m2 g2 ow5
  clear r1 r2 r3 q1 q2 q3
  rw [PT.value_eq, PT.value_eq]
  go_enter Tryd.func44, Tryd.ntmps44
  go_wp2_with (at_builtin; first
    | refine Lib.wpList_append_run (o := ⟨some 21, _, _, _, _, _⟩) _ rfl _ _ _ _ rfl _ _ rfl rfl _ _ (R1.out _) ?_
    | refine Lib.wpList_append_run (o := ⟨some 27, _, _, _, _, _⟩) _ rfl _ _ _ _ rfl _ _ rfl rfl _ _ (R2.out _) ?_
    | refine Lib.wpList_append_run (o := ⟨some 37, _, _, _, _, _⟩) _ rfl _ _ _ _ rfl _ _ rfl rfl _ _ (R3.out _) ?_
    | refine Lib.wpList_append_run (o := ⟨some 47, _, _, _, _, _⟩) _ rfl _ _ _ _ rfl _ _ rfl rfl _ _ (Q1.out _) ?_
    | refine Lib.wpList_append_run (o := ⟨some 53, _, _, _, _, _⟩) _ rfl _ _ _ _ rfl _ _ rfl rfl _ _ (Q2.out _) ?_
    | refine Lib.wpList_append_run (o := ⟨some 59, _, _, _, _, _⟩) _ rfl _ _ _ _ rfl _ _ rfl rfl _ _ (Q3.out _) ?_)
  have hZ : Blk ((Wg.setCell ⟨w.heap.size, 6, none⟩ (.slice A3 (k + 1 + (T.kids.length - k)) c3)).setCell ⟨w.heap.size, 5, none⟩ (.slice K3 (k + 1 + (T.keys.length - k)) d3)) (w.heap.size + 1 + 1) 29 #[.int .i64 0, .int .i64 0, .string ⟨#[]⟩, .int .i64 0, .int .i64 0, .slice none 0 0, .slice none 0 0] := HB.out.2.only (((Only.refl (· = w.heap.size) _).setCell rfl _).setCell rfl _) (fun e => by omega)
  refine bodyPost_ret (results_row1 Tryd.results44 _ _ (w.heap.size + 1 + 1) _ _ _ rfl (blk7 _ _ _ _ _ _ _ hZ) Tryd.underlying29 rfl (by kernel_rfl)) rfl ?_
  have hcells : PT.cellsL (T.kids.take k ++ [X] ++ T.kids.drop k) = PT.cellsL (T.kids.take k) ++ X.cells ++ PT.cellsL (T.kids.drop k) := by simp [PT.cellsL]
  have hlen : (T.kids.take k ++ [X] ++ T.kids.drop k).length = k + 1 + (T.kids.length - k) := by
    simp only [List.length_append, List.length_take, List.length_drop, List.length_singleton]
    have := HH.out.2.2.2.2.1
    omega
  have hykeys : (T.keys.take k ++ [key] ++ T.keys.drop k).map Value.string = (T.keys.map Value.string).take k ++ [Value.string key] ++ (T.keys.map Value.string).drop k := by simp [List.map_take, List.map_drop]
  have hylen : (T.keys.take k ++ [key] ++ T.keys.drop k).length = k + 1 + (T.keys.length - k) := by
    simp only [List.length_append, List.length_take, List.length_drop, List.length_singleton]
    have := HH.out.2.2.2.2.1
    have := HH.out.2.2.2.2.2.2.2.2
    omega
  refine put_done T X k key true false S w Wg _ HL.out.1 HL.out.2.1 HL.out.2.2 HH.out.2.2.1 HH.out.2.2.2.1 HH.out.2.2.2.2.2.1 ?_ HH.out.2.2.2.2.2.2.1 (T.keys.take k ++ [key] ++ T.keys.drop k) ?_ (T.kids.take k ++ [X] ++ T.kids.drop k) (by simp) K3 A3 d3 c3 _ _ ?_ (by rw [hcells, hlen]; exact HO.out.1) ?_ hlen.symm ?_ ?_ (HO.out.2.2.1.trans (HO.out.2.2.2.1.mono HO.out.2.2.1.size)) ?_
  · rw [HH.out.2.2.2.2.2.2.2.2]; exact HH.out.2.2.2.2.2.1
  · rw [if_pos HH.out.2.2.2.2.2.2.2.1]; simp
  · rw [hykeys, hylen]; exact HO.out.2.2.2.2.1
  · exact hylen.symm
  · intro q hq
    have h1 := HO.out.2.2.2.2.2.1 q hq
    have h2 := HO.out.2.2.2.2.2.2
    omega
  · intro q hq
    have h1 := HO.out.2.1 q hq
    have h2 := HO.out.2.2.2.2.2.2
    omega
  · exact (((Only.refl _ _).setCell (.inl rfl) _).setCell (.inl rfl) _).trans ((only7 _ (w.heap.size + 1 + 1) _ _ _ _ _ _ _ _ _ _ _ _ _ _).mono (fun _ _ h => .inr h))

set_option maxRecDepth 100000 in
set_option maxHeartbeats 4000000 in
theorem put_del_map (T X : PT) (k : Nat) (key : ByteArray) (S : Nat → Prop) (w : World) (hS : ∀ b, S b → b < w.heap.size) (hT' : Lies S w T) (hX' : Lies S w X) (hTc : T.Caps) (hXc : X.Caps) (hk : k < T.kids.length) (hn : T.kids.length ≤ 1000) (hkey : key.size ≤ maxLen) (hv : T.val.k = 5) (hkl : T.keys.length = T.kids.length) :
    Calls Tryd.prog 44 #[T.value, .int .i64 k, X.value, .bool false, .bool true, .string key] w (PutQ S w (T.tree.putT k X.tree false true key)) := by
  have HL := Lib.hid (And.intro hS (And.intro hT' hX'))
  have hT := hT'.here
  have hX := hX'.here
  clear hS hT' hX'
  have htc := (PT.caps_iff T).1 hTc
  have hs := hT.slot
  have hb3 : Below w.heap.size w (((w.alloc (.cells #[.int .i64 T.val.k, .int .i64 T.val.n, .string T.val.s, .int .i64 T.val.o, .int .i64 T.val.p, .slice T.kA T.keys.length T.kc, .slice T.cA T.kids.length T.cc] 29)).alloc (.cells #[.int .i64 X.val.k, .int .i64 X.val.n, .string X.val.s, .int .i64 X.val.o, .int .i64 X.val.p, .slice X.kA X.keys.length X.kc, .slice X.cA X.kids.length X.cc] 29)).alloc (.cells #[.int .i64 0, .int .i64 0, .string ⟨#[]⟩, .int .i64 0, .int .i64 0, .slice none 0 0, .slice none 0 0] 29)) := (((Below.refl _ _).alloc (Nat.le_refl _) _).alloc (by simp) _).alloc (by simp; omega) _
  obtain ⟨W, hW⟩ : ∃ W, (((w.alloc (.cells #[.int .i64 T.val.k, .int .i64 T.val.n, .string T.val.s, .int .i64 T.val.o, .int .i64 T.val.p, .slice T.kA T.keys.length T.kc, .slice T.cA T.kids.length T.cc] 29)).alloc (.cells #[.int .i64 X.val.k, .int .i64 X.val.n, .string X.val.s, .int .i64 X.val.o, .int .i64 X.val.p, .slice X.kA X.keys.length X.kc, .slice X.cA X.kids.length X.cc] 29)).alloc (.cells #[.int .i64 0, .int .i64 0, .string ⟨#[]⟩, .int .i64 0, .int .i64 0, .slice none 0 0, .slice none 0 0] 29)) = W := ⟨_, rfl⟩
  have hsz : W.heap.size = w.heap.size + 3 := by rw [← hW]; simp
  have hBT : Blk W w.heap.size 29 #[.int .i64 T.val.k, .int .i64 T.val.n, .string T.val.s, .int .i64 T.val.o, .int .i64 T.val.p, .slice T.kA T.keys.length T.kc, .slice T.cA T.kids.length T.cc] := by rw [← hW]; exact ((Blk.new _ _ _).alloc _).alloc _
  have hBX : Blk W (w.heap.size + 1) 29 #[.int .i64 X.val.k, .int .i64 X.val.n, .string X.val.s, .int .i64 X.val.o, .int .i64 X.val.p, .slice X.kA X.keys.length X.kc, .slice X.cA X.kids.length X.cc] := by rw [← hW]; exact (Blk.newer _ _ _ (by simp)).alloc _
  have hBZ : Blk W (w.heap.size + 1 + 1) 29 #[.int .i64 0, .int .i64 0, .string ⟨#[]⟩, .int .i64 0, .int .i64 0, .slice none 0 0, .slice none 0 0] := by rw [← hW]; exact Blk.newer _ _ _ (by simp)
  rw [hW] at hb3
  have hkids : SlAt W T.cA (PT.cellsL T.kids) := hs.kids.below hb3
  have hkeys : SlAt W T.kA (T.keys.map Value.string) := hs.keys.below hb3
  obtain ⟨A1, c1, Wb, r1, ow1, b1, l1, _⟩ := app_step (P := Tryd.prog) W.heap.size W 27 29 Tryd.underlying27 infoTree' rfl (by decide) none 0 0 [] (World.ownsRow_nil _ _ _ _) (Nat.le_refl _) (fun q hq => by cases hq) T.cA k T.cc (PT.cellsL (T.kids.take k)) (by rw [PT.cellsL_length, List.length_take, Nat.min_eq_left (by omega)]) (by rw [← cellsL_take]; exact hkids.take _) (one_ptL _) (by simp only [maxLen]; omega) (by omega)
  simp only [Nat.zero_add, List.nil_append] at r1 ow1 l1
  rw [← hW] at r1
  have hb1 := hb3.trans (b1.mono hb3.size)
  have ow2 := ow1
  have b2 := b1
  have l2 := l1
  have hk2 : SlAt Wb (if T.cc = k + 1 then T.cA else Option.map (fun x => x.add ((k + 1) * 7)) T.cA) (PT.cellsL (T.kids.drop (k + 1))) := by
    rw [← cellsL_drop]
    exact SlAt.from_ (hkids.below b2) T.cc (k + 1) 7 T.kids.length (PT.cellsL_length _) htc.2.1
  obtain ⟨A3, c3, Wd, r3, ow3, b3', l3, _⟩ := app_step (P := Tryd.prog) W.heap.size Wb 27 29 Tryd.underlying27 infoTree' rfl (by decide) A1 (k) c1 _ ow1 b2.size l2 _ (T.kids.length - (k + 1)) (T.cc - (k + 1)) _ (by rw [PT.cellsL_length, List.length_drop]) hk2 (one_ptL _) (by simp only [maxLen]; omega) (by omega)
  have b3 : Below W.heap.size W Wd := b2.trans b3'
  have hys : SlAt Wd T.kA (T.keys.map Value.string) := hkeys.below b3
  obtain ⟨K1, d1, We, q1, kw1, e1', m1, g1⟩ := app_step (P := Tryd.prog) W.heap.size Wd 26 9 Tryd.underlying26 infoStr' rfl (by decide) none 0 0 [] (World.ownsRow_nil _ _ _ _) b3.size (fun q hq => by cases hq) T.kA k T.kc ((T.keys.map Value.string).take k) (by rw [List.length_take, List.length_map, Nat.min_eq_left (by omega), Nat.mul_one]) (hys.take _) (fun u hu => one_cells T.keys u (List.mem_of_mem_take hu)) (by simp only [maxLen]; omega) (by omega)
  have ow4 := ow3.kept g1 (own_own_ne ow3 (World.ownsRow_nil Wd 0 9 1) (by decide))
  simp only [Nat.zero_add, List.nil_append] at q1 kw1 m1
  have e1 : Below W.heap.size W We := b3.trans e1'
  have e2 := e1
  have hy2 : SlAt We (if T.kc = k + 1 then T.kA else Option.map (fun x => x.add (k + 1)) T.kA) ((T.keys.map Value.string).drop (k + 1)) := by
    have := SlAt.from_ (hkeys.below e2) T.kc (k + 1) 1 T.keys.length (by simp) htc.1
    simpa only [Nat.mul_one] using this
  obtain ⟨K3, d3, Wg, q3, kw3, e3', m3, g3⟩ := app_step (P := Tryd.prog) W.heap.size We 26 9 Tryd.underlying26 infoStr' rfl (by decide) K1 (k) d1 _ kw1 e2.size m1 _ (T.keys.length - (k + 1)) (T.kc - (k + 1)) _ (by rw [List.length_drop, List.length_map, Nat.mul_one]) hy2 (fun u hu => one_cells T.keys u (List.mem_of_mem_drop hu)) (by simp only [maxLen]; omega) (by omega)
  have owF := ow4.kept g3 (own_own_ne ow4 kw1 (by decide))
  have bF : Below W.heap.size W Wg := e2.trans e3'
  have t6 : (((w.alloc (.cells #[.int .i64 T.val.k, .int .i64 T.val.n, .string T.val.s, .int .i64 T.val.o, .int .i64 T.val.p, .slice T.kA T.keys.length T.kc, .slice T.cA T.kids.length T.cc] 29)).alloc (.cells #[.int .i64 X.val.k, .int .i64 X.val.n, .string X.val.s, .int .i64 X.val.o, .int .i64 X.val.p, .slice X.kA X.keys.length X.kc, .slice X.cA X.kids.length X.cc] 29)).alloc (.cells #[.int .i64 0, .int .i64 0, .string ⟨#[]⟩, .int .i64 0, .int .i64 0, .slice none 0 0, .slice none 0 0] 29)).cell? ⟨w.heap.size, 6, none⟩ = some (.slice T.cA T.kids.length T.cc) := by rw [hW]; exact hBT.cell 6
  have u6 : Wb.cell? ⟨w.heap.size, 6, none⟩ = some (.slice T.cA T.kids.length T.cc) := (hBT.below b2 hBT.lt).cell 6
  have k0 : Wd.cell? ⟨w.heap.size, 0, none⟩ = some (.int .i64 T.val.k) := (hBT.below b3 hBT.lt).cell 0
  have k5 : Wd.cell? ⟨w.heap.size, 5, none⟩ = some (.slice T.kA T.keys.length T.kc) := (hBT.below b3 hBT.lt).cell 5
  have y5 : We.cell? ⟨w.heap.size, 5, none⟩ = some (.slice T.kA T.keys.length T.kc) := (hBT.below e2 hBT.lt).cell 5
  have hBTg := hBT.below bF hBT.lt
  have hBZg := hBZ.below bF hBZ.lt
  have a0 : Wg.cell? ⟨w.heap.size, 0, none⟩ = some (.int .i64 T.val.k) := hBTg.cell 0
  have a1 : Wg.cell? ⟨w.heap.size, 1, none⟩ = some (.int .i64 T.val.n) := hBTg.cell 1
  have a2 : Wg.cell? ⟨w.heap.size, 2, none⟩ = some (.string T.val.s) := hBTg.cell 2
  have a3 : Wg.cell? ⟨w.heap.size, 3, none⟩ = some (.int .i64 T.val.o) := hBTg.cell 3
  have a4 : Wg.cell? ⟨w.heap.size, 4, none⟩ = some (.int .i64 T.val.p) := hBTg.cell 4
  have a5 : Wg.cell? ⟨w.heap.size, 5, none⟩ = some (.slice T.kA T.keys.length T.kc) := hBTg.cell 5
  have a6 : Wg.cell? ⟨w.heap.size, 6, none⟩ = some (.slice T.cA T.kids.length T.cc) := hBTg.cell 6
  have z0 : Wg.cell? ⟨w.heap.size + 1 + 1, 0, none⟩ = some (.int .i64 0) := hBZg.cell 0
  have z1 : Wg.cell? ⟨w.heap.size + 1 + 1, 1, none⟩ = some (.int .i64 0) := hBZg.cell 1
  have z2 : Wg.cell? ⟨w.heap.size + 1 + 1, 2, none⟩ = some (.string ⟨#[]⟩) := hBZg.cell 2
  have z3 : Wg.cell? ⟨w.heap.size + 1 + 1, 3, none⟩ = some (.int .i64 0) := hBZg.cell 3
  have z4 : Wg.cell? ⟨w.heap.size + 1 + 1, 4, none⟩ = some (.int .i64 0) := hBZg.cell 4
  have z5 : Wg.cell? ⟨w.heap.size + 1 + 1, 5, none⟩ = some (.slice none 0 0) := hBZg.cell 5
  have z6 : Wg.cell? ⟨w.heap.size + 1 + 1, 6, none⟩ = some (.slice none 0 0) := hBZg.cell 6
  have za := hBTg.frozen
  have zz := hBZg.frozen
  obtain ⟨S3, hS3⟩ : ∃ S, (if T.cc = k + 1 then T.cA else Option.map (fun x => x.add ((k + 1) * 7)) T.cA) = S := ⟨_, rfl⟩
  rw [hS3] at r3
  obtain ⟨U3, hU3⟩ : ∃ S, (if T.kc = k + 1 then T.kA else Option.map (fun x => x.add (k + 1)) T.kA) = S := ⟨_, rfl⟩
  rw [hU3] at q3
  have hV3 : (if T.kc = k + 1 then T.kA else Option.map (fun x => ({ block := x.block, off := x.off + (k + 1), spot := none } : Addr)) T.kA) = U3 := by rw [← hU3]; simp only [Addr.add_succ']
  have hk9 : (k : Int) ≤ 1000 := by omega
  have hkc : (k : Int) ≤ (T.cc : Int) := by have := htc.2.1; omega
  have hkr : ((k : Int) + 1 : Int) ≤ (T.kids.length : Int) := by omega
  have hmc : (T.kids.length : Int) ≤ (T.cc : Int) := by have := htc.2.1; omega
  have hyc : (k : Int) ≤ (T.kc : Int) := by have := htc.1; omega
  have hyr : ((k : Int) + 1 : Int) ≤ (T.keys.length : Int) := by omega
  have hymc : (T.keys.length : Int) ≤ (T.kc : Int) := by have := htc.1; omega
  have h5 : (T.val.k == 5) = true := by rw [hv]; rfl
  have R1 := Lib.hid r1
  have R3 := Lib.hid r3
  have Q1 := Lib.hid q1
  have Q3 := Lib.hid q3
  have HB := Lib.hid (And.intro hBTg hBZg)
  have HH := Lib.hid (And.intro hT (And.intro hX (And.intro hTc (And.intro hXc (And.intro hk (And.intro hn (And.intro hkey (And.intro hv hkl))))))))
  have HO := Lib.hid (And.intro owF (And.intro l3 (And.intro hb3 (And.intro bF (And.intro kw3 (And.intro m3 hsz))))))
  clear hv hkl
  clear hT hX hTc hXc hk hn hkey htc hs hBT hBX hBZ hb3 hkids hkeys hb1 hk2 owF bF l3 ow1 ow2 b1 b2 l1 b3 ow3 b3' hBTg hBZg l2 hW hsz hys kw1 e1' m1 g1 ow4 e1 e2 hy2 kw3 e3' m3 g3
  clear r1 r3 q1 q3
  rw [PT.value_eq, PT.value_eq]
  go_enter Tryd.func44, Tryd.ntmps44
  go_wp2_with (at_builtin; first
    | refine Lib.wpList_append_run (o := ⟨some 21, _, _, _, _, _⟩) _ rfl _ _ _ _ rfl _ _ rfl rfl _ _ (R1.out _) ?_
    | refine Lib.wpList_append_run (o := ⟨some 37, _, _, _, _, _⟩) _ rfl _ _ _ _ rfl _ _ rfl rfl _ _ (R3.out _) ?_
    | refine Lib.wpList_append_run (o := ⟨some 47, _, _, _, _, _⟩) _ rfl _ _ _ _ rfl _ _ rfl rfl _ _ (Q1.out _) ?_
    | refine Lib.wpList_append_run (o := ⟨some 59, _, _, _, _, _⟩) _ rfl _ _ _ _ rfl _ _ rfl rfl _ _ (Q3.out _) ?_)
  have hZ : Blk ((Wg.setCell ⟨w.heap.size, 6, none⟩ (.slice A3 (k + (T.kids.length - (k + 1))) c3)).setCell ⟨w.heap.size, 5, none⟩ (.slice K3 (k + (T.keys.length - (k + 1))) d3)) (w.heap.size + 1 + 1) 29 #[.int .i64 0, .int .i64 0, .string ⟨#[]⟩, .int .i64 0, .int .i64 0, .slice none 0 0, .slice none 0 0] := HB.out.2.only (((Only.refl (· = w.heap.size) _).setCell rfl _).setCell rfl _) (fun e => by omega)
  refine bodyPost_ret (results_row1 Tryd.results44 _ _ (w.heap.size + 1 + 1) _ _ _ rfl (blk7 _ _ _ _ _ _ _ hZ) Tryd.underlying29 rfl (by kernel_rfl)) rfl ?_
  have hcells : PT.cellsL (T.kids.take k ++ T.kids.drop (k + 1)) = PT.cellsL (T.kids.take k) ++ PT.cellsL (T.kids.drop (k + 1)) := by simp [PT.cellsL]
  have hlen : (T.kids.take k ++ T.kids.drop (k + 1)).length = k + (T.kids.length - (k + 1)) := by
    simp only [List.length_append, List.length_take, List.length_drop, List.length_singleton]
    have := HH.out.2.2.2.2.1
    omega
  have hykeys : (T.keys.take k ++ T.keys.drop (k + 1)).map Value.string = (T.keys.map Value.string).take k ++ (T.keys.map Value.string).drop (k + 1) := by simp [List.map_take, List.map_drop]
  have hylen : (T.keys.take k ++ T.keys.drop (k + 1)).length = k + (T.keys.length - (k + 1)) := by
    simp only [List.length_append, List.length_take, List.length_drop, List.length_singleton]
    have := HH.out.2.2.2.2.1
    have := HH.out.2.2.2.2.2.2.2.2
    omega
  refine put_done T X k key false true S w Wg _ HL.out.1 HL.out.2.1 HL.out.2.2 HH.out.2.2.1 HH.out.2.2.2.1 HH.out.2.2.2.2.2.1 ?_ HH.out.2.2.2.2.2.2.1 (T.keys.take k ++ T.keys.drop (k + 1)) ?_ (T.kids.take k ++ T.kids.drop (k + 1)) (by simp) K3 A3 d3 c3 _ _ ?_ (by rw [hcells, hlen]; exact HO.out.1) ?_ hlen.symm ?_ ?_ (HO.out.2.2.1.trans (HO.out.2.2.2.1.mono HO.out.2.2.1.size)) ?_
  · rw [HH.out.2.2.2.2.2.2.2.2]; exact HH.out.2.2.2.2.2.1
  · rw [if_pos HH.out.2.2.2.2.2.2.2.1]; simp
  · rw [hykeys, hylen]; exact HO.out.2.2.2.2.1
  · exact hylen.symm
  · intro q hq
    have h1 := HO.out.2.2.2.2.2.1 q hq
    have h2 := HO.out.2.2.2.2.2.2
    omega
  · intro q hq
    have h1 := HO.out.2.1 q hq
    have h2 := HO.out.2.2.2.2.2.2
    omega
  · exact (((Only.refl _ _).setCell (.inl rfl) _).setCell (.inl rfl) _).trans ((only7 _ (w.heap.size + 1 + 1) _ _ _ _ _ _ _ _ _ _ _ _ _ _).mono (fun _ _ h => .inr h))

set_option maxRecDepth 100000 in
set_option maxHeartbeats 4000000 in
theorem put_set (T X : PT) (k : Nat) (key : ByteArray) (S : Nat → Prop) (w : World) (hS : ∀ b, S b → b < w.heap.size) (hT' : Lies S w T) (hX' : Lies S w X) (hTc : T.Caps) (hXc : X.Caps) (hk : k < T.kids.length) (hn : T.kids.length ≤ 1000) (hkey : key.size ≤ maxLen) (hv : (T.val.k == 5) = false) (hkn : T.keys.length ≤ 1000) :
    Calls Tryd.prog 44 #[T.value, .int .i64 k, X.value, .bool false, .bool false, .string key] w (PutQ S w (T.tree.putT k X.tree false false key)) := by
  have HL := Lib.hid (And.intro hS (And.intro hT' hX'))
  have hT := hT'.here
  have hX := hX'.here
  clear hS hT' hX'
  have htc := (PT.caps_iff T).1 hTc
  have hs := hT.slot
  have hb3 : Below w.heap.size w (((w.alloc (.cells #[.int .i64 T.val.k, .int .i64 T.val.n, .string T.val.s, .int .i64 T.val.o, .int .i64 T.val.p, .slice T.kA T.keys.length T.kc, .slice T.cA T.kids.length T.cc] 29)).alloc (.cells #[.int .i64 X.val.k, .int .i64 X.val.n, .string X.val.s, .int .i64 X.val.o, .int .i64 X.val.p, .slice X.kA X.keys.length X.kc, .slice X.cA X.kids.length X.cc] 29)).alloc (.cells #[.int .i64 0, .int .i64 0, .string ⟨#[]⟩, .int .i64 0, .int .i64 0, .slice none 0 0, .slice none 0 0] 29)) := (((Below.refl _ _).alloc (Nat.le_refl _) _).alloc (by simp) _).alloc (by simp; omega) _
  obtain ⟨W, hW⟩ : ∃ W, (((w.alloc (.cells #[.int .i64 T.val.k, .int .i64 T.val.n, .string T.val.s, .int .i64 T.val.o, .int .i64 T.val.p, .slice T.kA T.keys.length T.kc, .slice T.cA T.kids.length T.cc] 29)).alloc (.cells #[.int .i64 X.val.k, .int .i64 X.val.n, .string X.val.s, .int .i64 X.val.o, .int .i64 X.val.p, .slice X.kA X.keys.length X.kc, .slice X.cA X.kids.length X.cc] 29)).alloc (.cells #[.int .i64 0, .int .i64 0, .string ⟨#[]⟩, .int .i64 0, .int .i64 0, .slice none 0 0, .slice none 0 0] 29)) = W := ⟨_, rfl⟩
  have hsz : W.heap.size = w.heap.size + 3 := by rw [← hW]; simp
  have hBT : Blk W w.heap.size 29 #[.int .i64 T.val.k, .int .i64 T.val.n, .string T.val.s, .int .i64 T.val.o, .int .i64 T.val.p, .slice T.kA T.keys.length T.kc, .slice T.cA T.kids.length T.cc] := by rw [← hW]; exact ((Blk.new _ _ _).alloc _).alloc _
  have hBX : Blk W (w.heap.size + 1) 29 #[.int .i64 X.val.k, .int .i64 X.val.n, .string X.val.s, .int .i64 X.val.o, .int .i64 X.val.p, .slice X.kA X.keys.length X.kc, .slice X.cA X.kids.length X.cc] := by rw [← hW]; exact (Blk.newer _ _ _ (by simp)).alloc _
  have hBZ : Blk W (w.heap.size + 1 + 1) 29 #[.int .i64 0, .int .i64 0, .string ⟨#[]⟩, .int .i64 0, .int .i64 0, .slice none 0 0, .slice none 0 0] := by rw [← hW]; exact Blk.newer _ _ _ (by simp)
  rw [hW] at hb3
  have hkids : SlAt W T.cA (PT.cellsL T.kids) := hs.kids.below hb3
  have hkeys : SlAt W T.kA (T.keys.map Value.string) := hs.keys.below hb3
  obtain ⟨A1, c1, Wb, r1, ow1, b1, l1, _⟩ := app_step (P := Tryd.prog) W.heap.size W 27 29 Tryd.underlying27 infoTree' rfl (by decide) none 0 0 [] (World.ownsRow_nil _ _ _ _) (Nat.le_refl _) (fun q hq => by cases hq) T.cA k T.cc (PT.cellsL (T.kids.take k)) (by rw [PT.cellsL_length, List.length_take, Nat.min_eq_left (by omega)]) (by rw [← cellsL_take]; exact hkids.take _) (one_ptL _) (by simp only [maxLen]; omega) (by omega)
  simp only [Nat.zero_add, List.nil_append] at r1 ow1 l1
  rw [← hW] at r1
  have hb1 := hb3.trans (b1.mono hb3.size)
  have b1a : Below W.heap.size W (Wb.alloc (.cells #[.int .i64 X.val.k, .int .i64 X.val.n, .string X.val.s, .int .i64 X.val.o, .int .i64 X.val.p, .slice X.kA X.keys.length X.kc, .slice X.cA X.kids.length X.cc] 29)) := b1.alloc b1.size _
  obtain ⟨A2, c2, Wc, r2, ow2, b2', l2, _⟩ := app_step (P := Tryd.prog) W.heap.size (Wb.alloc (.cells #[.int .i64 X.val.k, .int .i64 X.val.n, .string X.val.s, .int .i64 X.val.o, .int .i64 X.val.p, .slice X.kA X.keys.length X.kc, .slice X.cA X.kids.length X.cc] 29)) 27 29 Tryd.underlying27 infoTree' rfl (by decide) A1 k c1 _ (ow1.alloc _) (b1a.size) l1 (some ⟨Wb.heap.size, 0, none⟩) 1 1 X.cells (by rw [PT.cells_length]) (SlAt.of_blk (Blk.new _ _ _)) (one_pt _) (by simp only [maxLen]; omega) (by omega)
  have b2 : Below W.heap.size W Wc := b1a.trans b2'
  have hk2 : SlAt Wc (if T.cc = k + 1 then T.cA else Option.map (fun x => x.add ((k + 1) * 7)) T.cA) (PT.cellsL (T.kids.drop (k + 1))) := by
    rw [← cellsL_drop]
    exact SlAt.from_ (hkids.below b2) T.cc (k + 1) 7 T.kids.length (PT.cellsL_length _) htc.2.1
  obtain ⟨A3, c3, Wd, r3, ow3, b3', l3, _⟩ := app_step (P := Tryd.prog) W.heap.size Wc 27 29 Tryd.underlying27 infoTree' rfl (by decide) A2 (k + 1) c2 _ ow2 b2.size l2 _ (T.kids.length - (k + 1)) (T.cc - (k + 1)) _ (by rw [PT.cellsL_length, List.length_drop]) hk2 (one_ptL _) (by simp only [maxLen]; omega) (by omega)
  have b3 : Below W.heap.size W Wd := b2.trans b3'
  have owF := ow3
  have bF := b3
  have t6 : (((w.alloc (.cells #[.int .i64 T.val.k, .int .i64 T.val.n, .string T.val.s, .int .i64 T.val.o, .int .i64 T.val.p, .slice T.kA T.keys.length T.kc, .slice T.cA T.kids.length T.cc] 29)).alloc (.cells #[.int .i64 X.val.k, .int .i64 X.val.n, .string X.val.s, .int .i64 X.val.o, .int .i64 X.val.p, .slice X.kA X.keys.length X.kc, .slice X.cA X.kids.length X.cc] 29)).alloc (.cells #[.int .i64 0, .int .i64 0, .string ⟨#[]⟩, .int .i64 0, .int .i64 0, .slice none 0 0, .slice none 0 0] 29)).cell? ⟨w.heap.size, 6, none⟩ = some (.slice T.cA T.kids.length T.cc) := by rw [hW]; exact hBT.cell 6
  have x0 : Wb.cell? ⟨w.heap.size + 1, 0, none⟩ = some (.int .i64 X.val.k) := (hBX.below b1 hBX.lt).cell 0
  have x1 : Wb.cell? ⟨w.heap.size + 1, 1, none⟩ = some (.int .i64 X.val.n) := (hBX.below b1 hBX.lt).cell 1
  have x2 : Wb.cell? ⟨w.heap.size + 1, 2, none⟩ = some (.string X.val.s) := (hBX.below b1 hBX.lt).cell 2
  have x3 : Wb.cell? ⟨w.heap.size + 1, 3, none⟩ = some (.int .i64 X.val.o) := (hBX.below b1 hBX.lt).cell 3
  have x4 : Wb.cell? ⟨w.heap.size + 1, 4, none⟩ = some (.int .i64 X.val.p) := (hBX.below b1 hBX.lt).cell 4
  have x5 : Wb.cell? ⟨w.heap.size + 1, 5, none⟩ = some (.slice X.kA X.keys.length X.kc) := (hBX.below b1 hBX.lt).cell 5
  have x6 : Wb.cell? ⟨w.heap.size + 1, 6, none⟩ = some (.slice X.cA X.kids.length X.cc) := (hBX.below b1 hBX.lt).cell 6
  have u6 : Wc.cell? ⟨w.heap.size, 6, none⟩ = some (.slice T.cA T.kids.length T.cc) := (hBT.below b2 hBT.lt).cell 6
  have hBTg := hBT.below bF hBT.lt
  have hBZg := hBZ.below bF hBZ.lt
  have a0 : Wd.cell? ⟨w.heap.size, 0, none⟩ = some (.int .i64 T.val.k) := hBTg.cell 0
  have a1 : Wd.cell? ⟨w.heap.size, 1, none⟩ = some (.int .i64 T.val.n) := hBTg.cell 1
  have a2 : Wd.cell? ⟨w.heap.size, 2, none⟩ = some (.string T.val.s) := hBTg.cell 2
  have a3 : Wd.cell? ⟨w.heap.size, 3, none⟩ = some (.int .i64 T.val.o) := hBTg.cell 3
  have a4 : Wd.cell? ⟨w.heap.size, 4, none⟩ = some (.int .i64 T.val.p) := hBTg.cell 4
  have a5 : Wd.cell? ⟨w.heap.size, 5, none⟩ = some (.slice T.kA T.keys.length T.kc) := hBTg.cell 5
  have a6 : Wd.cell? ⟨w.heap.size, 6, none⟩ = some (.slice T.cA T.kids.length T.cc) := hBTg.cell 6
  have z0 : Wd.cell? ⟨w.heap.size + 1 + 1, 0, none⟩ = some (.int .i64 0) := hBZg.cell 0
  have z1 : Wd.cell? ⟨w.heap.size + 1 + 1, 1, none⟩ = some (.int .i64 0) := hBZg.cell 1
  have z2 : Wd.cell? ⟨w.heap.size + 1 + 1, 2, none⟩ = some (.string ⟨#[]⟩) := hBZg.cell 2
  have z3 : Wd.cell? ⟨w.heap.size + 1 + 1, 3, none⟩ = some (.int .i64 0) := hBZg.cell 3
  have z4 : Wd.cell? ⟨w.heap.size + 1 + 1, 4, none⟩ = some (.int .i64 0) := hBZg.cell 4
  have z5 : Wd.cell? ⟨w.heap.size + 1 + 1, 5, none⟩ = some (.slice none 0 0) := hBZg.cell 5
  have z6 : Wd.cell? ⟨w.heap.size + 1 + 1, 6, none⟩ = some (.slice none 0 0) := hBZg.cell 6
  have za := hBTg.frozen
  have zz := hBZg.frozen
  obtain ⟨S3, hS3⟩ : ∃ S, (if T.cc = k + 1 then T.cA else Option.map (fun x => x.add ((k + 1) * 7)) T.cA) = S := ⟨_, rfl⟩
  rw [hS3] at r3
  have hk9 : (k : Int) ≤ 1000 := by omega
  have hkc : (k : Int) ≤ (T.cc : Int) := by have := htc.2.1; omega
  have hkr : ((k : Int) + 1 : Int) ≤ (T.kids.length : Int) := by omega
  have hmc : (T.kids.length : Int) ≤ (T.cc : Int) := by have := htc.2.1; omega
  have R1 := Lib.hid r1
  have R2 := Lib.hid r2
  have R3 := Lib.hid r3
  have HK := Lib.hid hkn
  clear hkn
  have HB := Lib.hid (And.intro hBTg hBZg)
  have HH := Lib.hid (And.intro hT (And.intro hX (And.intro hTc (And.intro hXc (And.intro hk (And.intro hn (And.intro hkey hv)))))))
  have HO := Lib.hid (And.intro owF (And.intro l3 (And.intro hb3 (And.intro bF hsz))))
  clear hT hX hTc hXc hk hn hkey htc hs hBT hBX hBZ hb3 hkids hkeys hb1 hk2 owF bF l3 ow1 ow2 b1 b2 l1 b3 ow3 b3' hBTg hBZg l2 hW hsz b1a b2'
  clear r1 r2 r3
  rw [PT.value_eq, PT.value_eq]
  go_enter Tryd.func44, Tryd.ntmps44
  go_wp2_with (at_builtin; first
    | refine Lib.wpList_append_run (o := ⟨some 21, _, _, _, _, _⟩) _ rfl _ _ _ _ rfl _ _ rfl rfl _ _ (R1.out _) ?_
    | refine Lib.wpList_append_run (o := ⟨some 27, _, _, _, _, _⟩) _ rfl _ _ _ _ rfl _ _ rfl rfl _ _ (R2.out _) ?_
    | refine Lib.wpList_append_run (o := ⟨some 37, _, _, _, _, _⟩) _ rfl _ _ _ _ rfl _ _ rfl rfl _ _ (R3.out _) ?_)
  have hZ : Blk ((Wd.setCell ⟨w.heap.size, 6, none⟩ (.slice A3 (k + 1 + (T.kids.length - (k + 1))) c3)).setCell ⟨w.heap.size, 5, none⟩ (.slice none 0 0)) (w.heap.size + 1 + 1) 29 #[.int .i64 0, .int .i64 0, .string ⟨#[]⟩, .int .i64 0, .int .i64 0, .slice none 0 0, .slice none 0 0] := HB.out.2.only (((Only.refl (· = w.heap.size) _).setCell rfl _).setCell rfl _) (fun e => by omega)
  refine bodyPost_ret (results_row1 Tryd.results44 _ _ (w.heap.size + 1 + 1) _ _ _ rfl (blk7 _ _ _ _ _ _ _ hZ) Tryd.underlying29 rfl (by kernel_rfl)) rfl ?_
  have hcells : PT.cellsL (T.kids.take k ++ [X] ++ T.kids.drop (k + 1)) = PT.cellsL (T.kids.take k) ++ X.cells ++ PT.cellsL (T.kids.drop (k + 1)) := by simp [PT.cellsL]
  have hlen : (T.kids.take k ++ [X] ++ T.kids.drop (k + 1)).length = k + 1 + (T.kids.length - (k + 1)) := by
    simp only [List.length_append, List.length_take, List.length_drop, List.length_singleton]
    have := HH.out.2.2.2.2.1
    omega
  refine put_done T X k key false false S w Wd _ HL.out.1 HL.out.2.1 HL.out.2.2 HH.out.2.2.1 HH.out.2.2.2.1 HH.out.2.2.2.2.2.1 ?_ HH.out.2.2.2.2.2.2.1 [] ?_ (T.kids.take k ++ [X] ++ T.kids.drop (k + 1)) (by simp) none A3 0 c3 _ _ ?_ (by rw [hcells, hlen]; exact HO.out.1) ?_ hlen.symm ?_ ?_ (HO.out.2.2.1.trans (HO.out.2.2.2.1.mono HO.out.2.2.1.size)) ?_
  · exact HK.out
  · rw [if_neg (by have := HH.out.2.2.2.2.2.2.2; simpa using this)]
  · exact World.ownsRow_nil _ _ _ _
  · rfl
  · intro q hq; cases hq
  · intro q hq
    have h1 := HO.out.2.1 q hq
    have h2 := HO.out.2.2.2.2
    omega
  · exact (((Only.refl _ _).setCell (.inl rfl) _).setCell (.inl rfl) _).trans ((only7 _ (w.heap.size + 1 + 1) _ _ _ _ _ _ _ _ _ _ _ _ _ _).mono (fun _ _ h => .inr h))

set_option maxRecDepth 100000 in
set_option maxHeartbeats 4000000 in
theorem put_ins (T X : PT) (k : Nat) (key : ByteArray) (S : Nat → Prop) (w : World) (hS : ∀ b, S b → b < w.heap.size) (hT' : Lies S w T) (hX' : Lies S w X) (hTc : T.Caps) (hXc : X.Caps) (hk : k ≤ T.kids.length) (hn : T.kids.length ≤ 1000) (hkey : key.size ≤ maxLen) (hv : (T.val.k == 5) = false) (hkn : T.keys.length ≤ 1000) :
    Calls Tryd.prog 44 #[T.value, .int .i64 k, X.value, .bool true, .bool false, .string key] w (PutQ S w (T.tree.putT k X.tree true false key)) := by
  have HL := Lib.hid (And.intro hS (And.intro hT' hX'))
  have hT := hT'.here
  have hX := hX'.here
  clear hS hT' hX'
  have htc := (PT.caps_iff T).1 hTc
  have hs := hT.slot
  have hb3 : Below w.heap.size w (((w.alloc (.cells #[.int .i64 T.val.k, .int .i64 T.val.n, .string T.val.s, .int .i64 T.val.o, .int .i64 T.val.p, .slice T.kA T.keys.length T.kc, .slice T.cA T.kids.length T.cc] 29)).alloc (.cells #[.int .i64 X.val.k, .int .i64 X.val.n, .string X.val.s, .int .i64 X.val.o, .int .i64 X.val.p, .slice X.kA X.keys.length X.kc, .slice X.cA X.kids.length X.cc] 29)).alloc (.cells #[.int .i64 0, .int .i64 0, .string ⟨#[]⟩, .int .i64 0, .int .i64 0, .slice none 0 0, .slice none 0 0] 29)) := (((Below.refl _ _).alloc (Nat.le_refl _) _).alloc (by simp) _).alloc (by simp; omega) _
  obtain ⟨W, hW⟩ : ∃ W, (((w.alloc (.cells #[.int .i64 T.val.k, .int .i64 T.val.n, .string T.val.s, .int .i64 T.val.o, .int .i64 T.val.p, .slice T.kA T.keys.length T.kc, .slice T.cA T.kids.length T.cc] 29)).alloc (.cells #[.int .i64 X.val.k, .int .i64 X.val.n, .string X.val.s, .int .i64 X.val.o, .int .i64 X.val.p, .slice X.kA X.keys.length X.kc, .slice X.cA X.kids.length X.cc] 29)).alloc (.cells #[.int .i64 0, .int .i64 0, .string ⟨#[]⟩, .int .i64 0, .int .i64 0, .slice none 0 0, .slice none 0 0] 29)) = W := ⟨_, rfl⟩
  have hsz : W.heap.size = w.heap.size + 3 := by rw [← hW]; simp
  have hBT : Blk W w.heap.size 29 #[.int .i64 T.val.k, .int .i64 T.val.n, .string T.val.s, .int .i64 T.val.o, .int .i64 T.val.p, .slice T.kA T.keys.length T.kc, .slice T.cA T.kids.length T.cc] := by rw [← hW]; exact ((Blk.new _ _ _).alloc _).alloc _
  have hBX : Blk W (w.heap.size + 1) 29 #[.int .i64 X.val.k, .int .i64 X.val.n, .string X.val.s, .int .i64 X.val.o, .int .i64 X.val.p, .slice X.kA X.keys.length X.kc, .slice X.cA X.kids.length X.cc] := by rw [← hW]; exact (Blk.newer _ _ _ (by simp)).alloc _
  have hBZ : Blk W (w.heap.size + 1 + 1) 29 #[.int .i64 0, .int .i64 0, .string ⟨#[]⟩, .int .i64 0, .int .i64 0, .slice none 0 0, .slice none 0 0] := by rw [← hW]; exact Blk.newer _ _ _ (by simp)
  rw [hW] at hb3
  have hkids : SlAt W T.cA (PT.cellsL T.kids) := hs.kids.below hb3
  have hkeys : SlAt W T.kA (T.keys.map Value.string) := hs.keys.below hb3
  obtain ⟨A1, c1, Wb, r1, ow1, b1, l1, _⟩ := app_step (P := Tryd.prog) W.heap.size W 27 29 Tryd.underlying27 infoTree' rfl (by decide) none 0 0 [] (World.ownsRow_nil _ _ _ _) (Nat.le_refl _) (fun q hq => by cases hq) T.cA k T.cc (PT.cellsL (T.kids.take k)) (by rw [PT.cellsL_length, List.length_take, Nat.min_eq_left (by omega)]) (by rw [← cellsL_take]; exact hkids.take _) (one_ptL _) (by simp only [maxLen]; omega) (by omega)
  simp only [Nat.zero_add, List.nil_append] at r1 ow1 l1
  rw [← hW] at r1
  have hb1 := hb3.trans (b1.mono hb3.size)
  have b1a : Below W.heap.size W (Wb.alloc (.cells #[.int .i64 X.val.k, .int .i64 X.val.n, .string X.val.s, .int .i64 X.val.o, .int .i64 X.val.p, .slice X.kA X.keys.length X.kc, .slice X.cA X.kids.length X.cc] 29)) := b1.alloc b1.size _
  obtain ⟨A2, c2, Wc, r2, ow2, b2', l2, _⟩ := app_step (P := Tryd.prog) W.heap.size (Wb.alloc (.cells #[.int .i64 X.val.k, .int .i64 X.val.n, .string X.val.s, .int .i64 X.val.o, .int .i64 X.val.p, .slice X.kA X.keys.length X.kc, .slice X.cA X.kids.length X.cc] 29)) 27 29 Tryd.underlying27 infoTree' rfl (by decide) A1 k c1 _ (ow1.alloc _) (b1a.size) l1 (some ⟨Wb.heap.size, 0, none⟩) 1 1 X.cells (by rw [PT.cells_length]) (SlAt.of_blk (Blk.new _ _ _)) (one_pt _) (by simp only [maxLen]; omega) (by omega)
  have b2 : Below W.heap.size W Wc := b1a.trans b2'
  have hk2 : SlAt Wc (if T.cc = k then T.cA else Option.map (fun x => x.add (k * 7)) T.cA) (PT.cellsL (T.kids.drop k)) := by
    rw [← cellsL_drop]
    exact SlAt.from_ (hkids.below b2) T.cc k 7 T.kids.length (PT.cellsL_length _) htc.2.1
  obtain ⟨A3, c3, Wd, r3, ow3, b3', l3, _⟩ := app_step (P := Tryd.prog) W.heap.size Wc 27 29 Tryd.underlying27 infoTree' rfl (by decide) A2 (k + 1) c2 _ ow2 b2.size l2 _ (T.kids.length - k) (T.cc - k) _ (by rw [PT.cellsL_length, List.length_drop]) hk2 (one_ptL _) (by simp only [maxLen]; omega) (by omega)
  have b3 : Below W.heap.size W Wd := b2.trans b3'
  have owF := ow3
  have bF := b3
  have t6 : (((w.alloc (.cells #[.int .i64 T.val.k, .int .i64 T.val.n, .string T.val.s, .int .i64 T.val.o, .int .i64 T.val.p, .slice T.kA T.keys.length T.kc, .slice T.cA T.kids.length T.cc] 29)).alloc (.cells #[.int .i64 X.val.k, .int .i64 X.val.n, .string X.val.s, .int .i64 X.val.o, .int .i64 X.val.p, .slice X.kA X.keys.length X.kc, .slice X.cA X.kids.length X.cc] 29)).alloc (.cells #[.int .i64 0, .int .i64 0, .string ⟨#[]⟩, .int .i64 0, .int .i64 0, .slice none 0 0, .slice none 0 0] 29)).cell? ⟨w.heap.size, 6, none⟩ = some (.slice T.cA T.kids.length T.cc) := by rw [hW]; exact hBT.cell 6
  have x0 : Wb.cell? ⟨w.heap.size + 1, 0, none⟩ = some (.int .i64 X.val.k) := (hBX.below b1 hBX.lt).cell 0
  have x1 : Wb.cell? ⟨w.heap.size + 1, 1, none⟩ = some (.int .i64 X.val.n) := (hBX.below b1 hBX.lt).cell 1
  have x2 : Wb.cell? ⟨w.heap.size + 1, 2, none⟩ = some (.string X.val.s) := (hBX.below b1 hBX.lt).cell 2
  have x3 : Wb.cell? ⟨w.heap.size + 1, 3, none⟩ = some (.int .i64 X.val.o) := (hBX.below b1 hBX.lt).cell 3
  have x4 : Wb.cell? ⟨w.heap.size + 1, 4, none⟩ = some (.int .i64 X.val.p) := (hBX.below b1 hBX.lt).cell 4
  have x5 : Wb.cell? ⟨w.heap.size + 1, 5, none⟩ = some (.slice X.kA X.keys.length X.kc) := (hBX.below b1 hBX.lt).cell 5
  have x6 : Wb.cell? ⟨w.heap.size + 1, 6, none⟩ = some (.slice X.cA X.kids.length X.cc) := (hBX.below b1 hBX.lt).cell 6
  have u6 : Wc.cell? ⟨w.heap.size, 6, none⟩ = some (.slice T.cA T.kids.length T.cc) := (hBT.below b2 hBT.lt).cell 6
  have hBTg := hBT.below bF hBT.lt
  have hBZg := hBZ.below bF hBZ.lt
  have a0 : Wd.cell? ⟨w.heap.size, 0, none⟩ = some (.int .i64 T.val.k) := hBTg.cell 0
  have a1 : Wd.cell? ⟨w.heap.size, 1, none⟩ = some (.int .i64 T.val.n) := hBTg.cell 1
  have a2 : Wd.cell? ⟨w.heap.size, 2, none⟩ = some (.string T.val.s) := hBTg.cell 2
  have a3 : Wd.cell? ⟨w.heap.size, 3, none⟩ = some (.int .i64 T.val.o) := hBTg.cell 3
  have a4 : Wd.cell? ⟨w.heap.size, 4, none⟩ = some (.int .i64 T.val.p) := hBTg.cell 4
  have a5 : Wd.cell? ⟨w.heap.size, 5, none⟩ = some (.slice T.kA T.keys.length T.kc) := hBTg.cell 5
  have a6 : Wd.cell? ⟨w.heap.size, 6, none⟩ = some (.slice T.cA T.kids.length T.cc) := hBTg.cell 6
  have z0 : Wd.cell? ⟨w.heap.size + 1 + 1, 0, none⟩ = some (.int .i64 0) := hBZg.cell 0
  have z1 : Wd.cell? ⟨w.heap.size + 1 + 1, 1, none⟩ = some (.int .i64 0) := hBZg.cell 1
  have z2 : Wd.cell? ⟨w.heap.size + 1 + 1, 2, none⟩ = some (.string ⟨#[]⟩) := hBZg.cell 2
  have z3 : Wd.cell? ⟨w.heap.size + 1 + 1, 3, none⟩ = some (.int .i64 0) := hBZg.cell 3
  have z4 : Wd.cell? ⟨w.heap.size + 1 + 1, 4, none⟩ = some (.int .i64 0) := hBZg.cell 4
  have z5 : Wd.cell? ⟨w.heap.size + 1 + 1, 5, none⟩ = some (.slice none 0 0) := hBZg.cell 5
  have z6 : Wd.cell? ⟨w.heap.size + 1 + 1, 6, none⟩ = some (.slice none 0 0) := hBZg.cell 6
  have za := hBTg.frozen
  have zz := hBZg.frozen
  obtain ⟨S3, hS3⟩ : ∃ S, (if T.cc = k then T.cA else Option.map (fun x => x.add (k * 7)) T.cA) = S := ⟨_, rfl⟩
  rw [hS3] at r3
  have hk9 : (k : Int) ≤ 1000 := by omega
  have hkc : (k : Int) ≤ (T.cc : Int) := by have := htc.2.1; omega
  have hkr : (k : Int) ≤ (T.kids.length : Int) := by omega
  have hmc : (T.kids.length : Int) ≤ (T.cc : Int) := by have := htc.2.1; omega
  have R1 := Lib.hid r1
  have R2 := Lib.hid r2
  have R3 := Lib.hid r3
  have HK := Lib.hid hkn
  clear hkn
  have HB := Lib.hid (And.intro hBTg hBZg)
  have HH := Lib.hid (And.intro hT (And.intro hX (And.intro hTc (And.intro hXc (And.intro hk (And.intro hn (And.intro hkey hv)))))))
  have HO := Lib.hid (And.intro owF (And.intro l3 (And.intro hb3 (And.intro bF hsz))))
  clear hT hX hTc hXc hk hn hkey htc hs hBT hBX hBZ hb3 hkids hkeys hb1 hk2 owF bF l3 ow1 ow2 b1 b2 l1 b3 ow3 b3' hBTg hBZg l2 hW hsz b1a b2'
  clear r1 r2 r3
  rw [PT.value_eq, PT.value_eq]
  go_enter Tryd.func44, Tryd.ntmps44
  go_wp2_with (at_builtin; first
    | refine Lib.wpList_append_run (o := ⟨some 21, _, _, _, _, _⟩) _ rfl _ _ _ _ rfl _ _ rfl rfl _ _ (R1.out _) ?_
    | refine Lib.wpList_append_run (o := ⟨some 27, _, _, _, _, _⟩) _ rfl _ _ _ _ rfl _ _ rfl rfl _ _ (R2.out _) ?_
    | refine Lib.wpList_append_run (o := ⟨some 37, _, _, _, _, _⟩) _ rfl _ _ _ _ rfl _ _ rfl rfl _ _ (R3.out _) ?_)
  have hZ : Blk ((Wd.setCell ⟨w.heap.size, 6, none⟩ (.slice A3 (k + 1 + (T.kids.length - k)) c3)).setCell ⟨w.heap.size, 5, none⟩ (.slice none 0 0)) (w.heap.size + 1 + 1) 29 #[.int .i64 0, .int .i64 0, .string ⟨#[]⟩, .int .i64 0, .int .i64 0, .slice none 0 0, .slice none 0 0] := HB.out.2.only (((Only.refl (· = w.heap.size) _).setCell rfl _).setCell rfl _) (fun e => by omega)
  refine bodyPost_ret (results_row1 Tryd.results44 _ _ (w.heap.size + 1 + 1) _ _ _ rfl (blk7 _ _ _ _ _ _ _ hZ) Tryd.underlying29 rfl (by kernel_rfl)) rfl ?_
  have hcells : PT.cellsL (T.kids.take k ++ [X] ++ T.kids.drop k) = PT.cellsL (T.kids.take k) ++ X.cells ++ PT.cellsL (T.kids.drop k) := by simp [PT.cellsL]
  have hlen : (T.kids.take k ++ [X] ++ T.kids.drop k).length = k + 1 + (T.kids.length - k) := by
    simp only [List.length_append, List.length_take, List.length_drop, List.length_singleton]
    have := HH.out.2.2.2.2.1
    omega
  refine put_done T X k key true false S w Wd _ HL.out.1 HL.out.2.1 HL.out.2.2 HH.out.2.2.1 HH.out.2.2.2.1 HH.out.2.2.2.2.2.1 ?_ HH.out.2.2.2.2.2.2.1 [] ?_ (T.kids.take k ++ [X] ++ T.kids.drop k) (by simp) none A3 0 c3 _ _ ?_ (by rw [hcells, hlen]; exact HO.out.1) ?_ hlen.symm ?_ ?_ (HO.out.2.2.1.trans (HO.out.2.2.2.1.mono HO.out.2.2.1.size)) ?_
  · exact HK.out
  · rw [if_neg (by have := HH.out.2.2.2.2.2.2.2; simpa using this)]
  · exact World.ownsRow_nil _ _ _ _
  · rfl
  · intro q hq; cases hq
  · intro q hq
    have h1 := HO.out.2.1 q hq
    have h2 := HO.out.2.2.2.2
    omega
  · exact (((Only.refl _ _).setCell (.inl rfl) _).setCell (.inl rfl) _).trans ((only7 _ (w.heap.size + 1 + 1) _ _ _ _ _ _ _ _ _ _ _ _ _ _).mono (fun _ _ h => .inr h))

set_option maxRecDepth 100000 in
set_option maxHeartbeats 4000000 in
theorem put_del (T X : PT) (k : Nat) (key : ByteArray) (S : Nat → Prop) (w : World) (hS : ∀ b, S b → b < w.heap.size) (hT' : Lies S w T) (hX' : Lies S w X) (hTc : T.Caps) (hXc : X.Caps) (hk : k < T.kids.length) (hn : T.kids.length ≤ 1000) (hkey : key.size ≤ maxLen) (hv : (T.val.k == 5) = false) (hkn : T.keys.length ≤ 1000) :
    Calls Tryd.prog 44 #[T.value, .int .i64 k, X.value, .bool false, .bool true, .string key] w (PutQ S w (T.tree.putT k X.tree false true key)) := by
  have HL := Lib.hid (And.intro hS (And.intro hT' hX'))
  have hT := hT'.here
  have hX := hX'.here
  clear hS hT' hX'
  have htc := (PT.caps_iff T).1 hTc
  have hs := hT.slot
  have hb3 : Below w.heap.size w (((w.alloc (.cells #[.int .i64 T.val.k, .int .i64 T.val.n, .string T.val.s, .int .i64 T.val.o, .int .i64 T.val.p, .slice T.kA T.keys.length T.kc, .slice T.cA T.kids.length T.cc] 29)).alloc (.cells #[.int .i64 X.val.k, .int .i64 X.val.n, .string X.val.s, .int .i64 X.val.o, .int .i64 X.val.p, .slice X.kA X.keys.length X.kc, .slice X.cA X.kids.length X.cc] 29)).alloc (.cells #[.int .i64 0, .int .i64 0, .string ⟨#[]⟩, .int .i64 0, .int .i64 0, .slice none 0 0, .slice none 0 0] 29)) := (((Below.refl _ _).alloc (Nat.le_refl _) _).alloc (by simp) _).alloc (by simp; omega) _
  obtain ⟨W, hW⟩ : ∃ W, (((w.alloc (.cells #[.int .i64 T.val.k, .int .i64 T.val.n, .string T.val.s, .int .i64 T.val.o, .int .i64 T.val.p, .slice T.kA T.keys.length T.kc, .slice T.cA T.kids.length T.cc] 29)).alloc (.cells #[.int .i64 X.val.k, .int .i64 X.val.n, .string X.val.s, .int .i64 X.val.o, .int .i64 X.val.p, .slice X.kA X.keys.length X.kc, .slice X.cA X.kids.length X.cc] 29)).alloc (.cells #[.int .i64 0, .int .i64 0, .string ⟨#[]⟩, .int .i64 0, .int .i64 0, .slice none 0 0, .slice none 0 0] 29)) = W := ⟨_, rfl⟩
  have hsz : W.heap.size = w.heap.size + 3 := by rw [← hW]; simp
  have hBT : Blk W w.heap.size 29 #[.int .i64 T.val.k, .int .i64 T.val.n, .string T.val.s, .int .i64 T.val.o, .int .i64 T.val.p, .slice T.kA T.keys.length T.kc, .slice T.cA T.kids.length T.cc] := by rw [← hW]; exact ((Blk.new _ _ _).alloc _).alloc _
  have hBX : Blk W (w.heap.size + 1) 29 #[.int .i64 X.val.k, .int .i64 X.val.n, .string X.val.s, .int .i64 X.val.o, .int .i64 X.val.p, .slice X.kA X.keys.length X.kc, .slice X.cA X.kids.length X.cc] := by rw [← hW]; exact (Blk.newer _ _ _ (by simp)).alloc _
  have hBZ : Blk W (w.heap.size + 1 + 1) 29 #[.int .i64 0, .int .i64 0, .string ⟨#[]⟩, .int .i64 0, .int .i64 0, .slice none 0 0, .slice none 0 0] := by rw [← hW]; exact Blk.newer _ _ _ (by simp)
  rw [hW] at hb3
  have hkids : SlAt W T.cA (PT.cellsL T.kids) := hs.kids.below hb3
  have hkeys : SlAt W T.kA (T.keys.map Value.string) := hs.keys.below hb3
  obtain ⟨A1, c1, Wb, r1, ow1, b1, l1, _⟩ := app_step (P := Tryd.prog) W.heap.size W 27 29 Tryd.underlying27 infoTree' rfl (by decide) none 0 0 [] (World.ownsRow_nil _ _ _ _) (Nat.le_refl _) (fun q hq => by cases hq) T.cA k T.cc (PT.cellsL (T.kids.take k)) (by rw [PT.cellsL_length, List.length_take, Nat.min_eq_left (by omega)]) (by rw [← cellsL_take]; exact hkids.take _) (one_ptL _) (by simp only [maxLen]; omega) (by omega)
  simp only [Nat.zero_add, List.nil_append] at r1 ow1 l1
  rw [← hW] at r1
  have hb1 := hb3.trans (b1.mono hb3.size)
  have ow2 := ow1
  have b2 := b1
  have l2 := l1
  have hk2 : SlAt Wb (if T.cc = k + 1 then T.cA else Option.map (fun x => x.add ((k + 1) * 7)) T.cA) (PT.cellsL (T.kids.drop (k + 1))) := by
    rw [← cellsL_drop]
    exact SlAt.from_ (hkids.below b2) T.cc (k + 1) 7 T.kids.length (PT.cellsL_length _) htc.2.1
  obtain ⟨A3, c3, Wd, r3, ow3, b3', l3, _⟩ := app_step (P := Tryd.prog) W.heap.size Wb 27 29 Tryd.underlying27 infoTree' rfl (by decide) A1 (k) c1 _ ow1 b2.size l2 _ (T.kids.length - (k + 1)) (T.cc - (k + 1)) _ (by rw [PT.cellsL_length, List.length_drop]) hk2 (one_ptL _) (by simp only [maxLen]; omega) (by omega)
  have b3 : Below W.heap.size W Wd := b2.trans b3'
  have owF := ow3
  have bF := b3
  have t6 : (((w.alloc (.cells #[.int .i64 T.val.k, .int .i64 T.val.n, .string T.val.s, .int .i64 T.val.o, .int .i64 T.val.p, .slice T.kA T.keys.length T.kc, .slice T.cA T.kids.length T.cc] 29)).alloc (.cells #[.int .i64 X.val.k, .int .i64 X.val.n, .string X.val.s, .int .i64 X.val.o, .int .i64 X.val.p, .slice X.kA X.keys.length X.kc, .slice X.cA X.kids.length X.cc] 29)).alloc (.cells #[.int .i64 0, .int .i64 0, .string ⟨#[]⟩, .int .i64 0, .int .i64 0, .slice none 0 0, .slice none 0 0] 29)).cell? ⟨w.heap.size, 6, none⟩ = some (.slice T.cA T.kids.length T.cc) := by rw [hW]; exact hBT.cell 6
  have u6 : Wb.cell? ⟨w.heap.size, 6, none⟩ = some (.slice T.cA T.kids.length T.cc) := (hBT.below b2 hBT.lt).cell 6
  have hBTg := hBT.below bF hBT.lt
  have hBZg := hBZ.below bF hBZ.lt
  have a0 : Wd.cell? ⟨w.heap.size, 0, none⟩ = some (.int .i64 T.val.k) := hBTg.cell 0
  have a1 : Wd.cell? ⟨w.heap.size, 1, none⟩ = some (.int .i64 T.val.n) := hBTg.cell 1
  have a2 : Wd.cell? ⟨w.heap.size, 2, none⟩ = some (.string T.val.s) := hBTg.cell 2
  have a3 : Wd.cell? ⟨w.heap.size, 3, none⟩ = some (.int .i64 T.val.o) := hBTg.cell 3
  have a4 : Wd.cell? ⟨w.heap.size, 4, none⟩ = some (.int .i64 T.val.p) := hBTg.cell 4
  have a5 : Wd.cell? ⟨w.heap.size, 5, none⟩ = some (.slice T.kA T.keys.length T.kc) := hBTg.cell 5
  have a6 : Wd.cell? ⟨w.heap.size, 6, none⟩ = some (.slice T.cA T.kids.length T.cc) := hBTg.cell 6
  have z0 : Wd.cell? ⟨w.heap.size + 1 + 1, 0, none⟩ = some (.int .i64 0) := hBZg.cell 0
  have z1 : Wd.cell? ⟨w.heap.size + 1 + 1, 1, none⟩ = some (.int .i64 0) := hBZg.cell 1
  have z2 : Wd.cell? ⟨w.heap.size + 1 + 1, 2, none⟩ = some (.string ⟨#[]⟩) := hBZg.cell 2
  have z3 : Wd.cell? ⟨w.heap.size + 1 + 1, 3, none⟩ = some (.int .i64 0) := hBZg.cell 3
  have z4 : Wd.cell? ⟨w.heap.size + 1 + 1, 4, none⟩ = some (.int .i64 0) := hBZg.cell 4
  have z5 : Wd.cell? ⟨w.heap.size + 1 + 1, 5, none⟩ = some (.slice none 0 0) := hBZg.cell 5
  have z6 : Wd.cell? ⟨w.heap.size + 1 + 1, 6, none⟩ = some (.slice none 0 0) := hBZg.cell 6
  have za := hBTg.frozen
  have zz := hBZg.frozen
  obtain ⟨S3, hS3⟩ : ∃ S, (if T.cc = k + 1 then T.cA else Option.map (fun x => x.add ((k + 1) * 7)) T.cA) = S := ⟨_, rfl⟩
  rw [hS3] at r3
  have hk9 : (k : Int) ≤ 1000 := by omega
  have hkc : (k : Int) ≤ (T.cc : Int) := by have := htc.2.1; omega
  have hkr : ((k : Int) + 1 : Int) ≤ (T.kids.length : Int) := by omega
  have hmc : (T.kids.length : Int) ≤ (T.cc : Int) := by have := htc.2.1; omega
  have R1 := Lib.hid r1
  have R3 := Lib.hid r3
  have HK := Lib.hid hkn
  clear hkn
  have HB := Lib.hid (And.intro hBTg hBZg)
  have HH := Lib.hid (And.intro hT (And.intro hX (And.intro hTc (And.intro hXc (And.intro hk (And.intro hn (And.intro hkey hv)))))))
  have HO := Lib.hid (And.intro owF (And.intro l3 (And.intro hb3 (And.intro bF hsz))))
  clear hT hX hTc hXc hk hn hkey htc hs hBT hBX hBZ hb3 hkids hkeys hb1 hk2 owF bF l3 ow1 ow2 b1 b2 l1 b3 ow3 b3' hBTg hBZg l2 hW hsz
  clear r1 r3
  rw [PT.value_eq, PT.value_eq]
  go_enter Tryd.func44, Tryd.ntmps44
  go_wp2_with (at_builtin; first
    | refine Lib.wpList_append_run (o := ⟨some 21, _, _, _, _, _⟩) _ rfl _ _ _ _ rfl _ _ rfl rfl _ _ (R1.out _) ?_
    | refine Lib.wpList_append_run (o := ⟨some 37, _, _, _, _, _⟩) _ rfl _ _ _ _ rfl _ _ rfl rfl _ _ (R3.out _) ?_)
  have hZ : Blk ((Wd.setCell ⟨w.heap.size, 6, none⟩ (.slice A3 (k + (T.kids.length - (k + 1))) c3)).setCell ⟨w.heap.size, 5, none⟩ (.slice none 0 0)) (w.heap.size + 1 + 1) 29 #[.int .i64 0, .int .i64 0, .string ⟨#[]⟩, .int .i64 0, .int .i64 0, .slice none 0 0, .slice none 0 0] := HB.out.2.only (((Only.refl (· = w.heap.size) _).setCell rfl _).setCell rfl _) (fun e => by omega)
  refine bodyPost_ret (results_row1 Tryd.results44 _ _ (w.heap.size + 1 + 1) _ _ _ rfl (blk7 _ _ _ _ _ _ _ hZ) Tryd.underlying29 rfl (by kernel_rfl)) rfl ?_
  have hcells : PT.cellsL (T.kids.take k ++ T.kids.drop (k + 1)) = PT.cellsL (T.kids.take k) ++ PT.cellsL (T.kids.drop (k + 1)) := by simp [PT.cellsL]
  have hlen : (T.kids.take k ++ T.kids.drop (k + 1)).length = k + (T.kids.length - (k + 1)) := by
    simp only [List.length_append, List.length_take, List.length_drop, List.length_singleton]
    have := HH.out.2.2.2.2.1
    omega
  refine put_done T X k key false true S w Wd _ HL.out.1 HL.out.2.1 HL.out.2.2 HH.out.2.2.1 HH.out.2.2.2.1 HH.out.2.2.2.2.2.1 ?_ HH.out.2.2.2.2.2.2.1 [] ?_ (T.kids.take k ++ T.kids.drop (k + 1)) (by simp) none A3 0 c3 _ _ ?_ (by rw [hcells, hlen]; exact HO.out.1) ?_ hlen.symm ?_ ?_ (HO.out.2.2.1.trans (HO.out.2.2.2.1.mono HO.out.2.2.1.size)) ?_
  · exact HK.out
  · rw [if_neg (by have := HH.out.2.2.2.2.2.2.2; simpa using this)]
  · exact World.ownsRow_nil _ _ _ _
  · rfl
  · intro q hq; cases hq
  · intro q hq
    have h1 := HO.out.2.1 q hq
    have h2 := HO.out.2.2.2.2
    omega
  · exact (((Only.refl _ _).setCell (.inl rfl) _).setCell (.inl rfl) _).trans ((only7 _ (w.heap.size + 1 + 1) _ _ _ _ _ _ _ _ _ _ _ _ _ _).mono (fun _ _ h => .inr h))
end Go.Proofs.YtbfmdpgghknccaaDoor
