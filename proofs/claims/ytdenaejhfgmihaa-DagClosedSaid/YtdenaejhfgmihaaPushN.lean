/- append of some new elements onto a row of one's own; a row of bytes as a text. -/
import Derived.Test.YtdenaejhfgmihaaMem
import Derived.Test.YtdenaejhfgmihaaProg
import Derived.Laws.IdiomStrings
import Derived.Lib.UnsafeStr
namespace Go.Proofs.Ytdenaejhfgmihaa
open Go.RowKit
set_option linter.unusedVariables false
set_option linter.unusedSimpArgs false

theorem wpList_append_run {P : Program} {w : World} {ops : Array Oper} {rest : List Oper} {o : Oper} {a : Act} {Q : Exit → Act → World → Prop} (hgd : o.guard = none) (s x : Operand) (t tn : TypeId)
    (ho : o.op = .call { callee := .builtin .append, args := #[s, x], argTypes := #[t, tn] }) {v u v' : Value} {w' : World} (hs : a.eval s = v) (hx : a.eval x = u)
    (hrun : (Builtin.append_ #[t, tn] o.type #[v, u]).run P w = .ok v' w') (h : wpList P ops Q rest (a.put o.dst v') w') : wpList P ops Q (o :: rest) a w := by
  refine wpList_plain hgd fun K hK => ?_
  unfold Oper.wp execOp
  simp only [ho, resolve, invoke, builtin, Sem.run_bind, Sem.run_pure, Result.andThen_ok, List.map_toArray, List.map_cons, List.map_nil, hs, hx, hrun]
  exact hK _ _ h

section
variable {P : Program}

theorem wpList_pushN (w0 : World) {ops : Array Oper} {rest : List Oper} {o : Oper} {a : Act} {Q : Exit → Act → World → Prop} (hgd : o.guard = none) (s x : Operand) (t : TypeId)
    (ho : o.op = .call { callee := .builtin .append, args := #[s, x], argTypes := #[t, t] })
    (base : Nat) (e : TypeId) {z : Value} {size bytes : Nat} (ht : P.underlying t = some (.slice e)) (hinfo : (P.info? e).map (fun i => (i.zero, i.size, i.bytes)) = some (some z, size, bytes))
    (hzs : z.cells.size = size) (hsz : 0 < size) (hby : bytes ≤ 128)
    (v : Value) (n : Nat) (xs : List Value) (hs : a.eval s = v) (hown : w0.ownsRow base e size v n xs) (m : Nat) (hm : m ≤ 100)
    (cs : Array Value) (hx : a.eval x = .slice (some ⟨w0.heap.size, 0, none⟩) m m) (hl : cs.size = m * size) (h1 : ∀ u ∈ cs.toList, u.oneCell' = true)
    (hn : n ≤ 1000000000000) (hbase : base ≤ w0.heap.size)
    (h : ∀ A c w', w'.ownsRow base e size (.slice A (n + m) c) (n + m) (xs ++ cs.toList) → w0.grownBy w' v.ownBlock → wpList P ops Q rest (a.put o.dst (.slice A (n + m) c)) w') :
    wpList P ops Q (o :: rest) a (w0.alloc (.cells cs e)) := by
  obtain ⟨i, hi, hz, hsize, hbytes⟩ := info_parts hinfo
  refine wpList_append_own _ hgd s x t ho base e i z size bytes ht hi hz hsize hbytes hzs hsz v n xs hs (hown.alloc _) ⟨w0.heap.size, 0, none⟩ m m cs.toList hx (by simpa using hl) ?_ h1 (by simp only [maxLen]; omega) ?_ (by simp; omega) ?_
  · intro j u hu
    have hb : (w0.alloc (.cells cs e)).heap[w0.heap.size]? = some (.cells cs e (0, 0)) := heap_alloc_new w0 _
    have hadd : (⟨w0.heap.size, 0, none⟩ : Addr).add j = ⟨w0.heap.size, j, none⟩ := by unfold Addr.add; split <;> simp_all
    rw [hadd, cell_of_row _ _ j cs e (0, 0) hb]
    simpa using hu
  · have : (n + m) * bytes ≤ (n + m) * 128 := Nat.mul_le_mul_left _ hby
    omega
  · intro v' w' hown' hg _
    obtain ⟨A, c, rfl⟩ := slice_of_owns hown'
    refine h A c w' hown' ⟨hg.os, hg.tape, hg.output, ?_, fun k hk hne => ?_⟩
    · have := hg.size; simp at this; omega
    · rw [hg.block k (by simp; omega) hne]; exact Below.heap_alloc w0 _ k hk

theorem bytes_one (l : List UInt8) : ∀ v ∈ Lib.byteCells l, v.oneCell' = true := by
  intro v hv
  simp only [Lib.byteCells, List.mem_map] at hv
  obtain ⟨b, _, rfl⟩ := hv
  rfl

theorem infoB : (Try.prog.info? 5).map (fun i => (i.zero, i.size, i.bytes)) = some (some (.int .u8 0), 1, 1) := by kernel_rfl
/-- A row of bytes, as a text. -/
theorem conv_row {w : World} {base : Nat} {e src dst : TypeId} {A : Option Addr} {c : Nat} {l : List UInt8} (h : w.ownsRow base e 1 (.slice A l.length c) l.length (Lib.byteCells l)) (hs : P.underlying src = some (.slice e)) (he : P.underlying e = some (.int .u8)) (hd : P.underlying dst = some .string) :
    (convert src dst (.slice A l.length c)).run P w = .ok (.string ⟨l.toArray⟩) w := by
  rcases SlAt.of_owns h with h0 | ⟨b, off, rfl, hc⟩
  · have hl : l = [] := by
      have := congrArg List.length h0
      rw [Lib.byteCells_length] at this
      exact List.eq_nil_of_length_eq_zero this
    subst hl
    rw [show (([] : List UInt8).length) = 0 from rfl, run_convert_bytes_string w src dst e A 0 c hs he hd]
    have hl2 := run_loadCells_list (P := P) w (A.getD ⟨0, 0, none⟩) [] (by intro j v hj; simp at hj)
    cases A with
    | none => rfl
    | some a =>
      have := run_bytesToString w a 0 c [] (by simpa using hl2)
      exact this
  · exact run_convert_bytes_back w src dst e ⟨b, off, none⟩ c l hs he hd (fun j hj => by
      have hadd : (⟨b, off, none⟩ : Addr).add j = ⟨b, off + j, none⟩ := by unfold Addr.add; split <;> simp_all
      rw [hadd]
      exact hc j _ (by simp [Lib.byteCells, List.getElem?_eq_getElem hj]))
end
end Go.Proofs.Ytdenaejhfgmihaa
