/- append of what a slice reads as, onto a row of one's own: of any number of elements, none too. Over any program. -/
import Derived.Test.YtdenaejhfgmihaaRow
import Derived.Deep.RegionLaw
namespace Go.Proofs.Ytdenaejhfgmihaa
open Go.RowKit
set_option linter.unusedVariables false
set_option linter.unusedSimpArgs false
section
variable {P : Program}

theorem wpList_at {P : Program} {ops : Array Oper} {Q : Exit → Act → World → Prop} {l : List Oper} {a : Act} {w : World} (F : World → Prop) (hF : F w) (h : ∀ w1, F w1 → wpList P ops Q l a w1) : wpList P ops Q l a w := h w hF

theorem grownBy_refl (w : World) (r : Option Nat) : w.grownBy w r := ⟨rfl, rfl, rfl, Nat.le_refl _, fun _ _ _ => rfl⟩
theorem grown_below {B : Nat} {w w' : World} {r : Option Nat} (hg : w.grownBy w' r) (hB : B ≤ w.heap.size) (hlow : ∀ k, r = some k → B ≤ k) : Below B w w' := by
  refine ⟨hg.os, hg.tape, hg.output, hg.size, fun k hk => hg.block k (Nat.lt_of_lt_of_le hk hB) ?_⟩
  intro e
  have := hlow k e.symm
  omega

/-- append, by what running it gives, as one step of a region that draws its order. -/
theorem step_append_run {ops : Array Oper} {o : Oper} {a : Act} {w : World} {K : Act → World → Prop} {Q : Exit → Act → World → Prop} {E : Prop}
    (hg : o.guard = none) (s x : Operand) (t tn : TypeId) (hop : o.op = Op.call { callee := Callee.builtin Builtin.append, args := #[s, x], argTypes := #[t, tn] })
    (v u : Value) (hs : a.eval s = v) (hx : a.eval x = u) {v' : Value} {w' : World} (hrun : (Builtin.append_ #[t, tn] o.type #[v, u]).run P w = .ok v' w')
    (hK : K (a.put o.dst v') w') : if Region.wanted o (yielded ops a.tmps) = true then Oper.wp P o a w K Q else E := by
  have hw : Region.wanted o (yielded ops a.tmps) = true := by simp [Region.wanted, hg]
  rw [if_pos hw]
  unfold Oper.wp
  simp [execOp, hop, resolve, invoke, builtin, hs, hx, hrun, Result.andThen]
  exact hK

theorem run_append_sl (w : World) (t ty e : TypeId) {z : Value} {size bytes : Nat} (ht : P.underlying t = some (.slice e)) (hinfo : (P.info? e).map (fun i => (i.zero, i.size, i.bytes)) = some (some z, size, bytes)) (hzs : z.cells.size = size) (hsz : 0 < size)
    (A : Option Addr) (n c : Nat) (xs : List Value) (hown : w.ownsRow 0 e size (.slice A n c) n xs) (B : Option Addr) (m k : Nat) (news : List Value) (hl : news.length = m * size) (hB : SlAt w B news) (h1 : ∀ u ∈ news, u.oneCell' = true)
    (h63 : n + m ≤ maxLen) (hbytes : (n + m) * bytes ≤ 140737488355328) :
    ∃ A' c' w', (Builtin.append_ #[t, t] ty #[.slice A n c, .slice B m k]).run P w = .ok (.slice A' (n + m) c') w' ∧ w'.ownsRow 0 e size (.slice A' (n + m) c') (n + m) (xs ++ news) ∧
      w.grownBy w' (Value.slice A n c).ownBlock ∧ ((A' = A ∧ c' = c) ∨ A' = some ⟨w.heap.size, 0, none⟩) := by
  by_cases hm : m = 0
  · subst hm
    have hn : news = [] := List.eq_nil_of_length_eq_zero (by simpa using hl)
    subst hn
    rw [Nat.add_zero, List.append_nil]
    rcases hown.2 with ⟨hv, h0⟩ | ⟨g, cap, cur, hv, _, hg, hnc, hcm, hcs, htake⟩
    · injection hv with q1 q2 q3
      subst q1 q2 q3
      refine ⟨none, 0, w, ?_, hown, grownBy_refl _ _, .inl ⟨rfl, rfl⟩⟩
      obtain ⟨i, hi, hz, hsize, hby⟩ := info_parts hinfo
      cases B with
      | none => simp [Builtin.append_, run_underlying ht, sizeOf, typeInfo, hi, Builtin.lenOf, Builtin.firstCells, storeCells]
      | some a =>
        have hf := run_firstCells_some (P := P) w i.size 0 a 0 k [] (by simp) (by simp)
        simp [Builtin.append_, run_underlying ht, sizeOf, typeInfo, hi, Builtin.lenOf, hf, storeCells]
    · injection hv with q1 q2 q3
      subst q1 q3
      exact ⟨_, _, w, run_append_none w t ty e ht hinfo g n c cur hg hnc hcs B k, hown, grownBy_refl _ _, .inl ⟨rfl, rfl⟩⟩
  · obtain ⟨b, off, rfl, hc⟩ : ∃ b off, B = some ⟨b, off, none⟩ ∧ ∀ j u, news[j]? = some u → w.cell? ⟨b, off + j, none⟩ = some u := by
      rcases hB with h | h
      · subst h
        have : 0 < m * size := Nat.mul_pos (by omega) hsz
        simp at hl
        omega
      · exact h
    obtain ⟨A', c', w', h1, h2, h3, h4⟩ := run_append_own2 w t ty e ht hinfo hzs hsz A n c xs hown ⟨b, off, none⟩ m k (by omega) news hl (fun j u hu => by rw [Addr.add_lit]; exact hc j u hu) h1 h63 hbytes
    exact ⟨A', c', w', h1, h2, h3, h4.imp (fun h => ⟨h.1, h.2.1⟩) id⟩
end
end Go.Proofs.Ytdenaejhfgmihaa
