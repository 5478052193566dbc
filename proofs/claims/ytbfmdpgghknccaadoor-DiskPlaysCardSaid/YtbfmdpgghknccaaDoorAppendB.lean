/- append of what a slice reads as, onto a row of one's own behind a base. Over any program. -/
import Derived.Test.YtbfmdpgghknccaaDoorAppend
namespace Go.Proofs.YtbfmdpgghknccaaDoor
open Go.RowKit
set_option linter.unusedVariables false
set_option linter.unusedSimpArgs false
section
variable {P : Program}
theorem row_base {w : World} {base b1 : Nat} {e : TypeId} {size n c : Nat} {A : Option Addr} {xs : List Value} (h : w.ownsRow base e size (.slice A n c) n xs) (hA : ∀ a, A = some a → b1 ≤ a.block) : w.ownsRow b1 e size (.slice A n c) n xs := by
  refine ⟨h.1, h.2.imp id ?_⟩
  rintro ⟨g, cap, cur, h1, h2, h3⟩
  refine ⟨g, cap, cur, h1, ?_, h3⟩
  injection h1 with hA' _ _
  exact hA _ hA'
theorem run_append_slb (base : Nat) (w : World) (t ty e : TypeId) {z : Value} {size bytes : Nat} (ht : P.underlying t = some (.slice e)) (hinfo : (P.info? e).map (fun i => (i.zero, i.size, i.bytes)) = some (some z, size, bytes)) (hzs : z.cells.size = size) (hsz : 0 < size)
    (A : Option Addr) (n c : Nat) (xs : List Value) (hown : w.ownsRow base e size (.slice A n c) n xs) (hbase : base ≤ w.heap.size) (B : Option Addr) (m k : Nat) (news : List Value) (hl : news.length = m * size) (hB : SlAt w B news) (h1 : ∀ u ∈ news, u.oneCell' = true)
    (h63 : n + m ≤ maxLen) (hbytes : (n + m) * bytes ≤ 140737488355328) :
    ∃ A' c' w', (Builtin.append_ #[t, t] ty #[.slice A n c, .slice B m k]).run P w = .ok (.slice A' (n + m) c') w' ∧ w'.ownsRow base e size (.slice A' (n + m) c') (n + m) (xs ++ news) ∧ Below base w w' ∧ n + m ≤ c' := by
  have h0 : w.ownsRow 0 e size (.slice A n c) n xs := row_base hown (fun _ _ => Nat.zero_le _)
  obtain ⟨A', c', w', r1, r2, r3, r4⟩ := run_append_sl (P := P) w t ty e ht hinfo hzs hsz A n c xs h0 B m k news hl hB h1 h63 hbytes
  refine ⟨A', c', w', r1, row_base r2 ?_, grown_below r3 hbase (fun q hq => ownBlock_ge hown q hq), ?_⟩
  · intro a ha
    rcases r4 with ⟨e1, _⟩ | e1
    · rw [e1] at ha
      exact ownBlock_ge hown a.block (by rw [ha]; rfl)
    · rw [e1] at ha
      injection ha with ha
      subst ha
      exact hbase
  · rcases r2.2 with ⟨hv, hz⟩ | ⟨g, cap, cur, hv, _, _, hnc, _⟩
    · omega
    · injection hv with _ _ h; omega
end
end Go.Proofs.YtbfmdpgghknccaaDoor
