/- Trees that are balanced by heights, plain: each node with its block in memory. No program. -/
import Derived.Test.YtnhmbpeicgnjaaaKit
namespace Go.Proofs.Ytnhmbpeicgnjaaa
set_option linter.unusedVariables false

inductive AV where
  | nil
  | node (b : Nat) (l : AV) (th wd hi mn al : Int) (r : AV)
namespace AV
def ptr : AV → Value
  | .nil => .pointer none
  | .node b _ _ _ _ _ _ _ => .pointer (some ⟨b, 0, none⟩)
def hgt : AV → Int
  | .nil => 0
  | .node _ _ _ _ hi _ _ _ => hi
def cnt : AV → Int
  | .nil => 0
  | .node _ _ _ _ _ mn _ _ => mn
def wid : AV → Int
  | .nil => 0
  | .node _ _ _ _ _ _ al _ => al
def blocks : AV → List Nat
  | .nil => []
  | .node b l _ _ _ _ _ r => b :: (l.blocks ++ r.blocks)
/-- The things, in their order, and how wide they are. -/
def seq : AV → List (Int × Int)
  | .nil => []
  | .node _ l th wd _ _ _ r => l.seq ++ (th, wd) :: r.seq
def sumW : List (Int × Int) → Int
  | [] => 0
  | x :: l => x.2 + sumW l
theorem sumW_append (a b : List (Int × Int)) : sumW (a ++ b) = sumW a + sumW b := by
  induction a with
  | nil => simp [sumW]
  | cons x a ih => simp [sumW, ih]; omega
/-- What is written in the nodes is true of what is below them. -/
def Con : AV → Prop
  | .nil => True
  | .node _ l th wd hi mn al r => l.Con ∧ r.Con ∧ hi = 1 + max l.hgt r.hgt ∧ mn = 1 + l.cnt + r.cnt ∧ al = wd + l.wid + r.wid ∧ 0 ≤ wd ∧ wd ≤ 1000000
theorem Con.cnt {T : AV} (h : T.Con) : T.cnt = T.seq.length := by
  induction T with
  | nil => rfl
  | node b l th wd hi mn al r ihl ihr =>
    obtain ⟨h1, h2, _, h4, _⟩ := h
    have a := ihl h1
    have c := ihr h2
    simp only [AV.cnt, seq, List.length_append, List.length_cons] at *
    omega
theorem Con.wid {T : AV} (h : T.Con) : T.wid = sumW T.seq := by
  induction T with
  | nil => rfl
  | node b l th wd hi mn al r ihl ihr =>
    obtain ⟨h1, h2, _, _, h5, _⟩ := h
    have a := ihl h1
    have c := ihr h2
    simp only [AV.wid, seq, sumW_append, sumW] at *
    omega
theorem Con.hgt {T : AV} (h : T.Con) : 0 ≤ T.hgt ∧ T.hgt ≤ T.cnt := by
  induction T with
  | nil => exact ⟨by simp [AV.hgt], by simp [AV.hgt, AV.cnt]⟩
  | node b l th wd hi mn al r ihl ihr =>
    obtain ⟨h1, h2, h3, h4, _⟩ := h
    have a := ihl h1
    have c := ihr h2
    simp only [AV.hgt, AV.cnt] at *
    omega
theorem Con.wid_nn {T : AV} (h : T.Con) : 0 ≤ T.wid ∧ T.wid ≤ 1000000 * T.cnt := by
  induction T with
  | nil => exact ⟨by simp [AV.wid], by simp [AV.wid, AV.cnt]⟩
  | node b l th wd hi mn al r ihl ihr =>
    obtain ⟨h1, h2, h3, h4, h5, h6, h7⟩ := h
    have a := ihl h1
    have c := ihr h2
    simp only [AV.wid, AV.cnt] at *
    omega

def fixV (b : Nat) (l : AV) (th wd : Int) (r : AV) : AV := .node b l th wd (1 + max l.hgt r.hgt) (1 + l.cnt + r.cnt) (wd + l.wid + r.wid) r
theorem fixV_con {b : Nat} {l r : AV} {th wd : Int} (hl : l.Con) (hr : r.Con) (h0 : 0 ≤ wd) (h1 : wd ≤ 1000000) : (fixV b l th wd r).Con := ⟨hl, hr, rfl, rfl, rfl, h0, h1⟩
theorem fixV_seq (b : Nat) (l r : AV) (th wd : Int) : (fixV b l th wd r).seq = l.seq ++ (th, wd) :: r.seq := rfl

/-- Node b over l and r is turned: l's root comes up. -/
def turnR (b : Nat) (l : AV) (th wd : Int) (r : AV) : AV :=
  match l with
  | .nil => .nil
  | .node lb ll lth lwd _ _ _ lr => fixV lb ll lth lwd (fixV b lr th wd r)
def turnL (b : Nat) (l : AV) (th wd : Int) (r : AV) : AV :=
  match r with
  | .nil => .nil
  | .node rb rl rth rwd _ _ _ rr => fixV rb (fixV b l th wd rl) rth rwd rr
/-- A node whose root has these sides, turned by its root's parts. -/
def upR (T : AV) : AV := match T with | .nil => .nil | .node b l th wd _ _ _ r => turnR b l th wd r
def upL (T : AV) : AV := match T with | .nil => .nil | .node b l th wd _ _ _ r => turnL b l th wd r
def kidL (T : AV) : AV := match T with | .nil => .nil | .node _ l _ _ _ _ _ _ => l
def kidR (T : AV) : AV := match T with | .nil => .nil | .node _ _ _ _ _ _ _ r => r

def evenV (b : Nat) (l : AV) (th wd : Int) (r : AV) : AV :=
  if l.hgt - r.hgt > 1 then turnR b (if l.kidL.hgt < l.kidR.hgt then l.upL else l) th wd r
  else if l.hgt - r.hgt < -1 then turnL b l th wd (if r.kidR.hgt < r.kidL.hgt then r.upR else r)
  else fixV b l th wd r

theorem hgt_pos {T : AV} (h : T.Con) (h2 : 0 < T.hgt) : ∃ b l th wd hi mn al r, T = .node b l th wd hi mn al r := by
  cases T with
  | nil => simp [AV.hgt] at h2
  | node b l th wd hi mn al r => exact ⟨_, _, _, _, _, _, _, _, rfl⟩

theorem perm_of {a b : List Nat} (h : ∀ x, a.count x = b.count x) : a.Perm b := List.perm_iff_count.2 h

/-- What a turn keeps: the things, the nodes. -/
def Like (b : Nat) (l : AV) (th wd : Int) (r U : AV) : Prop := U.Con ∧ U.seq = l.seq ++ (th, wd) :: r.seq ∧ ∀ x, U.blocks.count x = (b :: (l.blocks ++ r.blocks)).count x

theorem turnR_like {b : Nat} {l r : AV} {th wd : Int} (hl : l.Con) (hr : r.Con) (h0 : 0 ≤ wd) (h1 : wd ≤ 1000000) (hp : 0 < l.hgt) : Like b l th wd r (turnR b l th wd r) := by
  obtain ⟨lb, ll, lth, lwd, hi, mn, al, lr, rfl⟩ := hgt_pos hl hp
  obtain ⟨g1, g2, _, _, _, g3, g4⟩ := hl
  refine ⟨fixV_con g1 (fixV_con g2 hr h0 h1) g3 g4, by simp [turnR, fixV, seq], fun x => ?_⟩
  simp only [turnR, fixV, blocks, List.count_cons, List.count_append]
  omega
theorem turnL_like {b : Nat} {l r : AV} {th wd : Int} (hl : l.Con) (hr : r.Con) (h0 : 0 ≤ wd) (h1 : wd ≤ 1000000) (hp : 0 < r.hgt) : Like b l th wd r (turnL b l th wd r) := by
  obtain ⟨lb, ll, lth, lwd, hi, mn, al, lr, rfl⟩ := hgt_pos hr hp
  obtain ⟨g1, g2, _, _, _, g3, g4⟩ := hr
  refine ⟨fixV_con (fixV_con hl g1 h0 h1) g2 g3 g4, by simp [turnL, fixV, seq], fun x => ?_⟩
  simp only [turnL, fixV, blocks, List.count_cons, List.count_append]
  omega
theorem upL_like {T : AV} (h : T.Con) (hp : 0 < T.kidR.hgt) : T.upL.Con ∧ T.upL.seq = T.seq ∧ (∀ x, T.upL.blocks.count x = T.blocks.count x) ∧ 0 < T.upL.hgt := by
  cases T with
  | nil => simp [kidR, AV.hgt] at hp
  | node b l th wd hi mn al r =>
    obtain ⟨g1, g2, _, _, _, g3, g4⟩ := h
    have := turnL_like (b := b) (th := th) g1 g2 g3 g4 hp
    obtain ⟨rb, rl, rth, rwd, rhi, rmn, ral, rr, rfl⟩ := hgt_pos g2 hp
    refine ⟨this.1, this.2.1, fun x => this.2.2 x, ?_⟩
    have hh := (g2.2.1).hgt
    show 0 < 1 + max (fixV b l th wd rl).hgt rr.hgt
    omega
theorem upR_like {T : AV} (h : T.Con) (hp : 0 < T.kidL.hgt) : T.upR.Con ∧ T.upR.seq = T.seq ∧ (∀ x, T.upR.blocks.count x = T.blocks.count x) ∧ 0 < T.upR.hgt := by
  cases T with
  | nil => simp [kidL, AV.hgt] at hp
  | node b l th wd hi mn al r =>
    obtain ⟨g1, g2, _, _, _, g3, g4⟩ := h
    have := turnR_like (b := b) (th := th) g1 g2 g3 g4 hp
    obtain ⟨rb, rl, rth, rwd, rhi, rmn, ral, rr, rfl⟩ := hgt_pos g1 hp
    refine ⟨this.1, this.2.1, fun x => this.2.2 x, ?_⟩
    have hh := (g1.1).hgt
    show 0 < 1 + max rl.hgt (fixV b rr th wd r).hgt
    omega
theorem kidL_con {T : AV} (h : T.Con) : T.kidL.Con := by cases T with | nil => trivial | node b l th wd hi mn al r => exact h.1
theorem kidR_con {T : AV} (h : T.Con) : T.kidR.Con := by cases T with | nil => trivial | node b l th wd hi mn al r => exact h.2.1
theorem evenV_like {b : Nat} {l r : AV} {th wd : Int} (hl : l.Con) (hr : r.Con) (h0 : 0 ≤ wd) (h1 : wd ≤ 1000000) : Like b l th wd r (evenV b l th wd r) := by
  have hl0 := hl.hgt
  have hr0 := hr.hgt
  unfold evenV
  split
  · split
    · rename_i g1 g2
      have hk := (kidL_con hl).hgt
      obtain ⟨k1, k2, k3, k4⟩ := upL_like hl (by omega)
      obtain ⟨m1, m2, m3⟩ := turnR_like (b := b) (th := th) k1 hr h0 h1 k4
      refine ⟨m1, by rw [m2, k2], fun x => ?_⟩
      have a := m3 x; have c := k3 x
      simp only [List.count_cons, List.count_append] at a c ⊢; omega
    · exact turnR_like hl hr h0 h1 (by omega)
  · split
    · split
      · rename_i g1 g2
        have hk := (kidR_con hr).hgt
        obtain ⟨k1, k2, k3, k4⟩ := upR_like hr (by omega)
        obtain ⟨m1, m2, m3⟩ := turnL_like (b := b) (th := th) hl k1 h0 h1 k4
        refine ⟨m1, by rw [m2, k2], fun x => ?_⟩
        have a := m3 x; have c := k3 x
        simp only [List.count_cons, List.count_append] at a c ⊢; omega
      · exact turnL_like hl hr h0 h1 (by omega)
    · exact ⟨fixV_con hl hr h0 h1, rfl, fun x => rfl⟩

def insV : AV → Int → AV → AV
  | .nil, _, x => x
  | .node b l th wd _ _ _ r, at_, x => if at_ ≤ l.cnt then evenV b (l.insV at_ x) th wd r else evenV b l th wd (r.insV (at_ - l.cnt - 1) x)
def insL (l : List (Int × Int)) (k : Nat) (x : Int × Int) : List (Int × Int) := l.take k ++ x :: l.drop k

theorem insV_like {T : AV} (h : T.Con) {x : AV} (hx : x.Con) {p : Int × Int} (hs : x.seq = [p]) : ∀ at_ : Int, 0 ≤ at_ → at_ ≤ T.cnt →
    (T.insV at_ x).Con ∧ (T.insV at_ x).seq = insL T.seq at_.toNat p ∧ ∀ y, (T.insV at_ x).blocks.count y = (x.blocks ++ T.blocks).count y := by
  induction T with
  | nil => intro at_ h0 h1; exact ⟨hx, by simp [insV, insL, hs, seq], fun y => by simp [insV, blocks]⟩
  | node b l th wd hi mn al r ihl ihr =>
    intro at_ h0 h1
    obtain ⟨g1, g2, _, g5, _, g3, g4⟩ := h
    have cl := g1.cnt
    have cr := g2.cnt
    simp only [AV.cnt] at h1
    simp only [insV]
    split
    · rename_i hle
      obtain ⟨k1, k2, k3⟩ := ihl g1 at_ h0 hle
      obtain ⟨m1, m2, m3⟩ := evenV_like (b := b) (th := th) k1 g2 g3 g4
      refine ⟨m1, ?_, fun y => ?_⟩
      · rw [m2, k2]
        simp only [insL, seq]
        rw [List.take_append_of_le_length (by omega), List.drop_append_of_le_length (by omega)]
        simp
      · have a := m3 y; have c := k3 y
        simp only [blocks, List.count_cons, List.count_append] at a c ⊢; omega
    · rename_i hgt
      obtain ⟨k1, k2, k3⟩ := ihr g2 (at_ - l.cnt - 1) (by omega) (by omega)
      obtain ⟨m1, m2, m3⟩ := evenV_like (b := b) (th := th) g1 k1 g3 g4
      refine ⟨m1, ?_, fun y => ?_⟩
      · rw [m2, k2]
        simp only [insL, seq]
        obtain ⟨j, hj⟩ : ∃ j : Nat, at_.toNat = l.seq.length + (j + 1) := ⟨at_.toNat - l.seq.length - 1, by omega⟩
        rw [show (at_ - l.cnt - 1).toNat = j from by omega, hj, List.take_append, List.drop_append, List.take_of_length_le (l := l.seq) (by omega), List.drop_eq_nil_of_le (as := l.seq) (by omega)]
        simp
      · have a := m3 y; have c := k3 y
        simp only [blocks, List.count_cons, List.count_append] at a c ⊢; omega
end AV
end Go.Proofs.Ytnhmbpeicgnjaaa
