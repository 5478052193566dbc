/- package disk: SyncNames: a contract. -/
import Derived.Test.YtbfmdpgghknccaaDoorDiskOps
namespace Go.Proofs.YtbfmdpgghknccaaDoor
open Go.RowKit Go.Maps
set_option linter.unusedVariables false
set_option linter.unusedSimpArgs false

/-- A round of a loop that copies a map: the part of memory that it speaks of. -/
structure CopyAt (w0 : World) (d bn bs r : Nat) (N : DataW Nat) (steps stop : Int) (w : World) (cnt : Nat) : Prop where
  blk : Blk w d 80 #[.map (some bn), .map (some bs), .int .i64 steps, .int .i64 stop]
  le : cnt ≤ Maps.size N
  go : ∃ (left : Lit → Bool) (Dout : DataW Nat), w.ranges Tryd.prog 9 ptrElem bn r (Maps.size N) N left cnt ∧ w.ownsMap Tryd.prog 9 ptrElem bs (Maps.size N - cnt) Dout ∧ Agree Dout N left
  only : Only (fun k => k = d) w0 w
  new : w0.heap.size ≤ bs ∧ w0.heap.size ≤ r ∧ r ≠ bs ∧ d < w0.heap.size ∧ bn < w0.heap.size ∧ bn ≠ d

set_option maxRecDepth 100000 in
set_option maxHeartbeats 1000000 in
theorem syncNames_ok (d bn bs : Nat) (N S : DataW Nat) (steps stop : Int) (w : World) (hd : Dk w d bn bs N S steps stop) (hgo : Goes steps stop) (h0 : 0 ≤ steps) (hk : steps ≤ 1000000000000) (hsz : Maps.size N < maxLen) :
    Calls Tryd.prog 29 #[.pointer (some ⟨d, 0, none⟩)] w fun e w' => e = .returned .nilIface ∧ ∃ bs', w.heap.size ≤ bs' ∧ Dk w' d bn bs' N N (steps + 1) stop ∧ Only (fun k => k = d) w w' := by
  have hmm := @run_makeMap Tryd.prog
  have HD := Lib.hid hd
  have HS := Lib.hid (dkstep_ok d bn bs N S steps stop w hd hgo h0 hk)
  have HZ := Lib.hid hsz
  clear hd hgo h0 hk hsz
  go_enter Tryd.func29, Tryd.ntmps29
  go_wp2_with fail
  refine HS.out.mono ?_
  rintro e w2 ⟨rfl, hD2, ho2⟩
  have hdl := hD2.blk.lt
  have c1 : (w2.alloc (.map #[] 0)).cell? ⟨d, 1, none⟩ = some (.map (some bs)) := (hD2.alloc _).c1
  have z := (hD2.alloc (.map #[] 0)).blk.frozen
  have c0 : ((w2.alloc (.map #[] 0)).setCell ⟨d, 1, none⟩ (.map (some w2.heap.size))).cell? ⟨d, 0, none⟩ = some (.map (some bn)) := by
    have := ((hD2.alloc (.map #[] 0)).blk.set_ 1 (.map (some w2.heap.size))).cell 0
    simpa using this
  have ho3 : Only (fun k => k = d) w ((w2.alloc (.map #[] 0)).setCell ⟨d, 1, none⟩ (.map (some w2.heap.size))) := (ho2.alloc _).setCell (p := ⟨d, 1, none⟩) rfl _
  have hn3 : ((w2.alloc (.map #[] 0)).setCell ⟨d, 1, none⟩ (.map (some w2.heap.size))).ownsMap Tryd.prog 9 ptrElem bn (Maps.size N) N := (hD2.nm.tight.alloc _).setCell (a := ⟨d, 1, none⟩) hD2.nd.1 _
  have hm3 : ((w2.alloc (.map #[] 0)).setCell ⟨d, 1, none⟩ (.map (some w2.heap.size))).ownsMap Tryd.prog 9 ptrElem w2.heap.size 0 (.map []) := (World.ownsMap_made _ _ _ _).setCell (a := ⟨d, 1, none⟩) (by show w2.heap.size ≠ d; omega) _
  have hb3 : Blk ((w2.alloc (.map #[] 0)).setCell ⟨d, 1, none⟩ (.map (some w2.heap.size))) d 80 #[.map (some bn), .map (some w2.heap.size), .int .i64 (steps + 1), .int .i64 stop] := by
    have := (hD2.alloc (.map #[] 0)).blk.set_ 1 (.map (some w2.heap.size))
    simpa using this
  have hs3 : ((w2.alloc (.map #[] 0)).setCell ⟨d, 1, none⟩ (.map (some w2.heap.size))).heap.size = w2.heap.size + 1 := by simp
  have H2 := Lib.hid (And.intro hD2 (And.intro ho3 (And.intro hm3 (And.intro hb3 (And.intro hs3 ho2.size)))))
  clear hD2 ho2 ho3 hm3 hb3 hs3 hdl
  go_wp2_with (first | (at_range; refine wpList_range_own _ rfl _ 78 rfl 9 93 lawS Tryd.underlying78 _ bn _ _ rfl hn3 ?_; intro w4 hrg4 hg4 hs4) | fail)
  go_frame
  have e3 := H2.out.2.2.2.2.1
  rw [e3] at hrg4 hs4
  simp only [e3]
  clear e3 c0 c1 z hn3
  have hst : CopyAt w d bn w2.heap.size (w2.heap.size + 1) N (steps + 1) stop w4 (Maps.size N) := by
    obtain ⟨hD2, ho3, hm3, hb3, hs3, hsz⟩ := H2.out
    have ho4 : Only (fun _ => False) ((w2.alloc (.map #[] 0)).setCell ⟨d, 1, none⟩ (.map (some w2.heap.size))) w4 := ⟨hg4.os, hg4.tape, hg4.output, hg4.size, fun k hk _ => hg4.block k hk (by simp)⟩
    have h1 := HD.out.blk.lt
    have h2 := HD.out.nm.lt
    exact ⟨hb3.only ho4 (fun h => h), Nat.le_refl _, ⟨_, .map [], hrg4, by rw [Nat.sub_self]; exact hm3.kept hg4 (by simp), agree_start N⟩, ho3.trans (ho4.mono (fun _ _ h => h.elim)), by omega, by omega, by omega, h1, h2, HD.out.nd.1⟩
  have HST := Lib.hid hst
  have HN := Lib.hid (HD.out.nm.tight.canon lawS)
  clear hst hg4 hs4 hrg4
  go_loopw [4] (fun _ wr => ∃ cnt, CopyAt w d bn w2.heap.size (w2.heap.size + 1) N (steps + 1) stop wr cnt) (fun _ wr => wr.rangeLeft bn (w2.heap.size + 1))
  case atStart => exact ⟨_, HST.out⟩
  case round =>
    obtain ⟨cnt, hC⟩ := hrel
    obtain ⟨left, Dout, hrg, hout, hA⟩ := hC.go
    have HC := Lib.hid (And.intro hC (And.intro hA hout))
    clear hC hA hout
    go_wp2_with (first | (at_next; refine wpList_next_ptr _ rfl _ rfl 9 lawS Tryd.underlying9 bn (w2.heap.size + 1) _ N _ _ rfl hrg ?_ ?_) | fail)
    · intro hc0 hl0
      go_wp2_with fail
      go_ret
      obtain ⟨hC, hA, hout⟩ := HC.out
      have e := agree_end hA hl0 (hout.canon lawS) HN.out
      subst e
      exact ⟨rfl, w2.heap.size, hC.new.1, ⟨hC.blk, ⟨_, hrg.owns⟩, ⟨_, hout⟩, fun e => by have := hC.new; omega⟩, hC.only⟩
    · intro s p w5 cnt5 hsz5 hl5 hat5 hrg5 hlt5 hg5 hs5 hen5
      obtain ⟨hC, hA, hout⟩ := HC.out
      have ho5 := Only.of_grown hg5
      have hnew := hC.new
      have hb5 := hC.blk.only ho5 (by omega)
      have c1 : w5.cell? ⟨d, 1, none⟩ = some (.map (some w2.heap.size)) := hb5.cell 1
      have hout5 := hout.kept hg5 (by intro e; have := Option.some.inj e; omega)
      have hbound : Maps.size N - cnt < maxLen := Nat.lt_of_le_of_lt (Nat.sub_le _ _) HZ.out
      have H5 := Lib.hid (And.intro hb5 (And.intro ho5 (And.intro hnew (And.intro (keyS s hsz5) hat5))))
      have HR := Lib.hid (And.intro hrg5 (And.intro hrg hlt5))
      clear hb5 ho5 hnew hC hA hout hs5 hsz5 hl5 hat5 hg5 hrg5 hrg hlt5
      go_wp2_with (first | (at_mapUpdate; refine wpList_update_ptr _ rfl _ _ _ 78 rfl 9 93 lawS Tryd.underlying78 w2.heap.size _ _ rfl hout5 hbound _ _ rfl H5.out.2.2.2.1 p rfl ?_; intro w6 hout6 hg6 hs6; go_frame) | fail)
      obtain ⟨hrg5, hrg, hlt5⟩ := HR.out
      obtain ⟨hb5, ho5, hnew, hkey, hat5⟩ := H5.out
      obtain ⟨hC, hA, hout⟩ := HC.out
      have hrg6 := hrg5.kept hg6 (fun e => by have := Option.some.inj e; omega) (fun e => by have := Option.some.inj e; omega)
      have ho6 := Only.of_grown hg6
      have hle := hC.le
      have hfin : CopyAt w d bn w2.heap.size (w2.heap.size + 1) N (steps + 1) stop w6 cnt5 := by
        refine ⟨hb5.only ho6 (by omega), by omega, ⟨_, _, hrg6, hout6.mono (by omega), agree_step hA hout.isMap trivial hat5⟩, ?_, hnew⟩
        exact (hC.only.step ho5 (fun i hi e => by omega)).step ho6 (fun i hi e => by omega)
      go_roundw
      case rel => exact ⟨cnt5, hfin⟩
      case measure => rw [hrg6.left_eq, hrg.left_eq]; exact hlt5
end Go.Proofs.YtbfmdpgghknccaaDoor
