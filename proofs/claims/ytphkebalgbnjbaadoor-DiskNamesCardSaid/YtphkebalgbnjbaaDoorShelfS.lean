/-
  DERIVED: THE SHELF's CONTRACTS AT THIS DUMP, IN PLAIN WORDS (tools/lay-plain.mjs out of 'YtphkebalgbnjbaaDoorShelfS.lean', which tools/lay-shelf.mjs wrote): THE SAME DECLARATIONS UNDER THE SAME NAMES: 'import', 'namespace', 'open', 'def', 'theorem' AND NOTHING ELSE: no command of the shelf's: FOR A HAND-IN. Each laying: the table of numbers ('.._ren') and one theorem, a field a fact of the dump's own or the kernel's comparison; each contract: ONE APPLICATION.
-/
import Derived.Shelf.Sort.Plain
import Derived.Test.YtphkebalgbnjbaaDoorProg
namespace Go.Proofs
open Go.Shelf
def Tryd.laysSortS_ren : Go.Shelf.Ren := ⟨fun | 190 => 45 | 125 => 73 | 258 => 72 | 128 => 126 | 129 => 127 | 302 => 117 | 303 => 118 | 304 => 119 | 305 => 120 | 306 => 121 | 307 => 122 | 308 => 123 | 309 => 124 | 310 => 125 | 333 => 152 | 329 => 153 | 330 => 154 | 334 => 155 | 335 => 156 | 336 => 157 | 344 => 173 | n => n, fun | 31 => 47 | 9 => 9 | 3 => 3 | 46 => 78 | 0 => 0 | 51 => 123 | 53 => 83 | 4 => 4 | 183 => 180 | 182 => 179 | 131 => 185 | 5 => 5 | 218 => 218 | 222 => 108 | 228 => 228 | 229 => 229 | n => n, fun | n => n⟩
theorem Tryd.laysSortS : Go.Proofs.Lays.n190 Tryd.prog Tryd.laysSortS_ren := {
  mixed := by kernel_rfl
  f125 := Tryd.func73.trans (congrArg some (by kernel_rfl))
  f128 := Tryd.func126.trans (congrArg some (by kernel_rfl))
  f129 := Tryd.func127.trans (congrArg some (by kernel_rfl))
  f190 := Tryd.func45.trans (congrArg some (by kernel_rfl))
  f258 := Tryd.func72.trans (congrArg some (by kernel_rfl))
  f302 := Tryd.func117.trans (congrArg some (by kernel_rfl))
  f303 := Tryd.func118.trans (congrArg some (by kernel_rfl))
  f304 := Tryd.func119.trans (congrArg some (by kernel_rfl))
  f305 := Tryd.func120.trans (congrArg some (by kernel_rfl))
  f306 := Tryd.func121.trans (congrArg some (by kernel_rfl))
  f307 := Tryd.func122.trans (congrArg some (by kernel_rfl))
  f308 := Tryd.func123.trans (congrArg some (by kernel_rfl))
  f309 := Tryd.func124.trans (congrArg some (by kernel_rfl))
  f310 := Tryd.func125.trans (congrArg some (by kernel_rfl))
  f329 := Tryd.func153.trans (congrArg some (by kernel_rfl))
  f330 := Tryd.func154.trans (congrArg some (by kernel_rfl))
  f333 := Tryd.func152.trans (congrArg some (by kernel_rfl))
  f334 := Tryd.func155.trans (congrArg some (by kernel_rfl))
  f335 := Tryd.func156.trans (congrArg some (by kernel_rfl))
  f336 := Tryd.func157.trans (congrArg some (by kernel_rfl))
  f344 := Tryd.func173.trans (congrArg some (by kernel_rfl))
  t0 := Tryd.underlying0
  a0 := Tryd.isAgg0
  z0 := Tryd.sizeOf0
  v0 := Tryd.zeroValue0
  t3 := Tryd.underlying3
  a3 := Tryd.isAgg3
  z3 := Tryd.sizeOf3
  v3 := Tryd.zeroValue3
  t4 := Tryd.underlying4
  a4 := Tryd.isAgg4
  z4 := Tryd.sizeOf4
  v4 := Tryd.zeroValue4
  t5 := Tryd.underlying5
  a5 := Tryd.isAgg5
  z5 := Tryd.sizeOf5
  v5 := Tryd.zeroValue5
  t9 := Tryd.underlying9
  a9 := Tryd.isAgg9
  z9 := Tryd.sizeOf9
  v9 := Tryd.zeroValue9
  t31 := Tryd.underlying47
  a31 := Tryd.isAgg47
  z31 := Tryd.sizeOf47
  v31 := Tryd.zeroValue47
  t46 := Tryd.underlying78
  a46 := Tryd.isAgg78
  z46 := Tryd.sizeOf78
  v46 := Tryd.zeroValue78
  t51 := Tryd.underlying123
  a51 := Tryd.isAgg123
  z51 := Tryd.sizeOf123
  v51 := Tryd.zeroValue123
  t53 := Tryd.underlying83
  a53 := Tryd.isAgg83
  z53 := Tryd.sizeOf83
  v53 := Tryd.zeroValue83
  t131 := Tryd.underlying185
  a131 := Tryd.isAgg185
  z131 := Tryd.sizeOf185
  v131 := Tryd.zeroValue185
  t182 := Tryd.underlying179
  a182 := Tryd.isAgg179
  z182 := Tryd.sizeOf179
  v182 := Tryd.zeroValue179
  t183 := Tryd.underlying180
  a183 := Tryd.isAgg180
  z183 := Tryd.sizeOf180
  v183 := Tryd.zeroValue180
  t218 := Tryd.underlying218
  a218 := Tryd.isAgg218
  z218 := Tryd.sizeOf218
  v218 := Tryd.zeroValue218
  t222 := Tryd.underlying108
  a222 := Tryd.isAgg108
  z222 := Tryd.sizeOf108
  v222 := Tryd.zeroValue108
  t228 := Tryd.underlying228
  a228 := Tryd.isAgg228
  z228 := Tryd.sizeOf228
  v228 := Tryd.zeroValue228
  t229 := Tryd.underlying229
  a229 := Tryd.isAgg229
  z229 := Tryd.sizeOf229
  v229 := Tryd.zeroValue229 }
open Go.RowKit Go.Sort in
theorem Tryd.slices_Sort_string (blk off cap : Nat) (ss : List (List UInt8)) (w : World) (hH : Holds encStr w blk off ss.toArray) (hblk : blk < w.heap.size) (hsz : ss.length < 4611686018427387904) :
    Calls Tryd.prog 45 #[.slice (some ⟨blk, off, none⟩) ss.length cap] w fun e w' =>
      e = .returned (.tuple #[]) ∧ ∃ n os, w' = grow (putRow encStr (Sort.ahead w n) blk off (ss.mergeSort fun x y => decide (x ≤ y)).toArray) os := Any.slices_Sort_string Tryd.laysSortS blk off cap ss w hH hblk hsz
end Go.Proofs
