/-
  DERIVED: THE SHELF's CONTRACTS AT THIS DUMP, IN PLAIN WORDS (tools/lay-plain.mjs out of 'TrySort.lean', which tools/lay-shelf.mjs wrote): THE SAME DECLARATIONS UNDER THE SAME NAMES: 'import', 'namespace', 'open', 'def', 'theorem' AND NOTHING ELSE: no command of the shelf's: FOR A HAND-IN. Each laying: the table of numbers ('.._ren') and one theorem, a field a fact of the dump's own or the kernel's comparison; each contract: ONE APPLICATION.
-/
import Derived.Shelf.Sort.Plain
import Derived.Shelf.Slices.In.SortNone
import Derived.Test.YtcehdpeeaogpiaaProg
namespace Go.Proofs
open Go.Shelf
def Try.lays189_ren : Go.Shelf.Ren := ⟨fun | 189 => 164 | 125 => 207 | 257 => 206 | 128 => 225 | 129 => 226 | 294 => 216 | 295 => 217 | 296 => 218 | 297 => 219 | 298 => 220 | 299 => 221 | 216 => 222 | 300 => 223 | 301 => 224 | 328 => 229 | 329 => 230 | 330 => 231 | 331 => 232 | 332 => 233 | 215 => 214 | 343 => 234 | n => n, fun | 28 => 29 | 3 => 3 | 46 => 241 | 0 => 0 | 51 => 257 | 53 => 259 | 4 => 4 | 183 => 251 | 182 => 250 | 131 => 56 | 5 => 5 | 9 => 9 | 218 => 261 | 222 => 265 | 228 => 267 | 229 => 268 | n => n, fun | n => n⟩
theorem Try.lays189 : Go.Proofs.Lays.n189 Try.prog Try.lays189_ren := {
  mixed := by kernel_rfl
  f125 := Try.func207.trans (congrArg some (by kernel_rfl))
  f128 := Try.func225.trans (congrArg some (by kernel_rfl))
  f129 := Try.func226.trans (congrArg some (by kernel_rfl))
  f189 := Try.func164.trans (congrArg some (by kernel_rfl))
  f215 := Try.func214.trans (congrArg some (by kernel_rfl))
  f216 := Try.func222.trans (congrArg some (by kernel_rfl))
  f257 := Try.func206.trans (congrArg some (by kernel_rfl))
  f294 := Try.func216.trans (congrArg some (by kernel_rfl))
  f295 := Try.func217.trans (congrArg some (by kernel_rfl))
  f296 := Try.func218.trans (congrArg some (by kernel_rfl))
  f297 := Try.func219.trans (congrArg some (by kernel_rfl))
  f298 := Try.func220.trans (congrArg some (by kernel_rfl))
  f299 := Try.func221.trans (congrArg some (by kernel_rfl))
  f300 := Try.func223.trans (congrArg some (by kernel_rfl))
  f301 := Try.func224.trans (congrArg some (by kernel_rfl))
  f328 := Try.func229.trans (congrArg some (by kernel_rfl))
  f329 := Try.func230.trans (congrArg some (by kernel_rfl))
  f330 := Try.func231.trans (congrArg some (by kernel_rfl))
  f331 := Try.func232.trans (congrArg some (by kernel_rfl))
  f332 := Try.func233.trans (congrArg some (by kernel_rfl))
  f343 := Try.func234.trans (congrArg some (by kernel_rfl))
  t0 := Try.underlying0
  a0 := Try.isAgg0
  z0 := Try.sizeOf0
  v0 := Try.zeroValue0
  t3 := Try.underlying3
  a3 := Try.isAgg3
  z3 := Try.sizeOf3
  v3 := Try.zeroValue3
  t4 := Try.underlying4
  a4 := Try.isAgg4
  z4 := Try.sizeOf4
  v4 := Try.zeroValue4
  t5 := Try.underlying5
  a5 := Try.isAgg5
  z5 := Try.sizeOf5
  v5 := Try.zeroValue5
  t9 := Try.underlying9
  a9 := Try.isAgg9
  z9 := Try.sizeOf9
  v9 := Try.zeroValue9
  t28 := Try.underlying29
  a28 := Try.isAgg29
  z28 := Try.sizeOf29
  v28 := Try.zeroValue29
  t46 := Try.underlying241
  a46 := Try.isAgg241
  z46 := Try.sizeOf241
  v46 := Try.zeroValue241
  t51 := Try.underlying257
  a51 := Try.isAgg257
  z51 := Try.sizeOf257
  v51 := Try.zeroValue257
  t53 := Try.underlying259
  a53 := Try.isAgg259
  z53 := Try.sizeOf259
  v53 := Try.zeroValue259
  t131 := Try.underlying56
  a131 := Try.isAgg56
  z131 := Try.sizeOf56
  v131 := Try.zeroValue56
  t182 := Try.underlying250
  a182 := Try.isAgg250
  z182 := Try.sizeOf250
  v182 := Try.zeroValue250
  t183 := Try.underlying251
  a183 := Try.isAgg251
  z183 := Try.sizeOf251
  v183 := Try.zeroValue251
  t218 := Try.underlying261
  a218 := Try.isAgg261
  z218 := Try.sizeOf261
  v218 := Try.zeroValue261
  t222 := Try.underlying265
  a222 := Try.isAgg265
  z222 := Try.sizeOf265
  v222 := Try.zeroValue265
  t228 := Try.underlying267
  a228 := Try.isAgg267
  z228 := Try.sizeOf267
  v228 := Try.zeroValue267
  t229 := Try.underlying268
  a229 := Try.isAgg268
  z229 := Try.sizeOf268
  v229 := Try.zeroValue268 }
open Go.Sort Go.RowKit in
theorem Try.slices_Sort_int (blk off cap : Nat) (zs : List Int) (w : World) (hH : Holds (Value.int .i64) w blk off zs.toArray) (hblk : blk < w.heap.size) (hsz : zs.length < 4611686018427387904) :
    Calls Try.prog 164 #[.slice (some ⟨blk, off, none⟩) zs.length cap] w fun e w' =>
      e = .returned (.tuple #[]) ∧ ∃ n os, w' = grow (putRow (Value.int .i64) (Sort.ahead w n) blk off (zs.mergeSort fun x y => decide (x ≤ y)).toArray) os := Any.slices_Sort_int Try.lays189 blk off cap zs w hH hblk hsz
open Go.RowKit Go.Sort in
/-- .. and plain. (LAID: no walk: one application.) -/
theorem Try.slices_Sort_int_none (p : Option Addr) (cap : Nat) (w : World) :
    Calls Try.prog 164 #[.slice p 0 cap] w fun e w' => e = .returned (.tuple #[]) ∧ w' = w := Any.slices_Sort_int_none Try.lays189 p cap w
end Go.Proofs
