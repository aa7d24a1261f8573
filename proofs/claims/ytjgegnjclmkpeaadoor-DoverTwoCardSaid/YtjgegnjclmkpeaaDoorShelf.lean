/-
  DERIVED: THE SHELF's CONTRACTS AT THIS DUMP, IN PLAIN WORDS (tools/lay-plain.mjs out of 'YtjgegnjclmkpeaaDoorShelf.lean', which tools/lay-shelf.mjs wrote): THE SAME DECLARATIONS UNDER THE SAME NAMES: 'import', 'namespace', 'open', 'def', 'theorem' AND NOTHING ELSE: no command of the shelf's: FOR A HAND-IN. Each laying: the table of numbers ('.._ren') and one theorem, a field a fact of the dump's own or the kernel's comparison; each contract: ONE APPLICATION.
-/
import Derived.Shelf.SlGeneric
import Derived.Shelf.Unicode.PredsAny
import Derived.Shelf.Unicode.ValidAny
import Derived.Ground.SlsfProg
import Derived.Ground.SlgnProg
import Derived.Shelf.SlicesE.Clone
import Derived.Shelf.SlSortCmp.Insertion1
import Derived.Shelf.SlSortCmp.InsertionK
import Derived.Test.YtjgegnjclmkpeaaDoorProg
namespace Go.Proofs
open Go.Shelf
def Tryd.laysLetter_ren : Go.Shelf.Ren := ⟨fun | 200 => 140 | 261 => 170 | 311 => 192 | 312 => 193 | n => n, fun | 21 => 21 | 4 => 4 | 51 => 190 | 5 => 5 | 119 => 202 | 0 => 0 | 141 => 204 | 196 => 230 | 193 => 227 | 3 => 3 | 198 => 233 | 49 => 231 | 194 => 228 | 201 => 236 | 226 => 245 | 46 => 167 | 227 => 246 | n => n, fun | 7 => 1 | 8 => 2 | n => n⟩
theorem Tryd.laysLetter : Go.Proofs.Lays.n200 Tryd.prog Tryd.laysLetter_ren := {
  mixed := by kernel_rfl
  f200 := Tryd.func140.trans (congrArg some (by kernel_rfl))
  f261 := Tryd.func170.trans (congrArg some (by kernel_rfl))
  f311 := Tryd.func192.trans (congrArg some (by kernel_rfl))
  f312 := Tryd.func193.trans (congrArg some (by kernel_rfl))
  t0 := Tryd.underlying0
  a0 := Tryd.isAgg0
  z0 := Tryd.sizeOf0
  v0 := Tryd.zeroValue0
  t3 := Tryd.underlying3
  a3 := Tryd.isAgg3
  z3 := Tryd.sizeOf3
  v3 := Tryd.zeroValue3
  t4 := Tryd.underlying4
  a4 := Tryd.isAgg4
  z4 := Tryd.sizeOf4
  v4 := Tryd.zeroValue4
  t5 := Tryd.underlying5
  a5 := Tryd.isAgg5
  z5 := Tryd.sizeOf5
  v5 := Tryd.zeroValue5
  t21 := Tryd.underlying21
  a21 := Tryd.isAgg21
  z21 := Tryd.sizeOf21
  v21 := Tryd.zeroValue21
  t46 := Tryd.underlying167
  a46 := Tryd.isAgg167
  z46 := Tryd.sizeOf167
  v46 := Tryd.zeroValue167
  t49 := Tryd.underlying231
  a49 := Tryd.isAgg231
  z49 := Tryd.sizeOf231
  v49 := Tryd.zeroValue231
  t51 := Tryd.underlying190
  a51 := Tryd.isAgg190
  z51 := Tryd.sizeOf190
  v51 := Tryd.zeroValue190
  t119 := Tryd.underlying202
  a119 := Tryd.isAgg202
  z119 := Tryd.sizeOf202
  t141 := Tryd.underlying204
  a141 := Tryd.isAgg204
  z141 := Tryd.sizeOf204
  v141 := Tryd.zeroValue204
  t193 := Tryd.underlying227
  a193 := Tryd.isAgg227
  z193 := Tryd.sizeOf227
  v193 := Tryd.zeroValue227
  t194 := Tryd.underlying228
  a194 := Tryd.isAgg228
  z194 := Tryd.sizeOf228
  v194 := Tryd.zeroValue228
  t196 := Tryd.underlying230
  a196 := Tryd.isAgg230
  z196 := Tryd.sizeOf230
  v196 := Tryd.zeroValue230
  t198 := Tryd.underlying233
  a198 := Tryd.isAgg233
  z198 := Tryd.sizeOf233
  v198 := Tryd.zeroValue233
  t201 := Tryd.underlying236
  a201 := Tryd.isAgg236
  z201 := Tryd.sizeOf236
  v201 := Tryd.zeroValue236
  t226 := Tryd.underlying245
  a226 := Tryd.isAgg245
  z226 := Tryd.sizeOf245
  v226 := Tryd.zeroValue245
  t227 := Tryd.underlying246
  a227 := Tryd.isAgg246
  z227 := Tryd.sizeOf246
  v227 := Tryd.zeroValue246
  g7 := by kernel_rfl
  g8 := by kernel_rfl }
def Tryd.laysValid_ren : Go.Shelf.Ren := ⟨fun | 196 => 142 | 259 => 171 | n => n, fun | 9 => 9 | 4 => 4 | 3 => 3 | 5 => 5 | 12 => 12 | 119 => 202 | 0 => 0 | 46 => 167 | 139 => 208 | 138 => 207 | 53 => 146 | n => n, fun | 3 => 3 | 4 => 4 | n => n⟩
theorem Tryd.laysValid : Go.Proofs.Lays.n196 Tryd.prog Tryd.laysValid_ren := {
  mixed := by kernel_rfl
  f196 := Tryd.func142.trans (congrArg some (by kernel_rfl))
  f259 := Tryd.func171.trans (congrArg some (by kernel_rfl))
  t0 := Tryd.underlying0
  a0 := Tryd.isAgg0
  z0 := Tryd.sizeOf0
  v0 := Tryd.zeroValue0
  t3 := Tryd.underlying3
  a3 := Tryd.isAgg3
  z3 := Tryd.sizeOf3
  v3 := Tryd.zeroValue3
  t4 := Tryd.underlying4
  a4 := Tryd.isAgg4
  z4 := Tryd.sizeOf4
  v4 := Tryd.zeroValue4
  t5 := Tryd.underlying5
  a5 := Tryd.isAgg5
  z5 := Tryd.sizeOf5
  v5 := Tryd.zeroValue5
  t9 := Tryd.underlying9
  a9 := Tryd.isAgg9
  z9 := Tryd.sizeOf9
  v9 := Tryd.zeroValue9
  t12 := Tryd.underlying12
  a12 := Tryd.isAgg12
  z12 := Tryd.sizeOf12
  v12 := Tryd.zeroValue12
  t46 := Tryd.underlying167
  a46 := Tryd.isAgg167
  z46 := Tryd.sizeOf167
  v46 := Tryd.zeroValue167
  t53 := Tryd.underlying146
  a53 := Tryd.isAgg146
  z53 := Tryd.sizeOf146
  v53 := Tryd.zeroValue146
  t119 := Tryd.underlying202
  a119 := Tryd.isAgg202
  z119 := Tryd.sizeOf202
  t138 := Tryd.underlying207
  a138 := Tryd.isAgg207
  z138 := Tryd.sizeOf207
  v138 := Tryd.zeroValue207
  t139 := Tryd.underlying208
  a139 := Tryd.isAgg208
  z139 := Tryd.sizeOf208
  v139 := Tryd.zeroValue208
  g3 := by kernel_rfl
  g4 := by kernel_rfl }
def Tryd.laysInsInt_ren : Go.Shelf.Ren := ⟨fun | 20 => 158 | n => n, fun | 24 => 3 | 22 => 25 | 3 => 3 | 25 => 143 | 4 => 4 | 0 => 0 | n => n, fun | n => n⟩
theorem Tryd.laysInsInt : Go.Proofs.SlLaysF.n20 Tryd.prog Tryd.laysInsInt_ren := {
  mixed := by kernel_rfl
  f20 := ⟨Tryd.f158.name, by decide, Tryd.func158.trans (congrArg some (by kernel_rfl))⟩
  t0 := Tryd.underlying0
  a0 := Tryd.isAgg0
  z0 := Tryd.sizeOf0
  v0 := Tryd.zeroValue0
  t3 := Tryd.underlying3
  a3 := Tryd.isAgg3
  z3 := Tryd.sizeOf3
  v3 := Tryd.zeroValue3
  t4 := Tryd.underlying4
  a4 := Tryd.isAgg4
  z4 := Tryd.sizeOf4
  v4 := Tryd.zeroValue4
  t22 := Tryd.underlying25
  a22 := Tryd.isAgg25
  z22 := Tryd.sizeOf25
  v22 := Tryd.zeroValue25
  a24 := Tryd.isAgg3
  z24 := Tryd.sizeOf3
  t25 := Tryd.underlying143
  a25 := Tryd.isAgg143
  z25 := Tryd.sizeOf143
  v25 := Tryd.zeroValue143 }
def Tryd.laysInsLeft_ren : Go.Shelf.Ren := ⟨fun | 20 => 200 | n => n, fun | 24 => 173 | 22 => 171 | 3 => 3 | 25 => 221 | 4 => 4 | 0 => 0 | n => n, fun | n => n⟩
theorem Tryd.laysInsLeft : Go.Proofs.SlLaysF0.n20 Tryd.prog Tryd.laysInsLeft_ren := {
  mixed := by kernel_rfl
  f20 := ⟨Tryd.f200.name, by decide, Tryd.func200.trans (congrArg some (by kernel_rfl))⟩
  t0 := Tryd.underlying0
  a0 := Tryd.isAgg0
  z0 := Tryd.sizeOf0
  v0 := Tryd.zeroValue0
  t3 := Tryd.underlying3
  a3 := Tryd.isAgg3
  z3 := Tryd.sizeOf3
  v3 := Tryd.zeroValue3
  t4 := Tryd.underlying4
  a4 := Tryd.isAgg4
  z4 := Tryd.sizeOf4
  v4 := Tryd.zeroValue4
  t22 := Tryd.underlying171
  a22 := Tryd.isAgg171
  z22 := Tryd.sizeOf171
  v22 := Tryd.zeroValue171
  t25 := Tryd.underlying221
  a25 := Tryd.isAgg221
  z25 := Tryd.sizeOf221
  v25 := Tryd.zeroValue221 }
def Tryd.laysCloneJob_ren : Go.Shelf.Ren := ⟨fun | 41 => 51 | n => n, fun | 22 => 22 | 23 => 39 | 4 => 4 | n => n, fun | n => n⟩
theorem Tryd.laysCloneJob : Go.Proofs.SlLaysE0.n41 Tryd.prog Tryd.laysCloneJob_ren := {
  mixed := by kernel_rfl
  f41 := ⟨Tryd.f51.name, by decide, Tryd.func51.trans (congrArg some (by kernel_rfl))⟩
  t4 := Tryd.underlying4
  a4 := Tryd.isAgg4
  z4 := Tryd.sizeOf4
  v4 := Tryd.zeroValue4
  t22 := Tryd.underlying22
  a22 := Tryd.isAgg22
  z22 := Tryd.sizeOf22
  v22 := Tryd.zeroValue22 }
def Tryd.laysCloneLeft_ren : Go.Shelf.Ren := ⟨fun | 41 => 181 | n => n, fun | 22 => 171 | 23 => 173 | 4 => 4 | n => n, fun | n => n⟩
theorem Tryd.laysCloneLeft : Go.Proofs.SlLaysE0.n41 Tryd.prog Tryd.laysCloneLeft_ren := {
  mixed := by kernel_rfl
  f41 := ⟨Tryd.f181.name, by decide, Tryd.func181.trans (congrArg some (by kernel_rfl))⟩
  t4 := Tryd.underlying4
  a4 := Tryd.isAgg4
  z4 := Tryd.sizeOf4
  v4 := Tryd.zeroValue4
  t22 := Tryd.underlying171
  a22 := Tryd.isAgg171
  z22 := Tryd.sizeOf171
  v22 := Tryd.zeroValue171 }
end Go.Proofs
