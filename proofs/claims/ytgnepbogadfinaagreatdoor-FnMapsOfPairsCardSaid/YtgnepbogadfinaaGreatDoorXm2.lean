import Derived.Shelf.Small.Wraps
import Derived.Shelf.Strings.SlTrimAscii
import Derived.Test.YtgnepbogadfinaaGreatDoorProg
/- A part of the proof: lemmas that later parts use. -/
set_option linter.unusedVariables false
set_option linter.unusedSimpArgs false
namespace Go.Proofs.YtgnepbogadfinaaGreatDoor.N
open Go.Shelf Go.RowKit
def trim_ren : Go.Shelf.Ren := ⟨fun
  | 160 => 72 | 232 => 93 | 231 => 92 | 227 => 94 | 234 => 96 | 233 => 95 | 236 => 98 | 235 => 97 | 228 => 102 | 271 => 105 | 151 => 104 | 197 => 103 | 120 => 108 | 152 => 107 | 260 => 106 | 137 => 109 | 119 => 110 | 224 => 111 | 225 => 112 | 217 => 113 | 266 => 114
  | n => n, fun
  | 9 => 9 | 4 => 4 | 3 => 3 | 5 => 5 | 117 => 121 | 116 => 120 | 0 => 0 | 124 => 124 | 21 => 21 | 105 => 128 | 46 => 85 | 119 => 132 | 139 => 135 | 138 => 134
  | n => n, fun
  | 3 => 0 | 4 => 1
  | n => n⟩
theorem trim : Go.Proofs.Lays.n160 Tryz.prog trim_ren := {
  mixed := by kernel_rfl,
  f119 := Tryz.func110.trans (congrArg some (by kernel_rfl)),
  f120 := Tryz.func108.trans (congrArg some (by kernel_rfl)),
  f137 := Tryz.func109.trans (congrArg some (by kernel_rfl)),
  f151 := Tryz.func104.trans (congrArg some (by kernel_rfl)),
  f152 := Tryz.func107.trans (congrArg some (by kernel_rfl)),
  f160 := Tryz.func72.trans (congrArg some (by kernel_rfl)),
  f197 := Tryz.func103.trans (congrArg some (by kernel_rfl)),
  f217 := Tryz.func113.trans (congrArg some (by kernel_rfl)),
  f224 := Tryz.func111.trans (congrArg some (by kernel_rfl)),
  f225 := Tryz.func112.trans (congrArg some (by kernel_rfl)),
  f227 := Tryz.func94.trans (congrArg some (by kernel_rfl)),
  f228 := Tryz.func102.trans (congrArg some (by kernel_rfl)),
  f231 := Tryz.func92.trans (congrArg some (by kernel_rfl)),
  f232 := Tryz.func93.trans (congrArg some (by kernel_rfl)),
  f233 := Tryz.func95.trans (congrArg some (by kernel_rfl)),
  f234 := Tryz.func96.trans (congrArg some (by kernel_rfl)),
  f235 := Tryz.func97.trans (congrArg some (by kernel_rfl)),
  f236 := Tryz.func98.trans (congrArg some (by kernel_rfl)),
  f260 := Tryz.func106.trans (congrArg some (by kernel_rfl)),
  f266 := Tryz.func114.trans (congrArg some (by kernel_rfl)),
  f271 := Tryz.func105.trans (congrArg some (by kernel_rfl)),
  t0 := Tryz.underlying0,
  a0 := Tryz.isAgg0,
  z0 := Tryz.sizeOf0,
  v0 := Tryz.zeroValue0,
  t3 := Tryz.underlying3,
  a3 := Tryz.isAgg3,
  z3 := Tryz.sizeOf3,
  v3 := Tryz.zeroValue3,
  t4 := Tryz.underlying4,
  a4 := Tryz.isAgg4,
  z4 := Tryz.sizeOf4,
  v4 := Tryz.zeroValue4,
  t5 := Tryz.underlying5,
  a5 := Tryz.isAgg5,
  z5 := Tryz.sizeOf5,
  v5 := Tryz.zeroValue5,
  t9 := Tryz.underlying9,
  a9 := Tryz.isAgg9,
  z9 := Tryz.sizeOf9,
  v9 := Tryz.zeroValue9,
  t21 := Tryz.underlying21,
  a21 := Tryz.isAgg21,
  z21 := Tryz.sizeOf21,
  v21 := Tryz.zeroValue21,
  t46 := Tryz.underlying85,
  a46 := Tryz.isAgg85,
  z46 := Tryz.sizeOf85,
  v46 := Tryz.zeroValue85,
  t105 := Tryz.underlying128,
  a105 := Tryz.isAgg128,
  z105 := Tryz.sizeOf128,
  v105 := Tryz.zeroValue128,
  t116 := Tryz.underlying120,
  a116 := Tryz.isAgg120,
  z116 := Tryz.sizeOf120,
  t117 := Tryz.underlying121,
  a117 := Tryz.isAgg121,
  z117 := Tryz.sizeOf121,
  v117 := Tryz.zeroValue121,
  t119 := Tryz.underlying132,
  a119 := Tryz.isAgg132,
  z119 := Tryz.sizeOf132,
  t124 := Tryz.underlying124,
  a124 := Tryz.isAgg124,
  z124 := Tryz.sizeOf124,
  v124 := Tryz.zeroValue124,
  t138 := Tryz.underlying134,
  a138 := Tryz.isAgg134,
  z138 := Tryz.sizeOf134,
  v138 := Tryz.zeroValue134,
  t139 := Tryz.underlying135,
  a139 := Tryz.isAgg135,
  z139 := Tryz.sizeOf135,
  v139 := Tryz.zeroValue135,
  g3 := by kernel_rfl,
  g4 := by kernel_rfl }
def cutp_ren : Go.Shelf.Ren := ⟨fun
  | 103 => 42 | 210 => 73 | 206 => 99
  | n => n, fun
  | 9 => 9 | 4 => 4 | 24 => 39 | 3 => 3
  | n => n, fun
 
  | n => n⟩
theorem cutp : Go.Proofs.Lays.n103 Tryz.prog cutp_ren := {
  mixed := by kernel_rfl,
  f103 := Tryz.func42.trans (congrArg some (by kernel_rfl)),
  f206 := Tryz.func99.trans (congrArg some (by kernel_rfl)),
  f210 := Tryz.func73.trans (congrArg some (by kernel_rfl)),
  t3 := Tryz.underlying3,
  a3 := Tryz.isAgg3,
  z3 := Tryz.sizeOf3,
  v3 := Tryz.zeroValue3,
  t4 := Tryz.underlying4,
  a4 := Tryz.isAgg4,
  z4 := Tryz.sizeOf4,
  v4 := Tryz.zeroValue4,
  t9 := Tryz.underlying9,
  a9 := Tryz.isAgg9,
  z9 := Tryz.sizeOf9,
  v9 := Tryz.zeroValue9,
  t24 := Tryz.underlying39,
  a24 := Tryz.isAgg39,
  z24 := Tryz.sizeOf39,
  v24 := Tryz.zeroValue39 }
end Go.Proofs.YtgnepbogadfinaaGreatDoor.N
