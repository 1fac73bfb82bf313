/- Proved here: contracts of functions and plain laws, part 2 of one proof. Conditions: each theorem names its own. -/
import Derived.Test.YtfjkjndpndjfpaaGreatDoorP1
import Derived.Shelf.Strings.Builder1
import Derived.Shelf.Strings.Builder2
import Derived.Shelf.Small.Bits
import Derived.Shelf.Small.Wraps
import Derived.Shelf.Strings.BuilderF
import Derived.Shelf.Strings.BuilderK
import Derived.Shelf.Strings.Builder2Cap
import Derived.Shelf.Strconv.Itoa0
import Derived.Shelf.Strconv.Itoa1
import Derived.Shelf.LaysM
import Derived.Shelf.Strconv.Itoa2
import Derived.Shelf.Strconv.Itoa3
import Derived.Shelf.Strconv.Clone
import Derived.Shelf.Sort.Plain
import Derived.Shelf.Strings.Prefix
import Derived.Shelf.Bits.Mul64
import Derived.Shelf.Strings.Repeat
import Derived.Shelf.Strings.BuilderCap
import Derived.Ground.Names2Prog
import Derived.Shelf.Slices.Clone
import Derived.Shelf.Slices.In.SortNone
import Derived.Ground.SlgfProg
import Derived.Shelf.SlicesE.IndexFunc
import Derived.Shelf.SlicesE.DeleteFunc
import Derived.Shelf.SlIter.Nil
import Derived.Shelf.SortM.Plain
import Derived.Shelf.SortM.SortNone
import Derived.Ground.GgzProg
import Derived.Ground.SlgmProg
import Derived.Test.YtfjkjndpndjfpaaGreatDoorProg
import Derived.Test.YtfjkjndpndjfpaaGreatDoorRows
import Derived.BigQuiet
import Derived.Handy
/- Contracts of library functions at this dump, laid by the kit's tools in plain words: each is one application of a theorem of the kit's shelf. -/
namespace Go.Proofs
open Go.Shelf
def Tryz.keys80_ren : Go.Shelf.Ren := ⟨fun | 7 => 80 | 10 => 100 | n => n, fun | 23 => 55 | 26 => 9 | 3 => 75 | 28 => 111 | 0 => 0 | 27 => 110 | 33 => 89 | 4 => 4 | n => n, fun | n => n⟩
theorem Tryz.keys80 : Go.Proofs.SlLaysZ.n7 Tryz.prog Tryz.keys80_ren := {
  mixed := by kernel_rfl
  f7 := ⟨Tryz.f80.name, by decide, Tryz.func80.trans (congrArg some (by kernel_rfl))⟩
  f10 := ⟨Tryz.f100.name, by decide, Tryz.func100.trans (congrArg some (by kernel_rfl))⟩
  t0 := Tryz.underlying0
  a0 := Tryz.isAgg0
  z0 := Tryz.sizeOf0
  v0 := Tryz.zeroValue0
  t4 := Tryz.underlying4
  a4 := Tryz.isAgg4
  z4 := Tryz.sizeOf4
  v4 := Tryz.zeroValue4
  t23 := Tryz.underlying55
  a23 := Tryz.isAgg55
  z23 := Tryz.sizeOf55
  v23 := Tryz.zeroValue55
  t26 := Tryz.underlying9
  a26 := Tryz.isAgg9
  z26 := Tryz.sizeOf9
  v26 := Tryz.zeroValue9
  t27 := Tryz.underlying110
  a27 := Tryz.isAgg110
  z27 := Tryz.sizeOf110
  v27 := Tryz.zeroValue110
  t28 := Tryz.underlying111
  a28 := Tryz.isAgg111
  z28 := Tryz.sizeOf111
  v28 := Tryz.zeroValue111
  t33 := Tryz.underlying89
  a33 := Tryz.isAgg89
  z33 := Tryz.sizeOf89
  v33 := Tryz.zeroValue89 }
def Tryz.sorted79_ren : Go.Shelf.Ren := ⟨fun | 6 => 79 | 8 => 98 | 9 => 99 | 11 => 117 | 13 => 119 | 12 => 118 | 23 => 138 | 24 => 139 | 14 => 129 | 15 => 130 | 16 => 131 | 17 => 132 | 18 => 133 | 19 => 134 | 20 => 135 | 21 => 136 | 22 => 137 | 25 => 144 | 26 => 145 | 27 => 146 | 28 => 147 | 29 => 148 | 30 => 149 | 31 => 154 | n => n, fun | 26 => 9 | 28 => 111 | 24 => 22 | 0 => 0 | 3 => 3 | 37 => 128 | 48 => 104 | 50 => 103 | 4 => 4 | 40 => 159 | 39 => 158 | 45 => 60 | 5 => 5 | 9 => 9 | 51 => 170 | 55 => 173 | 57 => 179 | 58 => 76 | 33 => 89 | n => n, fun | n => n⟩
theorem Tryz.sorted79 : Go.Proofs.SlLaysZ.n6 Tryz.prog Tryz.sorted79_ren := {
  mixed := by kernel_rfl
  f6 := ⟨Tryz.f79.name, by decide, Tryz.func79.trans (congrArg some (by kernel_rfl))⟩
  f8 := ⟨Tryz.f98.name, by decide, Tryz.func98.trans (congrArg some (by kernel_rfl))⟩
  f11 := ⟨Tryz.f117.name, by decide, Tryz.func117.trans (congrArg some (by kernel_rfl))⟩
  t0 := Tryz.underlying0
  a0 := Tryz.isAgg0
  z0 := Tryz.sizeOf0
  v0 := Tryz.zeroValue0
  t24 := Tryz.underlying22
  a24 := Tryz.isAgg22
  z24 := Tryz.sizeOf22
  v24 := Tryz.zeroValue22
  t26 := Tryz.underlying9
  a26 := Tryz.isAgg9
  z26 := Tryz.sizeOf9
  v26 := Tryz.zeroValue9
  t28 := Tryz.underlying111
  a28 := Tryz.isAgg111
  z28 := Tryz.sizeOf111
  v28 := Tryz.zeroValue111
  i26 := by kernel_rfl }
def Tryz.sort99_ren : Go.Shelf.Ren := ⟨fun | 6 => 99 | 8 => 119 | 9 => 118 | 19 => 138 | 20 => 139 | 21 => 129 | 22 => 130 | 23 => 131 | 24 => 132 | 25 => 133 | 26 => 134 | 27 => 135 | 28 => 136 | 29 => 137 | 36 => 144 | 31 => 145 | 32 => 146 | 37 => 147 | 38 => 148 | 39 => 149 | 41 => 154 | n => n, fun | 27 => 22 | 29 => 9 | 3 => 3 | 32 => 128 | 26 => 22 | 0 => 0 | 44 => 104 | 46 => 103 | 4 => 4 | 36 => 159 | 35 => 158 | 41 => 60 | 5 => 5 | 9 => 9 | 53 => 170 | 57 => 173 | 63 => 179 | 64 => 76 | n => n, fun | n => n⟩
theorem Tryz.sort99 : Go.Proofs.SlLaysM.n6 Tryz.prog Tryz.sort99_ren := {
  mixed := by kernel_rfl
  f6 := ⟨Tryz.f99.name, by decide, Tryz.func99.trans (congrArg some (by kernel_rfl))⟩
  f8 := Tryz.func119.trans (congrArg some (by kernel_rfl))
  f9 := ⟨Tryz.f118.name, by decide, Tryz.func118.trans (congrArg some (by kernel_rfl))⟩
  f19 := Tryz.func138.trans (congrArg some (by kernel_rfl))
  f20 := Tryz.func139.trans (congrArg some (by kernel_rfl))
  f21 := ⟨Tryz.f129.name, by decide, Tryz.func129.trans (congrArg some (by kernel_rfl))⟩
  f22 := ⟨Tryz.f130.name, by decide, Tryz.func130.trans (congrArg some (by kernel_rfl))⟩
  f23 := ⟨Tryz.f131.name, by decide, Tryz.func131.trans (congrArg some (by kernel_rfl))⟩
  f24 := ⟨Tryz.f132.name, by decide, Tryz.func132.trans (congrArg some (by kernel_rfl))⟩
  f25 := ⟨Tryz.f133.name, by decide, Tryz.func133.trans (congrArg some (by kernel_rfl))⟩
  f26 := ⟨Tryz.f134.name, by decide, Tryz.func134.trans (congrArg some (by kernel_rfl))⟩
  f27 := ⟨Tryz.f135.name, by decide, Tryz.func135.trans (congrArg some (by kernel_rfl))⟩
  f28 := ⟨Tryz.f136.name, by decide, Tryz.func136.trans (congrArg some (by kernel_rfl))⟩
  f29 := ⟨Tryz.f137.name, by decide, Tryz.func137.trans (congrArg some (by kernel_rfl))⟩
  f31 := Tryz.func145.trans (congrArg some (by kernel_rfl))
  f32 := Tryz.func146.trans (congrArg some (by kernel_rfl))
  f36 := ⟨Tryz.f144.name, by decide, Tryz.func144.trans (congrArg some (by kernel_rfl))⟩
  f37 := ⟨Tryz.f147.name, by decide, Tryz.func147.trans (congrArg some (by kernel_rfl))⟩
  f38 := ⟨Tryz.f148.name, by decide, Tryz.func148.trans (congrArg some (by kernel_rfl))⟩
  f39 := ⟨Tryz.f149.name, by decide, Tryz.func149.trans (congrArg some (by kernel_rfl))⟩
  f41 := ⟨Tryz.f154.name, by decide, Tryz.func154.trans (congrArg some (by kernel_rfl))⟩
  t0 := Tryz.underlying0
  a0 := Tryz.isAgg0
  z0 := Tryz.sizeOf0
  v0 := Tryz.zeroValue0
  t3 := Tryz.underlying3
  a3 := Tryz.isAgg3
  z3 := Tryz.sizeOf3
  v3 := Tryz.zeroValue3
  t4 := Tryz.underlying4
  a4 := Tryz.isAgg4
  z4 := Tryz.sizeOf4
  v4 := Tryz.zeroValue4
  t5 := Tryz.underlying5
  a5 := Tryz.isAgg5
  z5 := Tryz.sizeOf5
  v5 := Tryz.zeroValue5
  t9 := Tryz.underlying9
  a9 := Tryz.isAgg9
  z9 := Tryz.sizeOf9
  v9 := Tryz.zeroValue9
  t26 := Tryz.underlying22
  a26 := Tryz.isAgg22
  z26 := Tryz.sizeOf22
  v26 := Tryz.zeroValue22
  t27 := Tryz.underlying22
  a27 := Tryz.isAgg22
  z27 := Tryz.sizeOf22
  v27 := Tryz.zeroValue22
  t29 := Tryz.underlying9
  a29 := Tryz.isAgg9
  z29 := Tryz.sizeOf9
  v29 := Tryz.zeroValue9
  t32 := Tryz.underlying128
  a32 := Tryz.isAgg128
  z32 := Tryz.sizeOf128
  v32 := Tryz.zeroValue128
  t35 := Tryz.underlying158
  a35 := Tryz.isAgg158
  z35 := Tryz.sizeOf158
  v35 := Tryz.zeroValue158
  t36 := Tryz.underlying159
  a36 := Tryz.isAgg159
  z36 := Tryz.sizeOf159
  v36 := Tryz.zeroValue159
  t41 := Tryz.underlying60
  a41 := Tryz.isAgg60
  z41 := Tryz.sizeOf60
  v41 := Tryz.zeroValue60
  t44 := Tryz.underlying104
  a44 := Tryz.isAgg104
  z44 := Tryz.sizeOf104
  v44 := Tryz.zeroValue104
  t46 := Tryz.underlying103
  a46 := Tryz.isAgg103
  z46 := Tryz.sizeOf103
  v46 := Tryz.zeroValue103
  t53 := Tryz.underlying170
  a53 := Tryz.isAgg170
  z53 := Tryz.sizeOf170
  v53 := Tryz.zeroValue170
  t57 := Tryz.underlying173
  a57 := Tryz.isAgg173
  z57 := Tryz.sizeOf173
  v57 := Tryz.zeroValue173
  t63 := Tryz.underlying179
  a63 := Tryz.isAgg179
  z63 := Tryz.sizeOf179
  v63 := Tryz.zeroValue179
  t64 := Tryz.underlying76
  a64 := Tryz.isAgg76
  z64 := Tryz.sizeOf76
  v64 := Tryz.zeroValue76 }
def Tryz.delFunc_ren : Go.Shelf.Ren := ⟨fun | 10 => 57 | 6 => 86 | n => n, fun | 22 => 22 | 23 => 9 | 25 => 89 | 3 => 3 | 4 => 4 | 0 => 0 | n => n, fun | n => n⟩
theorem Tryz.delFunc : Go.Proofs.SlLaysH.n10 Tryz.prog Tryz.delFunc_ren := {
  mixed := by kernel_rfl
  f6 := ⟨Tryz.f86.name, by decide, Tryz.func86.trans (congrArg some (by kernel_rfl))⟩
  f10 := ⟨Tryz.f57.name, by decide, Tryz.func57.trans (congrArg some (by kernel_rfl))⟩
  t0 := Tryz.underlying0
  a0 := Tryz.isAgg0
  z0 := Tryz.sizeOf0
  v0 := Tryz.zeroValue0
  t3 := Tryz.underlying3
  a3 := Tryz.isAgg3
  z3 := Tryz.sizeOf3
  v3 := Tryz.zeroValue3
  t4 := Tryz.underlying4
  a4 := Tryz.isAgg4
  z4 := Tryz.sizeOf4
  v4 := Tryz.zeroValue4
  t22 := Tryz.underlying22
  a22 := Tryz.isAgg22
  z22 := Tryz.sizeOf22
  v22 := Tryz.zeroValue22
  a23 := Tryz.isAgg9
  z23 := Tryz.sizeOf9
  t25 := Tryz.underlying89
  a25 := Tryz.isAgg89
  z25 := Tryz.sizeOf89
  v25 := Tryz.zeroValue89 }
def Tryz.lays170_ren : Go.Shelf.Ren := ⟨fun | 170 => 105 | n => n, fun | 70 => 133 | 3 => 3 | 0 => 0 | 72 => 135 | 37 => 64 | 5 => 5 | n => n, fun | n => n⟩
theorem Tryz.lays170 : Go.Proofs.Lays.n170 Tryz.prog Tryz.lays170_ren := {
  mixed := by kernel_rfl
  f170 := Tryz.func105.trans (congrArg some (by kernel_rfl))
  t0 := Tryz.underlying0
  a0 := Tryz.isAgg0
  z0 := Tryz.sizeOf0
  v0 := Tryz.zeroValue0
  t3 := Tryz.underlying3
  a3 := Tryz.isAgg3
  z3 := Tryz.sizeOf3
  v3 := Tryz.zeroValue3
  t37 := Tryz.underlying64
  a37 := Tryz.isAgg64
  z37 := Tryz.sizeOf64
  v37 := Tryz.zeroValue64
  t70 := Tryz.underlying133
  a70 := Tryz.isAgg133
  z70 := Tryz.sizeOf133
  v70 := Tryz.zeroValue133
  t72 := Tryz.underlying135
  a72 := Tryz.isAgg135
  z72 := Tryz.sizeOf135
  v72 := Tryz.zeroValue135 }
open Go.RowKit in
theorem Tryz.Builder_Len (B b : Nat) (bs : List Value) (w : World) (h : Lib.IsBuilder 135 5 B b bs w) :
    Calls Tryz.prog 105 #[.pointer (some ⟨b, 0, none⟩)] w fun e w' => e = .returned (.int .i64 bs.length) ∧ w' = w := Any.Builder_Len Tryz.lays170 B b bs w h
def Tryz.lays169_ren : Go.Shelf.Ren := ⟨fun | 169 => 106 | n => n, fun | 70 => 133 | 9 => 9 | 0 => 0 | 72 => 135 | 37 => 64 | 127 => 116 | 3 => 3 | 5 => 5 | n => n, fun | n => n⟩
theorem Tryz.lays169 : Go.Proofs.Lays.n169 Tryz.prog Tryz.lays169_ren := {
  mixed := by kernel_rfl
  f169 := Tryz.func106.trans (congrArg some (by kernel_rfl))
  t0 := Tryz.underlying0
  a0 := Tryz.isAgg0
  z0 := Tryz.sizeOf0
  v0 := Tryz.zeroValue0
  t3 := Tryz.underlying3
  a3 := Tryz.isAgg3
  z3 := Tryz.sizeOf3
  v3 := Tryz.zeroValue3
  t9 := Tryz.underlying9
  a9 := Tryz.isAgg9
  z9 := Tryz.sizeOf9
  v9 := Tryz.zeroValue9
  t37 := Tryz.underlying64
  a37 := Tryz.isAgg64
  z37 := Tryz.sizeOf64
  v37 := Tryz.zeroValue64
  t70 := Tryz.underlying133
  a70 := Tryz.isAgg133
  z70 := Tryz.sizeOf133
  v70 := Tryz.zeroValue133
  t72 := Tryz.underlying135
  a72 := Tryz.isAgg135
  z72 := Tryz.sizeOf135
  v72 := Tryz.zeroValue135
  t127 := Tryz.underlying116
  a127 := Tryz.isAgg116
  z127 := Tryz.sizeOf116
  v127 := Tryz.zeroValue116 }
theorem Tryz.Builder_Extra_169 : Builder.Extra Tryz.prog Tryz.lays169_ren := {
  sizeBuilder := by kernel_rfl
  liesBuilder := by kernel_rfl
  t5 := Tryz.underlying5
  a5 := Tryz.isAgg5
  z5 := Tryz.sizeOf5
  v5 := Tryz.zeroValue5
  infoByte := by kernel_rfl
  cellsByte := by kernel_rfl
  sizeByte := by kernel_rfl
  neB5 := by decide }
open Go.RowKit in
theorem Tryz.Builder_String (B b : Nat) (l : List UInt8) (w : World) (h : Lib.IsBuilder 135 5 B b (Lib.byteCells l) w) (h0 : l ≠ []) :
    Calls Tryz.prog 106 #[.pointer (some ⟨b, 0, none⟩)] w fun e w' => e = .returned (.string ⟨l.toArray⟩) ∧ Below B w w' := Any.Builder_String Tryz.lays169 Tryz.Builder_Extra_169 B b l w h h0
open Go.RowKit in
theorem Tryz.Builder_String_empty (B b : Nat) (w : World) (h : Lib.IsBuilder 135 5 B b [] w) (hBw : B ≤ w.heap.size) :
    Calls Tryz.prog 106 #[.pointer (some ⟨b, 0, none⟩)] w fun e w' => e = .returned (.string ⟨#[]⟩) ∧ Below B w w' := Any.Builder_String_empty Tryz.lays169 Tryz.Builder_Extra_169 B b w h hBw
open Go.RowKit in
theorem Tryz.Builder_String_any (B b : Nat) (l : List UInt8) (w : World) (h : Lib.IsBuilder 135 5 B b (Lib.byteCells l) w) (hBw : B ≤ w.heap.size) :
    Calls Tryz.prog 106 #[.pointer (some ⟨b, 0, none⟩)] w fun e w' => e = .returned (.string ⟨l.toArray⟩) ∧ Below B w w' := Any.Builder_String_any Tryz.lays169 Tryz.Builder_Extra_169 B b l w h hBw
def Tryz.lays241_ren : Go.Shelf.Ren := ⟨fun | 241 => 124 | 277 => 142 | n => n, fun | 70 => 133 | 3 => 3 | 0 => 0 | 72 => 135 | 37 => 64 | 5 => 5 | n => n, fun | n => n⟩
theorem Tryz.lays241 : Go.Proofs.Lays.n241 Tryz.prog Tryz.lays241_ren := {
  mixed := by kernel_rfl
  f241 := Tryz.func124.trans (congrArg some (by kernel_rfl))
  f277 := Tryz.func142.trans (congrArg some (by kernel_rfl))
  t0 := Tryz.underlying0
  a0 := Tryz.isAgg0
  z0 := Tryz.sizeOf0
  v0 := Tryz.zeroValue0
  t3 := Tryz.underlying3
  a3 := Tryz.isAgg3
  z3 := Tryz.sizeOf3
  v3 := Tryz.zeroValue3
  t37 := Tryz.underlying64
  a37 := Tryz.isAgg64
  z37 := Tryz.sizeOf64
  v37 := Tryz.zeroValue64
  t70 := Tryz.underlying133
  a70 := Tryz.isAgg133
  z70 := Tryz.sizeOf133
  v70 := Tryz.zeroValue133
  t72 := Tryz.underlying135
  a72 := Tryz.isAgg135
  z72 := Tryz.sizeOf135
  v72 := Tryz.zeroValue135 }
theorem Tryz.Builder_Extra_241 : Builder.Extra Tryz.prog Tryz.lays241_ren := {
  sizeBuilder := by kernel_rfl
  liesBuilder := by kernel_rfl
  t5 := Tryz.underlying5
  a5 := Tryz.isAgg5
  z5 := Tryz.sizeOf5
  v5 := Tryz.zeroValue5
  infoByte := by kernel_rfl
  cellsByte := by kernel_rfl
  sizeByte := by kernel_rfl
  neB5 := by decide }
open Go.RowKit in
theorem Tryz.Builder_grow_fresh (B b n : Nat) (w : World) (hB : B ≤ b) (hbk : w.heap[b]? = some (.cells #[.pointer (some ⟨b, 0, none⟩), .slice none 0 0] 135 (0, 0))) (hBw : B ≤ w.heap.size) (hn : n ≤ 281474976710656) :
    Calls Tryz.prog 124 #[.pointer (some ⟨b, 0, none⟩), .int .i64 n] w fun e w' => e = .returned (.tuple #[]) ∧ (Lib.BuilderAt 135 5 B b (.pointer (some ⟨b, 0, none⟩)) [] w' ∧ Below B w w') := Any.Builder_grow_fresh Tryz.lays241 Tryz.Builder_Extra_241 B b n w hB hbk hBw hn
def Tryz.lays165_ren : Go.Shelf.Ren := ⟨fun | 165 => 103 | 240 => 123 | 241 => 124 | 276 => 141 | 277 => 142 | n => n, fun | 70 => 133 | 3 => 3 | 0 => 0 | 4 => 4 | 9 => 9 | 20 => 20 | 72 => 135 | 37 => 64 | 164 => 167 | 5 => 5 | n => n, fun | n => n⟩
theorem Tryz.lays165 : Go.Proofs.Lays.n165 Tryz.prog Tryz.lays165_ren := {
  mixed := by kernel_rfl
  f165 := Tryz.func103.trans (congrArg some (by kernel_rfl))
  f240 := Tryz.func123.trans (congrArg some (by kernel_rfl))
  f241 := Tryz.func124.trans (congrArg some (by kernel_rfl))
  f276 := Tryz.func141.trans (congrArg some (by kernel_rfl))
  f277 := Tryz.func142.trans (congrArg some (by kernel_rfl))
  t0 := Tryz.underlying0
  a0 := Tryz.isAgg0
  z0 := Tryz.sizeOf0
  v0 := Tryz.zeroValue0
  t3 := Tryz.underlying3
  a3 := Tryz.isAgg3
  z3 := Tryz.sizeOf3
  v3 := Tryz.zeroValue3
  t4 := Tryz.underlying4
  a4 := Tryz.isAgg4
  z4 := Tryz.sizeOf4
  v4 := Tryz.zeroValue4
  t9 := Tryz.underlying9
  a9 := Tryz.isAgg9
  z9 := Tryz.sizeOf9
  v9 := Tryz.zeroValue9
  t20 := Tryz.underlying20
  a20 := Tryz.isAgg20
  z20 := Tryz.sizeOf20
  v20 := Tryz.zeroValue20
  t37 := Tryz.underlying64
  a37 := Tryz.isAgg64
  z37 := Tryz.sizeOf64
  v37 := Tryz.zeroValue64
  t70 := Tryz.underlying133
  a70 := Tryz.isAgg133
  z70 := Tryz.sizeOf133
  v70 := Tryz.zeroValue133
  t72 := Tryz.underlying135
  a72 := Tryz.isAgg135
  z72 := Tryz.sizeOf135
  v72 := Tryz.zeroValue135
  t164 := Tryz.underlying167
  a164 := Tryz.isAgg167
  z164 := Tryz.sizeOf167
  v164 := Tryz.zeroValue167 }
theorem Tryz.Builder_Extra_165 : Builder.Extra Tryz.prog Tryz.lays165_ren := {
  sizeBuilder := by kernel_rfl
  liesBuilder := by kernel_rfl
  t5 := Tryz.underlying5
  a5 := Tryz.isAgg5
  z5 := Tryz.sizeOf5
  v5 := Tryz.zeroValue5
  infoByte := by kernel_rfl
  cellsByte := by kernel_rfl
  sizeByte := by kernel_rfl
  neB5 := by decide }
open Go.RowKit in
theorem Tryz.Builder_Grow_fresh (B b n : Nat) (w : World) (hB : B ≤ b) (hbk : w.heap[b]? = some (.cells #[.pointer none, .slice none 0 0] 135 (0, 0))) (hBw : B ≤ w.heap.size) (hn : n ≤ 281474976710656) :
    Calls Tryz.prog 103 #[.pointer (some ⟨b, 0, none⟩), .int .i64 n] w fun e w' => e = .returned (.tuple #[]) ∧ (Lib.BuilderAt 135 5 B b (.pointer (some ⟨b, 0, none⟩)) [] w' ∧ Below B w w') := Any.Builder_Grow_fresh Tryz.lays165 Tryz.Builder_Extra_165 B b n w hB hbk hBw hn
def Tryz.lays128_ren : Go.Shelf.Ren := ⟨fun | 128 => 138 | n => n, fun | 51 => 104 | 3 => 3 | 4 => 4 | 46 => 128 | 5 => 5 | 9 => 9 | n => n, fun | n => n⟩
theorem Tryz.lays128 : Go.Proofs.Lays.n128 Tryz.prog Tryz.lays128_ren := {
  mixed := by kernel_rfl
  f128 := Tryz.func138.trans (congrArg some (by kernel_rfl))
  t3 := Tryz.underlying3
  a3 := Tryz.isAgg3
  z3 := Tryz.sizeOf3
  v3 := Tryz.zeroValue3
  t4 := Tryz.underlying4
  a4 := Tryz.isAgg4
  z4 := Tryz.sizeOf4
  v4 := Tryz.zeroValue4
  t5 := Tryz.underlying5
  a5 := Tryz.isAgg5
  z5 := Tryz.sizeOf5
  v5 := Tryz.zeroValue5
  t9 := Tryz.underlying9
  a9 := Tryz.isAgg9
  z9 := Tryz.sizeOf9
  v9 := Tryz.zeroValue9
  t46 := Tryz.underlying128
  a46 := Tryz.isAgg128
  z46 := Tryz.sizeOf128
  v46 := Tryz.zeroValue128
  t51 := Tryz.underlying104
  a51 := Tryz.isAgg104
  z51 := Tryz.sizeOf104
  v51 := Tryz.zeroValue104 }
theorem Tryz.bits_Len32 (x : Int) (w : World) (h0 : 0 ≤ x) (h1 : x ≤ 4294967295) :
    Calls Tryz.prog 138 #[.int .u32 x] w fun e w' => e = .returned (.int .i64 (Lib.bitLen x.toNat)) ∧ w' = w := Any.bits_Len32 Tryz.lays128 x w h0 h1
def Tryz.lays125_ren : Go.Shelf.Ren := ⟨fun | 125 => 119 | 128 => 138 | 129 => 139 | n => n, fun | 46 => 128 | 3 => 3 | 51 => 104 | 53 => 103 | 4 => 4 | 5 => 5 | 9 => 9 | n => n, fun | n => n⟩
theorem Tryz.lays125 : Go.Proofs.Lays.n125 Tryz.prog Tryz.lays125_ren := {
  mixed := by kernel_rfl
  f125 := Tryz.func119.trans (congrArg some (by kernel_rfl))
  f128 := Tryz.func138.trans (congrArg some (by kernel_rfl))
  f129 := Tryz.func139.trans (congrArg some (by kernel_rfl))
  t3 := Tryz.underlying3
  a3 := Tryz.isAgg3
  z3 := Tryz.sizeOf3
  v3 := Tryz.zeroValue3
  t4 := Tryz.underlying4
  a4 := Tryz.isAgg4
  z4 := Tryz.sizeOf4
  v4 := Tryz.zeroValue4
  t5 := Tryz.underlying5
  a5 := Tryz.isAgg5
  z5 := Tryz.sizeOf5
  v5 := Tryz.zeroValue5
  t9 := Tryz.underlying9
  a9 := Tryz.isAgg9
  z9 := Tryz.sizeOf9
  v9 := Tryz.zeroValue9
  t46 := Tryz.underlying128
  a46 := Tryz.isAgg128
  z46 := Tryz.sizeOf128
  v46 := Tryz.zeroValue128
  t51 := Tryz.underlying104
  a51 := Tryz.isAgg104
  z51 := Tryz.sizeOf104
  v51 := Tryz.zeroValue104
  t53 := Tryz.underlying103
  a53 := Tryz.isAgg103
  z53 := Tryz.sizeOf103
  v53 := Tryz.zeroValue103 }
theorem Tryz.bits_Len (x : Int) (w : World) (h0 : 0 ≤ x) (h1 : x ≤ 18446744073709551615) :
    Calls Tryz.prog 119 #[.int .u64 x] w fun e w' => e = .returned (.int .i64 (Lib.bitLen x.toNat)) ∧ w' = w := Any.bits_Len Tryz.lays125 x w h0 h1
def Tryz.lays210_ren : Go.Shelf.Ren := ⟨fun | 210 => 109 | 206 => 87 | n => n, fun | 9 => 9 | 4 => 4 | 3 => 3 | n => n, fun | n => n⟩
theorem Tryz.lays210 : Go.Proofs.Lays.n210 Tryz.prog Tryz.lays210_ren := {
  mixed := by kernel_rfl
  f206 := Tryz.func87.trans (congrArg some (by kernel_rfl))
  f210 := Tryz.func109.trans (congrArg some (by kernel_rfl))
  t3 := Tryz.underlying3
  a3 := Tryz.isAgg3
  z3 := Tryz.sizeOf3
  v3 := Tryz.zeroValue3
  t4 := Tryz.underlying4
  a4 := Tryz.isAgg4
  z4 := Tryz.sizeOf4
  v4 := Tryz.zeroValue4
  t9 := Tryz.underlying9
  a9 := Tryz.isAgg9
  z9 := Tryz.sizeOf9
  v9 := Tryz.zeroValue9 }
open Go.RowKit in
theorem Tryz.stringslite_CutPrefix (s p : ByteArray) (w : World) :
    Calls Tryz.prog 109 #[.string s, .string p] w fun e w' => e = .returned (.tuple #[.string ⟨(Lib.trimPrefix s.data.toList p.data.toList).toArray⟩, .bool (Lib.hasPrefix s.data.toList p.data.toList)]) ∧ w' = w := Any.stringslite_CutPrefix Tryz.lays210 s p w
def Tryz.lays103_ren : Go.Shelf.Ren := ⟨fun | 103 => 88 | 210 => 109 | 206 => 87 | n => n, fun | 9 => 9 | 4 => 4 | 24 => 117 | 3 => 3 | n => n, fun | n => n⟩
theorem Tryz.lays103 : Go.Proofs.Lays.n103 Tryz.prog Tryz.lays103_ren := {
  mixed := by kernel_rfl
  f103 := Tryz.func88.trans (congrArg some (by kernel_rfl))
  f206 := Tryz.func87.trans (congrArg some (by kernel_rfl))
  f210 := Tryz.func109.trans (congrArg some (by kernel_rfl))
  t3 := Tryz.underlying3
  a3 := Tryz.isAgg3
  z3 := Tryz.sizeOf3
  v3 := Tryz.zeroValue3
  t4 := Tryz.underlying4
  a4 := Tryz.isAgg4
  z4 := Tryz.sizeOf4
  v4 := Tryz.zeroValue4
  t9 := Tryz.underlying9
  a9 := Tryz.isAgg9
  z9 := Tryz.sizeOf9
  v9 := Tryz.zeroValue9
  t24 := Tryz.underlying117
  a24 := Tryz.isAgg117
  z24 := Tryz.sizeOf117
  v24 := Tryz.zeroValue117 }
open Go.RowKit in
theorem Tryz.strings_CutPrefix (s p : ByteArray) (w : World) :
    Calls Tryz.prog 88 #[.string s, .string p] w fun e w' => e = .returned (.tuple #[.string ⟨(Lib.trimPrefix s.data.toList p.data.toList).toArray⟩, .bool (Lib.hasPrefix s.data.toList p.data.toList)]) ∧ w' = w := Any.strings_CutPrefix Tryz.lays103 s p w
open Go.RowKit in
theorem Tryz.Builder_Len_f (B b : Nat) (bs : List Value) (w : World) (h : Lib.IsBuilderF 135 5 B b bs w) :
    Calls Tryz.prog 105 #[.pointer (some ⟨b, 0, none⟩)] w fun e w' => e = .returned (.int .i64 bs.length) ∧ w' = w := Any.Builder_Len_f Tryz.lays170 B b bs w h
open Go.RowKit in
theorem Tryz.Builder_String_f (B b : Nat) (l : List UInt8) (w : World) (h : Lib.IsBuilderF 135 5 B b (Lib.byteCells l) w) (h0 : l ≠ []) :
    Calls Tryz.prog 106 #[.pointer (some ⟨b, 0, none⟩)] w fun e w' => e = .returned (.string ⟨l.toArray⟩) ∧ (Lib.IsBuilderF 135 5 B b (Lib.byteCells l) w' ∧ Below B w w') := Any.Builder_String_f Tryz.lays169 Tryz.Builder_Extra_169 B b l w h h0
open Go.RowKit in
theorem Tryz.Builder_String_empty_f (B b : Nat) (w : World) (h : Lib.IsBuilderF 135 5 B b [] w) (hBw : B ≤ w.heap.size) :
    Calls Tryz.prog 106 #[.pointer (some ⟨b, 0, none⟩)] w fun e w' => e = .returned (.string ⟨#[]⟩) ∧ (Lib.IsBuilderF 135 5 B b [] w' ∧ Below B w w') := Any.Builder_String_empty_f Tryz.lays169 Tryz.Builder_Extra_169 B b w h hBw
open Go.RowKit in
theorem Tryz.Builder_String_any_f (B b : Nat) (l : List UInt8) (w : World) (h : Lib.IsBuilderF 135 5 B b (Lib.byteCells l) w) (hBw : B ≤ w.heap.size) :
    Calls Tryz.prog 106 #[.pointer (some ⟨b, 0, none⟩)] w fun e w' => e = .returned (.string ⟨l.toArray⟩) ∧ (Lib.IsBuilderF 135 5 B b (Lib.byteCells l) w' ∧ Below B w w') := Any.Builder_String_any_f Tryz.lays169 Tryz.Builder_Extra_169 B b l w h hBw
open Go.RowKit in
theorem Tryz.Builder_String_k (B b : Nat) (l : List UInt8) (w : World) (h : Lib.IsBuilderF 135 5 B b (Lib.byteCells l) w) (h0 : l ≠ []) :
    Calls Tryz.prog 106 #[.pointer (some ⟨b, 0, none⟩)] w fun e w' => e = .returned (.string ⟨l.toArray⟩) ∧ (Lib.IsBuilderF 135 5 B b (Lib.byteCells l) w' ∧ Below B w w' ∧ Lib.OthersKept 5 (some b) w w') := Any.Builder_String_k Tryz.lays169 Tryz.Builder_Extra_169 B b l w h h0
open Go.RowKit in
theorem Tryz.Builder_String_empty_k (B b : Nat) (w : World) (h : Lib.IsBuilderF 135 5 B b [] w) (hBw : B ≤ w.heap.size) :
    Calls Tryz.prog 106 #[.pointer (some ⟨b, 0, none⟩)] w fun e w' => e = .returned (.string ⟨#[]⟩) ∧ (Lib.IsBuilderF 135 5 B b [] w' ∧ Below B w w' ∧ Lib.OthersKept 5 (some b) w w') := Any.Builder_String_empty_k Tryz.lays169 Tryz.Builder_Extra_169 B b w h hBw
open Go.RowKit in
theorem Tryz.Builder_String_any_k (B b : Nat) (l : List UInt8) (w : World) (h : Lib.IsBuilderF 135 5 B b (Lib.byteCells l) w) (hBw : B ≤ w.heap.size) :
    Calls Tryz.prog 106 #[.pointer (some ⟨b, 0, none⟩)] w fun e w' => e = .returned (.string ⟨l.toArray⟩) ∧ (Lib.IsBuilderF 135 5 B b (Lib.byteCells l) w' ∧ Below B w w' ∧ Lib.OthersKept 5 (some b) w w') := Any.Builder_String_any_k Tryz.lays169 Tryz.Builder_Extra_169 B b l w h hBw
open Go.RowKit in
theorem Tryz.Builder_grow_fresh_cap (B b n : Nat) (w : World) (hB : B ≤ b) (hbk : w.heap[b]? = some (.cells #[.pointer (some ⟨b, 0, none⟩), .slice none 0 0] 135 (0, 0))) (hBw : B ≤ w.heap.size) (hn : n ≤ 281474976710656) :
    Calls Tryz.prog 124 #[.pointer (some ⟨b, 0, none⟩), .int .i64 n] w fun e w' => e = .returned (.tuple #[]) ∧ (Lib.BuilderAt 135 5 B b (.pointer (some ⟨b, 0, none⟩)) [] w' ∧ Below B w w') ∧ ∃ p cap, w'.cell? ⟨b, 1, none⟩ = some (.slice p 0 cap) ∧ n ≤ cap := Any.Builder_grow_fresh_cap Tryz.lays241 Tryz.Builder_Extra_241 B b n w hB hbk hBw hn
open Go.RowKit in
theorem Tryz.Builder_Grow_fresh_cap (B b n : Nat) (w : World) (hB : B ≤ b) (hbk : w.heap[b]? = some (.cells #[.pointer none, .slice none 0 0] 135 (0, 0))) (hBw : B ≤ w.heap.size) (hn : n ≤ 281474976710656) :
    Calls Tryz.prog 103 #[.pointer (some ⟨b, 0, none⟩), .int .i64 n] w fun e w' => e = .returned (.tuple #[]) ∧ (Lib.BuilderAt 135 5 B b (.pointer (some ⟨b, 0, none⟩)) [] w' ∧ Below B w w') ∧ ∃ p cap, w'.cell? ⟨b, 1, none⟩ = some (.slice p 0 cap) ∧ n ≤ cap := Any.Builder_Grow_fresh_cap Tryz.lays165 Tryz.Builder_Extra_165 B b n w hB hbk hBw hn
def Tryz.lays129_ren : Go.Shelf.Ren := ⟨fun | 129 => 139 | n => n, fun | 53 => 103 | 3 => 3 | 4 => 4 | 46 => 128 | 5 => 5 | 9 => 9 | n => n, fun | n => n⟩
theorem Tryz.lays129 : Go.Proofs.Lays.n129 Tryz.prog Tryz.lays129_ren := {
  mixed := by kernel_rfl
  f129 := Tryz.func139.trans (congrArg some (by kernel_rfl))
  t3 := Tryz.underlying3
  a3 := Tryz.isAgg3
  z3 := Tryz.sizeOf3
  v3 := Tryz.zeroValue3
  t4 := Tryz.underlying4
  a4 := Tryz.isAgg4
  z4 := Tryz.sizeOf4
  v4 := Tryz.zeroValue4
  t5 := Tryz.underlying5
  a5 := Tryz.isAgg5
  z5 := Tryz.sizeOf5
  v5 := Tryz.zeroValue5
  t9 := Tryz.underlying9
  a9 := Tryz.isAgg9
  z9 := Tryz.sizeOf9
  v9 := Tryz.zeroValue9
  t46 := Tryz.underlying128
  a46 := Tryz.isAgg128
  z46 := Tryz.sizeOf128
  v46 := Tryz.zeroValue128
  t53 := Tryz.underlying103
  a53 := Tryz.isAgg103
  z53 := Tryz.sizeOf103
  v53 := Tryz.zeroValue103 }
theorem Tryz.bits_Len64 (x : Int) (w : World) (h0 : 0 ≤ x) (h1 : x ≤ 18446744073709551615) :
    Calls Tryz.prog 139 #[.int .u64 x] w fun e w' => e = .returned (.int .i64 (Lib.bitLen x.toNat)) ∧ w' = w := Any.bits_Len64 Tryz.lays129 x w h0 h1
def Tryz.lays317_ren : Go.Shelf.Ren := ⟨fun | 317 => 155 | n => n, fun | 3 => 3 | 46 => 128 | n => n, fun | n => n⟩
theorem Tryz.lays317 : Go.Proofs.Lays.n317 Tryz.prog Tryz.lays317_ren := {
  mixed := by kernel_rfl
  f317 := Tryz.func155.trans (congrArg some (by kernel_rfl))
  t3 := Tryz.underlying3
  a3 := Tryz.isAgg3
  z3 := Tryz.sizeOf3
  v3 := Tryz.zeroValue3
  t46 := Tryz.underlying128
  a46 := Tryz.isAgg128
  z46 := Tryz.sizeOf128
  v46 := Tryz.zeroValue128 }
open Go.Lib in
theorem Tryz.internal_strconv_log10Pow2 (x : Nat) (h : x ≤ 64) (w : World) :
    Calls Tryz.prog 155 #[.int .i64 x] w fun e w' => e = .returned (.int .i64 (Lib.l10 x)) ∧ w' = w := Any.internal_strconv_log10Pow2 Tryz.lays317 x h w
def Tryz.lays318_ren : Go.Shelf.Ren := ⟨fun | 318 => 156 | n => n, fun | 3 => 3 | 4 => 4 | n => n, fun | n => n⟩
theorem Tryz.lays318 : Go.Proofs.Lays.n318 Tryz.prog Tryz.lays318_ren := {
  mixed := by kernel_rfl
  f318 := Tryz.func156.trans (congrArg some (by kernel_rfl))
  t3 := Tryz.underlying3
  a3 := Tryz.isAgg3
  z3 := Tryz.sizeOf3
  v3 := Tryz.zeroValue3
  t4 := Tryz.underlying4
  a4 := Tryz.isAgg4
  z4 := Tryz.sizeOf4
  v4 := Tryz.zeroValue4 }
open Go.Lib in
theorem Tryz.internal_strconv_bool2_int (b : Bool) (w : World) :
    Calls Tryz.prog 156 #[.bool b] w fun e w' => e = .returned (.int .i64 (if b then 1 else 0)) ∧ w' = w := Any.internal_strconv_bool2_int Tryz.lays318 b w
def Tryz.lays283_ren : Go.Shelf.Ren := ⟨fun | 283 => 150 | n => n, fun | 3 => 3 | 9 => 9 | 4 => 4 | n => n, fun | n => n⟩
theorem Tryz.lays283 : Go.Proofs.Lays.n283 Tryz.prog Tryz.lays283_ren := {
  mixed := by kernel_rfl
  f283 := Tryz.func150.trans (congrArg some (by kernel_rfl))
  t3 := Tryz.underlying3
  a3 := Tryz.isAgg3
  z3 := Tryz.sizeOf3
  v3 := Tryz.zeroValue3
  t4 := Tryz.underlying4
  a4 := Tryz.isAgg4
  z4 := Tryz.sizeOf4
  v4 := Tryz.zeroValue4
  t9 := Tryz.underlying9
  a9 := Tryz.isAgg9
  z9 := Tryz.sizeOf9
  v9 := Tryz.zeroValue9 }
open Go.Lib in
theorem Tryz.internal_strconv_small (i : Nat) (h : i < 100) (w : World) :
    Calls Tryz.prog 150 #[.int .i64 i] w fun e w' => e = .returned (.string ⟨(Lib.decDigits i).toArray⟩) ∧ w' = w := Any.internal_strconv_small Tryz.lays283 i h w
def Tryz.laysM284_ren : Go.Shelf.Ren := ⟨fun | 284 => 151 | 129 => 139 | 317 => 155 | 318 => 156 | n => n, fun | 53 => 103 | 3 => 3 | 212 => 183 | 0 => 0 | 4 => 4 | 46 => 128 | 5 => 5 | 9 => 9 | n => n, fun | 17 => 1 | n => n⟩
theorem Tryz.laysM284 : Go.Proofs.LaysM.n284 Tryz.prog Tryz.laysM284_ren := {
  mixed := by kernel_rfl
  f129 := Tryz.func139.trans (congrArg some (by kernel_rfl))
  f284 := Tryz.func151.trans (congrArg some (by kernel_rfl))
  f317 := Tryz.func155.trans (congrArg some (by kernel_rfl))
  f318 := Tryz.func156.trans (congrArg some (by kernel_rfl))
  t0 := Tryz.underlying0
  a0 := Tryz.isAgg0
  z0 := Tryz.sizeOf0
  v0 := Tryz.zeroValue0
  t3 := Tryz.underlying3
  a3 := Tryz.isAgg3
  z3 := Tryz.sizeOf3
  v3 := Tryz.zeroValue3
  t4 := Tryz.underlying4
  a4 := Tryz.isAgg4
  z4 := Tryz.sizeOf4
  v4 := Tryz.zeroValue4
  t5 := Tryz.underlying5
  a5 := Tryz.isAgg5
  z5 := Tryz.sizeOf5
  v5 := Tryz.zeroValue5
  t9 := Tryz.underlying9
  a9 := Tryz.isAgg9
  z9 := Tryz.sizeOf9
  v9 := Tryz.zeroValue9
  t46 := Tryz.underlying128
  a46 := Tryz.isAgg128
  z46 := Tryz.sizeOf128
  v46 := Tryz.zeroValue128
  t53 := Tryz.underlying103
  a53 := Tryz.isAgg103
  z53 := Tryz.sizeOf103
  v53 := Tryz.zeroValue103
  t212 := Tryz.underlying183
  a212 := Tryz.isAgg183
  z212 := Tryz.sizeOf183
  v212 := Tryz.zeroValue183
  g17 := by kernel_rfl
  i0 := by kernel_rfl
  i3 := by kernel_rfl
  i4 := by kernel_rfl
  i5 := by kernel_rfl
  i9 := by kernel_rfl
  i46 := by kernel_rfl
  i53 := by kernel_rfl
  i212 := by kernel_rfl
  m17 := by kernel_rfl }
open Go.Lib in
theorem Tryz.internal_strconv_numDigits (u : Nat) (h1 : 1 ≤ u) (h2 : u < 18446744073709551616) (w : World) (htab : Lib.TabIs Tryz.prog w "internal/strconv.uint64pow10" .u64 Lib.pow10Tab) :
    Calls Tryz.prog 151 #[.int .u64 u] w fun e w' => e = .returned (.int .i64 (Lib.nDigits u)) ∧ w' = w := Any.internal_strconv_numDigits Tryz.laysM284 u h1 h2 w htab
def Tryz.lays285_ren : Go.Shelf.Ren := ⟨fun | 285 => 152 | n => n, fun | 37 => 64 | 53 => 103 | 3 => 3 | 4 => 4 | 51 => 104 | 9 => 9 | 5 => 5 | 0 => 0 | n => n, fun | n => n⟩
theorem Tryz.lays285 : Go.Proofs.Lays.n285 Tryz.prog Tryz.lays285_ren := {
  mixed := by kernel_rfl
  f285 := Tryz.func152.trans (congrArg some (by kernel_rfl))
  t0 := Tryz.underlying0
  a0 := Tryz.isAgg0
  z0 := Tryz.sizeOf0
  v0 := Tryz.zeroValue0
  t3 := Tryz.underlying3
  a3 := Tryz.isAgg3
  z3 := Tryz.sizeOf3
  v3 := Tryz.zeroValue3
  t4 := Tryz.underlying4
  a4 := Tryz.isAgg4
  z4 := Tryz.sizeOf4
  v4 := Tryz.zeroValue4
  t5 := Tryz.underlying5
  a5 := Tryz.isAgg5
  z5 := Tryz.sizeOf5
  v5 := Tryz.zeroValue5
  t9 := Tryz.underlying9
  a9 := Tryz.isAgg9
  z9 := Tryz.sizeOf9
  v9 := Tryz.zeroValue9
  t37 := Tryz.underlying64
  a37 := Tryz.isAgg64
  z37 := Tryz.sizeOf64
  v37 := Tryz.zeroValue64
  t51 := Tryz.underlying104
  a51 := Tryz.isAgg104
  z51 := Tryz.sizeOf104
  v51 := Tryz.zeroValue104
  t53 := Tryz.underlying103
  a53 := Tryz.isAgg103
  z53 := Tryz.sizeOf103
  v53 := Tryz.zeroValue103 }
open Go.RowKit Go.Sort Go.Lib in
theorem Tryz.internal_strconv_formatBase10 (blk off cap : Nat) (u : Nat) (d : Array UInt8) (w : World) (hH : Holds (fun (b : UInt8) => Value.int .u8 (b.toNat : Int)) w blk off d) (hu : u < 10 ^ d.size) (hu64 : u < 18446744073709551616) (hsz : d.size < 4611686018427387904) :
    Calls Tryz.prog 152 #[.slice (some ⟨blk, off, none⟩) d.size cap, .int .u64 u] w fun e w' =>
      e = .returned (.tuple #[]) ∧ ∃ (n v' : Nat) (dk : Array UInt8), w' = (putRow (fun (b : UInt8) => Value.int .u8 (b.toNat : Int)) w blk off dk).drewN n ∧ FmtInv d.size u 0 v' dk := Any.internal_strconv_formatBase10 Tryz.lays285 blk off cap u d w hH hu hu64 hsz
def Tryz.laysM246_ren : Go.Shelf.Ren := ⟨fun | 246 => 140 | 283 => 150 | 284 => 151 | 285 => 152 | 286 => 153 | 129 => 139 | 317 => 155 | 318 => 156 | 319 => 157 | 320 => 158 | 337 => 159 | 338 => 160 | n => n, fun | 2 => 2 | 3 => 3 | 9 => 9 | 4 => 4 | 171 => 175 | 0 => 0 | 53 => 103 | 37 => 64 | 5 => 5 | 173 => 177 | 212 => 183 | 51 => 104 | 20 => 20 | 213 => 184 | 46 => 128 | 232 => 185 | 233 => 186 | n => n, fun | 17 => 1 | 18 => 2 | 19 => 3 | n => n⟩
theorem Tryz.laysM246 : Go.Proofs.LaysM.n246 Tryz.prog Tryz.laysM246_ren := {
  mixed := by kernel_rfl
  f129 := Tryz.func139.trans (congrArg some (by kernel_rfl))
  f246 := Tryz.func140.trans (congrArg some (by kernel_rfl))
  f283 := Tryz.func150.trans (congrArg some (by kernel_rfl))
  f284 := Tryz.func151.trans (congrArg some (by kernel_rfl))
  f285 := Tryz.func152.trans (congrArg some (by kernel_rfl))
  f286 := Tryz.func153.trans (congrArg some (by kernel_rfl))
  f317 := Tryz.func155.trans (congrArg some (by kernel_rfl))
  f318 := Tryz.func156.trans (congrArg some (by kernel_rfl))
  f319 := Tryz.func157.trans (congrArg some (by kernel_rfl))
  f320 := Tryz.func158.trans (congrArg some (by kernel_rfl))
  f337 := Tryz.func159.trans (congrArg some (by kernel_rfl))
  f338 := Tryz.func160.trans (congrArg some (by kernel_rfl))
  t0 := Tryz.underlying0
  a0 := Tryz.isAgg0
  z0 := Tryz.sizeOf0
  v0 := Tryz.zeroValue0
  t2 := Tryz.underlying2
  a2 := Tryz.isAgg2
  z2 := Tryz.sizeOf2
  v2 := Tryz.zeroValue2
  t3 := Tryz.underlying3
  a3 := Tryz.isAgg3
  z3 := Tryz.sizeOf3
  v3 := Tryz.zeroValue3
  t4 := Tryz.underlying4
  a4 := Tryz.isAgg4
  z4 := Tryz.sizeOf4
  v4 := Tryz.zeroValue4
  t5 := Tryz.underlying5
  a5 := Tryz.isAgg5
  z5 := Tryz.sizeOf5
  v5 := Tryz.zeroValue5
  t9 := Tryz.underlying9
  a9 := Tryz.isAgg9
  z9 := Tryz.sizeOf9
  v9 := Tryz.zeroValue9
  t20 := Tryz.underlying20
  a20 := Tryz.isAgg20
  z20 := Tryz.sizeOf20
  v20 := Tryz.zeroValue20
  t37 := Tryz.underlying64
  a37 := Tryz.isAgg64
  z37 := Tryz.sizeOf64
  v37 := Tryz.zeroValue64
  t46 := Tryz.underlying128
  a46 := Tryz.isAgg128
  z46 := Tryz.sizeOf128
  v46 := Tryz.zeroValue128
  t51 := Tryz.underlying104
  a51 := Tryz.isAgg104
  z51 := Tryz.sizeOf104
  v51 := Tryz.zeroValue104
  t53 := Tryz.underlying103
  a53 := Tryz.isAgg103
  z53 := Tryz.sizeOf103
  v53 := Tryz.zeroValue103
  t171 := Tryz.underlying175
  a171 := Tryz.isAgg175
  z171 := Tryz.sizeOf175
  v171 := Tryz.zeroValue175
  t173 := Tryz.underlying177
  a173 := Tryz.isAgg177
  z173 := Tryz.sizeOf177
  v173 := Tryz.zeroValue177
  t212 := Tryz.underlying183
  a212 := Tryz.isAgg183
  z212 := Tryz.sizeOf183
  v212 := Tryz.zeroValue183
  t213 := Tryz.underlying184
  a213 := Tryz.isAgg184
  z213 := Tryz.sizeOf184
  t232 := Tryz.underlying185
  a232 := Tryz.isAgg185
  z232 := Tryz.sizeOf185
  v232 := Tryz.zeroValue185
  t233 := Tryz.underlying186
  a233 := Tryz.isAgg186
  z233 := Tryz.sizeOf186
  v233 := Tryz.zeroValue186
  g17 := by kernel_rfl
  g18 := by kernel_rfl
  g19 := by kernel_rfl
  i0 := by kernel_rfl
  i2 := by kernel_rfl
  i3 := by kernel_rfl
  i4 := by kernel_rfl
  i5 := by kernel_rfl
  i9 := by kernel_rfl
  i20 := by kernel_rfl
  i37 := by kernel_rfl
  i46 := by kernel_rfl
  i51 := by kernel_rfl
  i53 := by kernel_rfl
  i171 := by kernel_rfl
  i173 := by kernel_rfl
  i212 := by kernel_rfl
  i232 := by kernel_rfl
  i233 := by kernel_rfl
  m17 := by kernel_rfl
  m18 := by kernel_rfl
  m19 := by kernel_rfl }
open Go.RowKit Go.Sort Go.Lib in
theorem Tryz.internal_strconv_FormatInt_10 (n : Int) (h0 : -9223372036854775808 ≤ n) (h1 : n ≤ 9223372036854775807) (w : World) (htab : Lib.TabIs Tryz.prog w "internal/strconv.uint64pow10" .u64 Lib.pow10Tab) :
    Calls Tryz.prog 140 #[.int .i64 n, .int .i64 10] w fun e w' => e = .returned (.string ⟨(Lib.itoa n).toArray⟩) ∧ ∃ k os, w' = grow (w.drewN k) os := Any.internal_strconv_FormatInt_10 Tryz.laysM246 n h0 h1 w htab
def Tryz.lays246_ren : Go.Shelf.Ren := ⟨fun | 246 => 140 | 283 => 150 | 284 => 151 | 285 => 152 | 286 => 153 | 129 => 139 | 317 => 155 | 318 => 156 | 319 => 157 | 320 => 158 | 337 => 159 | 338 => 160 | n => n, fun | 2 => 2 | 3 => 3 | 9 => 9 | 4 => 4 | 171 => 175 | 0 => 0 | 53 => 103 | 37 => 64 | 5 => 5 | 173 => 177 | 212 => 183 | 51 => 104 | 20 => 20 | 213 => 184 | 46 => 128 | 232 => 185 | 233 => 186 | n => n, fun | 17 => 1 | 18 => 2 | 19 => 3 | n => n⟩
theorem Tryz.lays246 : Go.Proofs.Lays.n246 Tryz.prog Tryz.lays246_ren := {
  mixed := by kernel_rfl
  f129 := Tryz.func139.trans (congrArg some (by kernel_rfl))
  f246 := Tryz.func140.trans (congrArg some (by kernel_rfl))
  f283 := Tryz.func150.trans (congrArg some (by kernel_rfl))
  f284 := Tryz.func151.trans (congrArg some (by kernel_rfl))
  f285 := Tryz.func152.trans (congrArg some (by kernel_rfl))
  f286 := Tryz.func153.trans (congrArg some (by kernel_rfl))
  f317 := Tryz.func155.trans (congrArg some (by kernel_rfl))
  f318 := Tryz.func156.trans (congrArg some (by kernel_rfl))
  f319 := Tryz.func157.trans (congrArg some (by kernel_rfl))
  f320 := Tryz.func158.trans (congrArg some (by kernel_rfl))
  f337 := Tryz.func159.trans (congrArg some (by kernel_rfl))
  f338 := Tryz.func160.trans (congrArg some (by kernel_rfl))
  t0 := Tryz.underlying0
  a0 := Tryz.isAgg0
  z0 := Tryz.sizeOf0
  v0 := Tryz.zeroValue0
  t2 := Tryz.underlying2
  a2 := Tryz.isAgg2
  z2 := Tryz.sizeOf2
  v2 := Tryz.zeroValue2
  t3 := Tryz.underlying3
  a3 := Tryz.isAgg3
  z3 := Tryz.sizeOf3
  v3 := Tryz.zeroValue3
  t4 := Tryz.underlying4
  a4 := Tryz.isAgg4
  z4 := Tryz.sizeOf4
  v4 := Tryz.zeroValue4
  t5 := Tryz.underlying5
  a5 := Tryz.isAgg5
  z5 := Tryz.sizeOf5
  v5 := Tryz.zeroValue5
  t9 := Tryz.underlying9
  a9 := Tryz.isAgg9
  z9 := Tryz.sizeOf9
  v9 := Tryz.zeroValue9
  t20 := Tryz.underlying20
  a20 := Tryz.isAgg20
  z20 := Tryz.sizeOf20
  v20 := Tryz.zeroValue20
  t37 := Tryz.underlying64
  a37 := Tryz.isAgg64
  z37 := Tryz.sizeOf64
  v37 := Tryz.zeroValue64
  t46 := Tryz.underlying128
  a46 := Tryz.isAgg128
  z46 := Tryz.sizeOf128
  v46 := Tryz.zeroValue128
  t51 := Tryz.underlying104
  a51 := Tryz.isAgg104
  z51 := Tryz.sizeOf104
  v51 := Tryz.zeroValue104
  t53 := Tryz.underlying103
  a53 := Tryz.isAgg103
  z53 := Tryz.sizeOf103
  v53 := Tryz.zeroValue103
  t171 := Tryz.underlying175
  a171 := Tryz.isAgg175
  z171 := Tryz.sizeOf175
  v171 := Tryz.zeroValue175
  t173 := Tryz.underlying177
  a173 := Tryz.isAgg177
  z173 := Tryz.sizeOf177
  v173 := Tryz.zeroValue177
  t212 := Tryz.underlying183
  a212 := Tryz.isAgg183
  z212 := Tryz.sizeOf183
  v212 := Tryz.zeroValue183
  t213 := Tryz.underlying184
  a213 := Tryz.isAgg184
  z213 := Tryz.sizeOf184
  t232 := Tryz.underlying185
  a232 := Tryz.isAgg185
  z232 := Tryz.sizeOf185
  v232 := Tryz.zeroValue185
  t233 := Tryz.underlying186
  a233 := Tryz.isAgg186
  z233 := Tryz.sizeOf186
  v233 := Tryz.zeroValue186
  g17 := by kernel_rfl
  g18 := by kernel_rfl
  g19 := by kernel_rfl }
open Go.RowKit Go.Sort Go.Lib in
theorem Tryz.internal_strconv_FormatInt_10_small (i : Nat) (hi : i < 100) (w : World) :
    Calls Tryz.prog 140 #[.int .i64 i, .int .i64 10] w fun e w' => e = .returned (.string ⟨(Lib.decDigits i).toArray⟩) ∧ w' = w := Any.internal_strconv_FormatInt_10_small Tryz.lays246 i hi w
def Tryz.laysM243_ren : Go.Shelf.Ren := ⟨fun | 243 => 120 | 246 => 140 | 283 => 150 | 284 => 151 | 285 => 152 | 286 => 153 | 129 => 139 | 317 => 155 | 318 => 156 | 319 => 157 | 320 => 158 | 337 => 159 | 338 => 160 | n => n, fun | 3 => 3 | 9 => 9 | 2 => 2 | 4 => 4 | 171 => 175 | 0 => 0 | 53 => 103 | 37 => 64 | 5 => 5 | 173 => 177 | 212 => 183 | 51 => 104 | 20 => 20 | 213 => 184 | 46 => 128 | 232 => 185 | 233 => 186 | n => n, fun | 17 => 1 | 18 => 2 | 19 => 3 | n => n⟩
theorem Tryz.laysM243 : Go.Proofs.LaysM.n243 Tryz.prog Tryz.laysM243_ren := {
  mixed := by kernel_rfl
  f129 := Tryz.func139.trans (congrArg some (by kernel_rfl))
  f243 := Tryz.func120.trans (congrArg some (by kernel_rfl))
  f246 := Tryz.func140.trans (congrArg some (by kernel_rfl))
  f283 := Tryz.func150.trans (congrArg some (by kernel_rfl))
  f284 := Tryz.func151.trans (congrArg some (by kernel_rfl))
  f285 := Tryz.func152.trans (congrArg some (by kernel_rfl))
  f286 := Tryz.func153.trans (congrArg some (by kernel_rfl))
  f317 := Tryz.func155.trans (congrArg some (by kernel_rfl))
  f318 := Tryz.func156.trans (congrArg some (by kernel_rfl))
  f319 := Tryz.func157.trans (congrArg some (by kernel_rfl))
  f320 := Tryz.func158.trans (congrArg some (by kernel_rfl))
  f337 := Tryz.func159.trans (congrArg some (by kernel_rfl))
  f338 := Tryz.func160.trans (congrArg some (by kernel_rfl))
  t0 := Tryz.underlying0
  a0 := Tryz.isAgg0
  z0 := Tryz.sizeOf0
  v0 := Tryz.zeroValue0
  t2 := Tryz.underlying2
  a2 := Tryz.isAgg2
  z2 := Tryz.sizeOf2
  v2 := Tryz.zeroValue2
  t3 := Tryz.underlying3
  a3 := Tryz.isAgg3
  z3 := Tryz.sizeOf3
  v3 := Tryz.zeroValue3
  t4 := Tryz.underlying4
  a4 := Tryz.isAgg4
  z4 := Tryz.sizeOf4
  v4 := Tryz.zeroValue4
  t5 := Tryz.underlying5
  a5 := Tryz.isAgg5
  z5 := Tryz.sizeOf5
  v5 := Tryz.zeroValue5
  t9 := Tryz.underlying9
  a9 := Tryz.isAgg9
  z9 := Tryz.sizeOf9
  v9 := Tryz.zeroValue9
  t20 := Tryz.underlying20
  a20 := Tryz.isAgg20
  z20 := Tryz.sizeOf20
  v20 := Tryz.zeroValue20
  t37 := Tryz.underlying64
  a37 := Tryz.isAgg64
  z37 := Tryz.sizeOf64
  v37 := Tryz.zeroValue64
  t46 := Tryz.underlying128
  a46 := Tryz.isAgg128
  z46 := Tryz.sizeOf128
  v46 := Tryz.zeroValue128
  t51 := Tryz.underlying104
  a51 := Tryz.isAgg104
  z51 := Tryz.sizeOf104
  v51 := Tryz.zeroValue104
  t53 := Tryz.underlying103
  a53 := Tryz.isAgg103
  z53 := Tryz.sizeOf103
  v53 := Tryz.zeroValue103
  t171 := Tryz.underlying175
  a171 := Tryz.isAgg175
  z171 := Tryz.sizeOf175
  v171 := Tryz.zeroValue175
  t173 := Tryz.underlying177
  a173 := Tryz.isAgg177
  z173 := Tryz.sizeOf177
  v173 := Tryz.zeroValue177
  t212 := Tryz.underlying183
  a212 := Tryz.isAgg183
  z212 := Tryz.sizeOf183
  v212 := Tryz.zeroValue183
  t213 := Tryz.underlying184
  a213 := Tryz.isAgg184
  z213 := Tryz.sizeOf184
  t232 := Tryz.underlying185
  a232 := Tryz.isAgg185
  z232 := Tryz.sizeOf185
  v232 := Tryz.zeroValue185
  t233 := Tryz.underlying186
  a233 := Tryz.isAgg186
  z233 := Tryz.sizeOf186
  v233 := Tryz.zeroValue186
  g17 := by kernel_rfl
  g18 := by kernel_rfl
  g19 := by kernel_rfl
  i0 := by kernel_rfl
  i2 := by kernel_rfl
  i3 := by kernel_rfl
  i4 := by kernel_rfl
  i5 := by kernel_rfl
  i9 := by kernel_rfl
  i20 := by kernel_rfl
  i37 := by kernel_rfl
  i46 := by kernel_rfl
  i51 := by kernel_rfl
  i53 := by kernel_rfl
  i171 := by kernel_rfl
  i173 := by kernel_rfl
  i212 := by kernel_rfl
  i232 := by kernel_rfl
  i233 := by kernel_rfl
  m17 := by kernel_rfl
  m18 := by kernel_rfl
  m19 := by kernel_rfl }
open Go.RowKit Go.Sort Go.Lib in
theorem Tryz.internal_strconv_Itoa (n : Int) (h0 : -9223372036854775808 ≤ n) (h1 : n ≤ 9223372036854775807) (w : World) (htab : Lib.TabIs Tryz.prog w "internal/strconv.uint64pow10" .u64 Lib.pow10Tab) :
    Calls Tryz.prog 120 #[.int .i64 n] w fun e w' => e = .returned (.string ⟨(Lib.itoa n).toArray⟩) ∧ ∃ k os, w' = grow (w.drewN k) os := Any.internal_strconv_Itoa Tryz.laysM243 n h0 h1 w htab
def Tryz.lays243_ren : Go.Shelf.Ren := ⟨fun | 243 => 120 | 246 => 140 | 283 => 150 | 284 => 151 | 285 => 152 | 286 => 153 | 129 => 139 | 317 => 155 | 318 => 156 | 319 => 157 | 320 => 158 | 337 => 159 | 338 => 160 | n => n, fun | 3 => 3 | 9 => 9 | 2 => 2 | 4 => 4 | 171 => 175 | 0 => 0 | 53 => 103 | 37 => 64 | 5 => 5 | 173 => 177 | 212 => 183 | 51 => 104 | 20 => 20 | 213 => 184 | 46 => 128 | 232 => 185 | 233 => 186 | n => n, fun | 17 => 1 | 18 => 2 | 19 => 3 | n => n⟩
theorem Tryz.lays243 : Go.Proofs.Lays.n243 Tryz.prog Tryz.lays243_ren := {
  mixed := by kernel_rfl
  f129 := Tryz.func139.trans (congrArg some (by kernel_rfl))
  f243 := Tryz.func120.trans (congrArg some (by kernel_rfl))
  f246 := Tryz.func140.trans (congrArg some (by kernel_rfl))
  f283 := Tryz.func150.trans (congrArg some (by kernel_rfl))
  f284 := Tryz.func151.trans (congrArg some (by kernel_rfl))
  f285 := Tryz.func152.trans (congrArg some (by kernel_rfl))
  f286 := Tryz.func153.trans (congrArg some (by kernel_rfl))
  f317 := Tryz.func155.trans (congrArg some (by kernel_rfl))
  f318 := Tryz.func156.trans (congrArg some (by kernel_rfl))
  f319 := Tryz.func157.trans (congrArg some (by kernel_rfl))
  f320 := Tryz.func158.trans (congrArg some (by kernel_rfl))
  f337 := Tryz.func159.trans (congrArg some (by kernel_rfl))
  f338 := Tryz.func160.trans (congrArg some (by kernel_rfl))
  t0 := Tryz.underlying0
  a0 := Tryz.isAgg0
  z0 := Tryz.sizeOf0
  v0 := Tryz.zeroValue0
  t2 := Tryz.underlying2
  a2 := Tryz.isAgg2
  z2 := Tryz.sizeOf2
  v2 := Tryz.zeroValue2
  t3 := Tryz.underlying3
  a3 := Tryz.isAgg3
  z3 := Tryz.sizeOf3
  v3 := Tryz.zeroValue3
  t4 := Tryz.underlying4
  a4 := Tryz.isAgg4
  z4 := Tryz.sizeOf4
  v4 := Tryz.zeroValue4
  t5 := Tryz.underlying5
  a5 := Tryz.isAgg5
  z5 := Tryz.sizeOf5
  v5 := Tryz.zeroValue5
  t9 := Tryz.underlying9
  a9 := Tryz.isAgg9
  z9 := Tryz.sizeOf9
  v9 := Tryz.zeroValue9
  t20 := Tryz.underlying20
  a20 := Tryz.isAgg20
  z20 := Tryz.sizeOf20
  v20 := Tryz.zeroValue20
  t37 := Tryz.underlying64
  a37 := Tryz.isAgg64
  z37 := Tryz.sizeOf64
  v37 := Tryz.zeroValue64
  t46 := Tryz.underlying128
  a46 := Tryz.isAgg128
  z46 := Tryz.sizeOf128
  v46 := Tryz.zeroValue128
  t51 := Tryz.underlying104
  a51 := Tryz.isAgg104
  z51 := Tryz.sizeOf104
  v51 := Tryz.zeroValue104
  t53 := Tryz.underlying103
  a53 := Tryz.isAgg103
  z53 := Tryz.sizeOf103
  v53 := Tryz.zeroValue103
  t171 := Tryz.underlying175
  a171 := Tryz.isAgg175
  z171 := Tryz.sizeOf175
  v171 := Tryz.zeroValue175
  t173 := Tryz.underlying177
  a173 := Tryz.isAgg177
  z173 := Tryz.sizeOf177
  v173 := Tryz.zeroValue177
  t212 := Tryz.underlying183
  a212 := Tryz.isAgg183
  z212 := Tryz.sizeOf183
  v212 := Tryz.zeroValue183
  t213 := Tryz.underlying184
  a213 := Tryz.isAgg184
  z213 := Tryz.sizeOf184
  t232 := Tryz.underlying185
  a232 := Tryz.isAgg185
  z232 := Tryz.sizeOf185
  v232 := Tryz.zeroValue185
  t233 := Tryz.underlying186
  a233 := Tryz.isAgg186
  z233 := Tryz.sizeOf186
  v233 := Tryz.zeroValue186
  g17 := by kernel_rfl
  g18 := by kernel_rfl
  g19 := by kernel_rfl }
open Go.RowKit Go.Sort Go.Lib in
theorem Tryz.internal_strconv_Itoa_small (i : Nat) (hi : i < 100) (w : World) :
    Calls Tryz.prog 120 #[.int .i64 i] w fun e w' => e = .returned (.string ⟨(Lib.decDigits i).toArray⟩) ∧ w' = w := Any.internal_strconv_Itoa_small Tryz.lays243 i hi w
def Tryz.laysM171_ren : Go.Shelf.Ren := ⟨fun | 171 => 101 | 243 => 120 | 246 => 140 | 283 => 150 | 284 => 151 | 285 => 152 | 286 => 153 | 129 => 139 | 317 => 155 | 318 => 156 | 319 => 157 | 320 => 158 | 337 => 159 | 338 => 160 | n => n, fun | 3 => 3 | 9 => 9 | 2 => 2 | 4 => 4 | 171 => 175 | 0 => 0 | 53 => 103 | 37 => 64 | 5 => 5 | 173 => 177 | 212 => 183 | 51 => 104 | 20 => 20 | 213 => 184 | 46 => 128 | 232 => 185 | 233 => 186 | n => n, fun | 17 => 1 | 18 => 2 | 19 => 3 | n => n⟩
theorem Tryz.laysM171 : Go.Proofs.LaysM.n171 Tryz.prog Tryz.laysM171_ren := {
  mixed := by kernel_rfl
  f129 := Tryz.func139.trans (congrArg some (by kernel_rfl))
  f171 := Tryz.func101.trans (congrArg some (by kernel_rfl))
  f243 := Tryz.func120.trans (congrArg some (by kernel_rfl))
  f246 := Tryz.func140.trans (congrArg some (by kernel_rfl))
  f283 := Tryz.func150.trans (congrArg some (by kernel_rfl))
  f284 := Tryz.func151.trans (congrArg some (by kernel_rfl))
  f285 := Tryz.func152.trans (congrArg some (by kernel_rfl))
  f286 := Tryz.func153.trans (congrArg some (by kernel_rfl))
  f317 := Tryz.func155.trans (congrArg some (by kernel_rfl))
  f318 := Tryz.func156.trans (congrArg some (by kernel_rfl))
  f319 := Tryz.func157.trans (congrArg some (by kernel_rfl))
  f320 := Tryz.func158.trans (congrArg some (by kernel_rfl))
  f337 := Tryz.func159.trans (congrArg some (by kernel_rfl))
  f338 := Tryz.func160.trans (congrArg some (by kernel_rfl))
  t0 := Tryz.underlying0
  a0 := Tryz.isAgg0
  z0 := Tryz.sizeOf0
  v0 := Tryz.zeroValue0
  t2 := Tryz.underlying2
  a2 := Tryz.isAgg2
  z2 := Tryz.sizeOf2
  v2 := Tryz.zeroValue2
  t3 := Tryz.underlying3
  a3 := Tryz.isAgg3
  z3 := Tryz.sizeOf3
  v3 := Tryz.zeroValue3
  t4 := Tryz.underlying4
  a4 := Tryz.isAgg4
  z4 := Tryz.sizeOf4
  v4 := Tryz.zeroValue4
  t5 := Tryz.underlying5
  a5 := Tryz.isAgg5
  z5 := Tryz.sizeOf5
  v5 := Tryz.zeroValue5
  t9 := Tryz.underlying9
  a9 := Tryz.isAgg9
  z9 := Tryz.sizeOf9
  v9 := Tryz.zeroValue9
  t20 := Tryz.underlying20
  a20 := Tryz.isAgg20
  z20 := Tryz.sizeOf20
  v20 := Tryz.zeroValue20
  t37 := Tryz.underlying64
  a37 := Tryz.isAgg64
  z37 := Tryz.sizeOf64
  v37 := Tryz.zeroValue64
  t46 := Tryz.underlying128
  a46 := Tryz.isAgg128
  z46 := Tryz.sizeOf128
  v46 := Tryz.zeroValue128
  t51 := Tryz.underlying104
  a51 := Tryz.isAgg104
  z51 := Tryz.sizeOf104
  v51 := Tryz.zeroValue104
  t53 := Tryz.underlying103
  a53 := Tryz.isAgg103
  z53 := Tryz.sizeOf103
  v53 := Tryz.zeroValue103
  t171 := Tryz.underlying175
  a171 := Tryz.isAgg175
  z171 := Tryz.sizeOf175
  v171 := Tryz.zeroValue175
  t173 := Tryz.underlying177
  a173 := Tryz.isAgg177
  z173 := Tryz.sizeOf177
  v173 := Tryz.zeroValue177
  t212 := Tryz.underlying183
  a212 := Tryz.isAgg183
  z212 := Tryz.sizeOf183
  v212 := Tryz.zeroValue183
  t213 := Tryz.underlying184
  a213 := Tryz.isAgg184
  z213 := Tryz.sizeOf184
  t232 := Tryz.underlying185
  a232 := Tryz.isAgg185
  z232 := Tryz.sizeOf185
  v232 := Tryz.zeroValue185
  t233 := Tryz.underlying186
  a233 := Tryz.isAgg186
  z233 := Tryz.sizeOf186
  v233 := Tryz.zeroValue186
  g17 := by kernel_rfl
  g18 := by kernel_rfl
  g19 := by kernel_rfl
  i0 := by kernel_rfl
  i2 := by kernel_rfl
  i3 := by kernel_rfl
  i4 := by kernel_rfl
  i5 := by kernel_rfl
  i9 := by kernel_rfl
  i20 := by kernel_rfl
  i37 := by kernel_rfl
  i46 := by kernel_rfl
  i51 := by kernel_rfl
  i53 := by kernel_rfl
  i171 := by kernel_rfl
  i173 := by kernel_rfl
  i212 := by kernel_rfl
  i232 := by kernel_rfl
  i233 := by kernel_rfl
  m17 := by kernel_rfl
  m18 := by kernel_rfl
  m19 := by kernel_rfl }
open Go.RowKit Go.Sort Go.Lib in
theorem Tryz.strconv_Itoa (n : Int) (h0 : -9223372036854775808 ≤ n) (h1 : n ≤ 9223372036854775807) (w : World) (htab : Lib.TabIs Tryz.prog w "internal/strconv.uint64pow10" .u64 Lib.pow10Tab) :
    Calls Tryz.prog 101 #[.int .i64 n] w fun e w' => e = .returned (.string ⟨(Lib.itoa n).toArray⟩) ∧ ∃ k os, w' = grow (w.drewN k) os := Any.strconv_Itoa Tryz.laysM171 n h0 h1 w htab
def Tryz.lays171_ren : Go.Shelf.Ren := ⟨fun | 171 => 101 | 243 => 120 | 246 => 140 | 283 => 150 | 284 => 151 | 285 => 152 | 286 => 153 | 129 => 139 | 317 => 155 | 318 => 156 | 319 => 157 | 320 => 158 | 337 => 159 | 338 => 160 | n => n, fun | 3 => 3 | 9 => 9 | 2 => 2 | 4 => 4 | 171 => 175 | 0 => 0 | 53 => 103 | 37 => 64 | 5 => 5 | 173 => 177 | 212 => 183 | 51 => 104 | 20 => 20 | 213 => 184 | 46 => 128 | 232 => 185 | 233 => 186 | n => n, fun | 17 => 1 | 18 => 2 | 19 => 3 | n => n⟩
theorem Tryz.lays171 : Go.Proofs.Lays.n171 Tryz.prog Tryz.lays171_ren := {
  mixed := by kernel_rfl
  f129 := Tryz.func139.trans (congrArg some (by kernel_rfl))
  f171 := Tryz.func101.trans (congrArg some (by kernel_rfl))
  f243 := Tryz.func120.trans (congrArg some (by kernel_rfl))
  f246 := Tryz.func140.trans (congrArg some (by kernel_rfl))
  f283 := Tryz.func150.trans (congrArg some (by kernel_rfl))
  f284 := Tryz.func151.trans (congrArg some (by kernel_rfl))
  f285 := Tryz.func152.trans (congrArg some (by kernel_rfl))
  f286 := Tryz.func153.trans (congrArg some (by kernel_rfl))
  f317 := Tryz.func155.trans (congrArg some (by kernel_rfl))
  f318 := Tryz.func156.trans (congrArg some (by kernel_rfl))
  f319 := Tryz.func157.trans (congrArg some (by kernel_rfl))
  f320 := Tryz.func158.trans (congrArg some (by kernel_rfl))
  f337 := Tryz.func159.trans (congrArg some (by kernel_rfl))
  f338 := Tryz.func160.trans (congrArg some (by kernel_rfl))
  t0 := Tryz.underlying0
  a0 := Tryz.isAgg0
  z0 := Tryz.sizeOf0
  v0 := Tryz.zeroValue0
  t2 := Tryz.underlying2
  a2 := Tryz.isAgg2
  z2 := Tryz.sizeOf2
  v2 := Tryz.zeroValue2
  t3 := Tryz.underlying3
  a3 := Tryz.isAgg3
  z3 := Tryz.sizeOf3
  v3 := Tryz.zeroValue3
  t4 := Tryz.underlying4
  a4 := Tryz.isAgg4
  z4 := Tryz.sizeOf4
  v4 := Tryz.zeroValue4
  t5 := Tryz.underlying5
  a5 := Tryz.isAgg5
  z5 := Tryz.sizeOf5
  v5 := Tryz.zeroValue5
  t9 := Tryz.underlying9
  a9 := Tryz.isAgg9
  z9 := Tryz.sizeOf9
  v9 := Tryz.zeroValue9
  t20 := Tryz.underlying20
  a20 := Tryz.isAgg20
  z20 := Tryz.sizeOf20
  v20 := Tryz.zeroValue20
  t37 := Tryz.underlying64
  a37 := Tryz.isAgg64
  z37 := Tryz.sizeOf64
  v37 := Tryz.zeroValue64
  t46 := Tryz.underlying128
  a46 := Tryz.isAgg128
  z46 := Tryz.sizeOf128
  v46 := Tryz.zeroValue128
  t51 := Tryz.underlying104
  a51 := Tryz.isAgg104
  z51 := Tryz.sizeOf104
  v51 := Tryz.zeroValue104
  t53 := Tryz.underlying103
  a53 := Tryz.isAgg103
  z53 := Tryz.sizeOf103
  v53 := Tryz.zeroValue103
  t171 := Tryz.underlying175
  a171 := Tryz.isAgg175
  z171 := Tryz.sizeOf175
  v171 := Tryz.zeroValue175
  t173 := Tryz.underlying177
  a173 := Tryz.isAgg177
  z173 := Tryz.sizeOf177
  v173 := Tryz.zeroValue177
  t212 := Tryz.underlying183
  a212 := Tryz.isAgg183
  z212 := Tryz.sizeOf183
  v212 := Tryz.zeroValue183
  t213 := Tryz.underlying184
  a213 := Tryz.isAgg184
  z213 := Tryz.sizeOf184
  t232 := Tryz.underlying185
  a232 := Tryz.isAgg185
  z232 := Tryz.sizeOf185
  v232 := Tryz.zeroValue185
  t233 := Tryz.underlying186
  a233 := Tryz.isAgg186
  z233 := Tryz.sizeOf186
  v233 := Tryz.zeroValue186
  g17 := by kernel_rfl
  g18 := by kernel_rfl
  g19 := by kernel_rfl }
open Go.RowKit Go.Sort Go.Lib in
theorem Tryz.strconv_Itoa_small (i : Nat) (hi : i < 100) (w : World) :
    Calls Tryz.prog 101 #[.int .i64 i] w fun e w' => e = .returned (.string ⟨(Lib.decDigits i).toArray⟩) ∧ w' = w := Any.strconv_Itoa_small Tryz.lays171 i hi w
def Tryz.laysM316_ren : Go.Shelf.Ren := ⟨fun | 316 => 60 | n => n, fun | 9 => 9 | 3 => 3 | 4 => 4 | 37 => 64 | 0 => 0 | 127 => 116 | 5 => 5 | n => n, fun | n => n⟩
theorem Tryz.laysM316 : Go.Proofs.LaysM.n316 Tryz.prog Tryz.laysM316_ren := {
  mixed := by kernel_rfl
  f316 := Tryz.func60.trans (congrArg some (by kernel_rfl))
  t0 := Tryz.underlying0
  a0 := Tryz.isAgg0
  z0 := Tryz.sizeOf0
  v0 := Tryz.zeroValue0
  t3 := Tryz.underlying3
  a3 := Tryz.isAgg3
  z3 := Tryz.sizeOf3
  v3 := Tryz.zeroValue3
  t4 := Tryz.underlying4
  a4 := Tryz.isAgg4
  z4 := Tryz.sizeOf4
  v4 := Tryz.zeroValue4
  t9 := Tryz.underlying9
  a9 := Tryz.isAgg9
  z9 := Tryz.sizeOf9
  v9 := Tryz.zeroValue9
  t37 := Tryz.underlying64
  a37 := Tryz.isAgg64
  z37 := Tryz.sizeOf64
  v37 := Tryz.zeroValue64
  t127 := Tryz.underlying116
  a127 := Tryz.isAgg116
  z127 := Tryz.sizeOf116
  v127 := Tryz.zeroValue116
  t5 := Tryz.underlying5
  a5 := Tryz.isAgg5
  z5 := Tryz.sizeOf5
  v5 := Tryz.zeroValue5
  i0 := by kernel_rfl
  i3 := by kernel_rfl
  i4 := by kernel_rfl
  i5 := by kernel_rfl
  i9 := by kernel_rfl
  i37 := by kernel_rfl
  i127 := by kernel_rfl }
open Go.RowKit in
theorem Tryz.stringslite_Clone (s : ByteArray) (w : World) (hlim : s.size ≤ 281474976710656) :
    Calls Tryz.prog 60 #[.string s] w fun e w' => e = .returned (.string s) ∧ Below w.heap.size w w' := Any.stringslite_Clone Tryz.laysM316 s w hlim
def Tryz.lays190_ren : Go.Shelf.Ren := ⟨fun | 190 => 99 | 125 => 119 | 258 => 118 | 128 => 138 | 129 => 139 | 302 => 129 | 303 => 130 | 304 => 131 | 305 => 132 | 306 => 133 | 307 => 134 | 308 => 135 | 309 => 136 | 310 => 137 | 333 => 144 | 329 => 145 | 330 => 146 | 334 => 147 | 335 => 148 | 336 => 149 | 344 => 154 | n => n, fun | 31 => 22 | 9 => 9 | 3 => 3 | 46 => 128 | 0 => 0 | 51 => 104 | 53 => 103 | 4 => 4 | 183 => 159 | 182 => 158 | 131 => 60 | 5 => 5 | 218 => 170 | 222 => 173 | 228 => 179 | 229 => 76 | n => n, fun | n => n⟩
theorem Tryz.lays190 : Go.Proofs.Lays.n190 Tryz.prog Tryz.lays190_ren := {
  mixed := by kernel_rfl
  f125 := Tryz.func119.trans (congrArg some (by kernel_rfl))
  f128 := Tryz.func138.trans (congrArg some (by kernel_rfl))
  f129 := Tryz.func139.trans (congrArg some (by kernel_rfl))
  f190 := Tryz.func99.trans (congrArg some (by kernel_rfl))
  f258 := Tryz.func118.trans (congrArg some (by kernel_rfl))
  f302 := Tryz.func129.trans (congrArg some (by kernel_rfl))
  f303 := Tryz.func130.trans (congrArg some (by kernel_rfl))
  f304 := Tryz.func131.trans (congrArg some (by kernel_rfl))
  f305 := Tryz.func132.trans (congrArg some (by kernel_rfl))
  f306 := Tryz.func133.trans (congrArg some (by kernel_rfl))
  f307 := Tryz.func134.trans (congrArg some (by kernel_rfl))
  f308 := Tryz.func135.trans (congrArg some (by kernel_rfl))
  f309 := Tryz.func136.trans (congrArg some (by kernel_rfl))
  f310 := Tryz.func137.trans (congrArg some (by kernel_rfl))
  f329 := Tryz.func145.trans (congrArg some (by kernel_rfl))
  f330 := Tryz.func146.trans (congrArg some (by kernel_rfl))
  f333 := Tryz.func144.trans (congrArg some (by kernel_rfl))
  f334 := Tryz.func147.trans (congrArg some (by kernel_rfl))
  f335 := Tryz.func148.trans (congrArg some (by kernel_rfl))
  f336 := Tryz.func149.trans (congrArg some (by kernel_rfl))
  f344 := Tryz.func154.trans (congrArg some (by kernel_rfl))
  t0 := Tryz.underlying0
  a0 := Tryz.isAgg0
  z0 := Tryz.sizeOf0
  v0 := Tryz.zeroValue0
  t3 := Tryz.underlying3
  a3 := Tryz.isAgg3
  z3 := Tryz.sizeOf3
  v3 := Tryz.zeroValue3
  t4 := Tryz.underlying4
  a4 := Tryz.isAgg4
  z4 := Tryz.sizeOf4
  v4 := Tryz.zeroValue4
  t5 := Tryz.underlying5
  a5 := Tryz.isAgg5
  z5 := Tryz.sizeOf5
  v5 := Tryz.zeroValue5
  t9 := Tryz.underlying9
  a9 := Tryz.isAgg9
  z9 := Tryz.sizeOf9
  v9 := Tryz.zeroValue9
  t31 := Tryz.underlying22
  a31 := Tryz.isAgg22
  z31 := Tryz.sizeOf22
  v31 := Tryz.zeroValue22
  t46 := Tryz.underlying128
  a46 := Tryz.isAgg128
  z46 := Tryz.sizeOf128
  v46 := Tryz.zeroValue128
  t51 := Tryz.underlying104
  a51 := Tryz.isAgg104
  z51 := Tryz.sizeOf104
  v51 := Tryz.zeroValue104
  t53 := Tryz.underlying103
  a53 := Tryz.isAgg103
  z53 := Tryz.sizeOf103
  v53 := Tryz.zeroValue103
  t131 := Tryz.underlying60
  a131 := Tryz.isAgg60
  z131 := Tryz.sizeOf60
  v131 := Tryz.zeroValue60
  t182 := Tryz.underlying158
  a182 := Tryz.isAgg158
  z182 := Tryz.sizeOf158
  v182 := Tryz.zeroValue158
  t183 := Tryz.underlying159
  a183 := Tryz.isAgg159
  z183 := Tryz.sizeOf159
  v183 := Tryz.zeroValue159
  t218 := Tryz.underlying170
  a218 := Tryz.isAgg170
  z218 := Tryz.sizeOf170
  v218 := Tryz.zeroValue170
  t222 := Tryz.underlying173
  a222 := Tryz.isAgg173
  z222 := Tryz.sizeOf173
  v222 := Tryz.zeroValue173
  t228 := Tryz.underlying179
  a228 := Tryz.isAgg179
  z228 := Tryz.sizeOf179
  v228 := Tryz.zeroValue179
  t229 := Tryz.underlying76
  a229 := Tryz.isAgg76
  z229 := Tryz.sizeOf76
  v229 := Tryz.zeroValue76 }
open Go.Sort Go.RowKit in
theorem Tryz.slices_Sort_string (blk off cap : Nat) (ss : List (List UInt8)) (w : World) (hH : Holds encStr w blk off ss.toArray) (hblk : blk < w.heap.size) (hsz : ss.length < 4611686018427387904) :
    Calls Tryz.prog 99 #[.slice (some ⟨blk, off, none⟩) ss.length cap] w fun e w' =>
      e = .returned (.tuple #[]) ∧ ∃ n os, w' = grow (putRow encStr (Sort.ahead w n) blk off (ss.mergeSort fun x y => decide (x ≤ y)).toArray) os := Any.slices_Sort_string Tryz.lays190 blk off cap ss w hH hblk hsz
def Tryz.lays206_ren : Go.Shelf.Ren := ⟨fun | 206 => 87 | n => n, fun | 9 => 9 | 4 => 4 | 3 => 3 | n => n, fun | n => n⟩
theorem Tryz.lays206 : Go.Proofs.Lays.n206 Tryz.prog Tryz.lays206_ren := {
  mixed := by kernel_rfl
  f206 := Tryz.func87.trans (congrArg some (by kernel_rfl))
  t3 := Tryz.underlying3
  a3 := Tryz.isAgg3
  z3 := Tryz.sizeOf3
  v3 := Tryz.zeroValue3
  t4 := Tryz.underlying4
  a4 := Tryz.isAgg4
  z4 := Tryz.sizeOf4
  v4 := Tryz.zeroValue4
  t9 := Tryz.underlying9
  a9 := Tryz.isAgg9
  z9 := Tryz.sizeOf9
  v9 := Tryz.zeroValue9 }
open Go.RowKit Go.Lib in
theorem Tryz.stringslite_HasPrefix (s p : ByteArray) (w : World) :
    Calls Tryz.prog 87 #[.string s, .string p] w fun e w' => e = .returned (.bool (Lib.hasPrefix s.data.toList p.data.toList)) ∧ w' = w := Any.stringslite_HasPrefix Tryz.lays206 s p w
def Tryz.lays99_ren : Go.Shelf.Ren := ⟨fun | 99 => 59 | 206 => 87 | n => n, fun | 9 => 9 | 4 => 4 | 3 => 3 | n => n, fun | n => n⟩
theorem Tryz.lays99 : Go.Proofs.Lays.n99 Tryz.prog Tryz.lays99_ren := {
  mixed := by kernel_rfl
  f99 := Tryz.func59.trans (congrArg some (by kernel_rfl))
  f206 := Tryz.func87.trans (congrArg some (by kernel_rfl))
  t3 := Tryz.underlying3
  a3 := Tryz.isAgg3
  z3 := Tryz.sizeOf3
  v3 := Tryz.zeroValue3
  t4 := Tryz.underlying4
  a4 := Tryz.isAgg4
  z4 := Tryz.sizeOf4
  v4 := Tryz.zeroValue4
  t9 := Tryz.underlying9
  a9 := Tryz.isAgg9
  z9 := Tryz.sizeOf9
  v9 := Tryz.zeroValue9 }
open Go.RowKit Go.Lib in
theorem Tryz.strings_HasPrefix (s p : ByteArray) (w : World) :
    Calls Tryz.prog 59 #[.string s, .string p] w fun e w' => e = .returned (.bool (Lib.hasPrefix s.data.toList p.data.toList)) ∧ w' = w := Any.strings_HasPrefix Tryz.lays99 s p w
def Tryz.lays264_ren : Go.Shelf.Ren := ⟨fun | 264 => 122 | n => n, fun | 53 => 103 | 46 => 128 | n => n, fun | n => n⟩
theorem Tryz.lays264 : Go.Proofs.Lays.n264 Tryz.prog Tryz.lays264_ren := {
  mixed := by kernel_rfl
  f264 := Tryz.func122.trans (congrArg some (by kernel_rfl))
  t46 := Tryz.underlying128
  a46 := Tryz.isAgg128
  z46 := Tryz.sizeOf128
  v46 := Tryz.zeroValue128
  t53 := Tryz.underlying103
  a53 := Tryz.isAgg103
  z53 := Tryz.sizeOf103
  v53 := Tryz.zeroValue103 }
open Go.RowKit Go.Lib in
theorem Tryz.bits_Mul64 (x y : Nat) (hx : x < 18446744073709551616) (hy : y < 18446744073709551616) (w : World) :
    Calls Tryz.prog 122 #[.int .u64 x, .int .u64 y] w fun e w' => e = .returned (.tuple #[.int .u64 ((x * y / 18446744073709551616 : Nat) : Int), .int .u64 ((x * y % 18446744073709551616 : Nat) : Int)]) ∧ w' = w := Any.bits_Mul64 Tryz.lays264 x y hx hy w
def Tryz.lays212_ren : Go.Shelf.Ren := ⟨fun | 212 => 102 | 263 => 121 | 264 => 122 | n => n, fun | 46 => 128 | 51 => 104 | 146 => 150 | 53 => 103 | 148 => 152 | n => n, fun | n => n⟩
theorem Tryz.lays212 : Go.Proofs.Lays.n212 Tryz.prog Tryz.lays212_ren := {
  mixed := by kernel_rfl
  f212 := Tryz.func102.trans (congrArg some (by kernel_rfl))
  f263 := Tryz.func121.trans (congrArg some (by kernel_rfl))
  f264 := Tryz.func122.trans (congrArg some (by kernel_rfl))
  t46 := Tryz.underlying128
  a46 := Tryz.isAgg128
  z46 := Tryz.sizeOf128
  v46 := Tryz.zeroValue128
  t51 := Tryz.underlying104
  a51 := Tryz.isAgg104
  z51 := Tryz.sizeOf104
  v51 := Tryz.zeroValue104
  t53 := Tryz.underlying103
  a53 := Tryz.isAgg103
  z53 := Tryz.sizeOf103
  v53 := Tryz.zeroValue103
  t146 := Tryz.underlying150
  a146 := Tryz.isAgg150
  z146 := Tryz.sizeOf150
  v146 := Tryz.zeroValue150
  t148 := Tryz.underlying152
  a148 := Tryz.isAgg152
  z148 := Tryz.sizeOf152
  v148 := Tryz.zeroValue152 }
open Go.RowKit Go.Lib in
theorem Tryz.bits_Mul (x y : Nat) (hx : x < 18446744073709551616) (hy : y < 18446744073709551616) (w : World) :
    Calls Tryz.prog 102 #[.int .u64 x, .int .u64 y] w fun e w' => e = .returned (.tuple #[.int .u64 ((x * y / 18446744073709551616 : Nat) : Int), .int .u64 ((x * y % 18446744073709551616 : Nat) : Int)]) ∧ w' = w := Any.bits_Mul Tryz.lays212 x y hx hy w
def Tryz.lays105_ren : Go.Shelf.Ren := ⟨fun | 105 => 82 | 212 => 102 | 99 => 59 | 165 => 103 | 166 => 104 | 170 => 105 | 169 => 106 | 263 => 121 | 264 => 122 | 206 => 87 | 240 => 123 | 241 => 124 | 276 => 141 | 277 => 142 | n => n, fun | 9 => 9 | 3 => 3 | 4 => 4 | 20 => 20 | 0 => 0 | 46 => 128 | 109 => 131 | 5 => 5 | 72 => 135 | 76 => 139 | 51 => 104 | 146 => 150 | 53 => 103 | 148 => 152 | 70 => 133 | 37 => 64 | 75 => 138 | 127 => 116 | 164 => 167 | 80 => 141 | n => n, fun | n => n⟩
theorem Tryz.lays105 : Go.Proofs.Lays.n105 Tryz.prog Tryz.lays105_ren := {
  mixed := by kernel_rfl
  f99 := Tryz.func59.trans (congrArg some (by kernel_rfl))
  f105 := Tryz.func82.trans (congrArg some (by kernel_rfl))
  f165 := Tryz.func103.trans (congrArg some (by kernel_rfl))
  f166 := Tryz.func104.trans (congrArg some (by kernel_rfl))
  f169 := Tryz.func106.trans (congrArg some (by kernel_rfl))
  f170 := Tryz.func105.trans (congrArg some (by kernel_rfl))
  f206 := Tryz.func87.trans (congrArg some (by kernel_rfl))
  f212 := Tryz.func102.trans (congrArg some (by kernel_rfl))
  f240 := Tryz.func123.trans (congrArg some (by kernel_rfl))
  f241 := Tryz.func124.trans (congrArg some (by kernel_rfl))
  f263 := Tryz.func121.trans (congrArg some (by kernel_rfl))
  f264 := Tryz.func122.trans (congrArg some (by kernel_rfl))
  f276 := Tryz.func141.trans (congrArg some (by kernel_rfl))
  f277 := Tryz.func142.trans (congrArg some (by kernel_rfl))
  t0 := Tryz.underlying0
  a0 := Tryz.isAgg0
  z0 := Tryz.sizeOf0
  v0 := Tryz.zeroValue0
  t3 := Tryz.underlying3
  a3 := Tryz.isAgg3
  z3 := Tryz.sizeOf3
  v3 := Tryz.zeroValue3
  t4 := Tryz.underlying4
  a4 := Tryz.isAgg4
  z4 := Tryz.sizeOf4
  v4 := Tryz.zeroValue4
  t5 := Tryz.underlying5
  a5 := Tryz.isAgg5
  z5 := Tryz.sizeOf5
  v5 := Tryz.zeroValue5
  t9 := Tryz.underlying9
  a9 := Tryz.isAgg9
  z9 := Tryz.sizeOf9
  v9 := Tryz.zeroValue9
  t20 := Tryz.underlying20
  a20 := Tryz.isAgg20
  z20 := Tryz.sizeOf20
  v20 := Tryz.zeroValue20
  t37 := Tryz.underlying64
  a37 := Tryz.isAgg64
  z37 := Tryz.sizeOf64
  v37 := Tryz.zeroValue64
  t46 := Tryz.underlying128
  a46 := Tryz.isAgg128
  z46 := Tryz.sizeOf128
  v46 := Tryz.zeroValue128
  t51 := Tryz.underlying104
  a51 := Tryz.isAgg104
  z51 := Tryz.sizeOf104
  v51 := Tryz.zeroValue104
  t53 := Tryz.underlying103
  a53 := Tryz.isAgg103
  z53 := Tryz.sizeOf103
  v53 := Tryz.zeroValue103
  t70 := Tryz.underlying133
  a70 := Tryz.isAgg133
  z70 := Tryz.sizeOf133
  v70 := Tryz.zeroValue133
  t72 := Tryz.underlying135
  a72 := Tryz.isAgg135
  z72 := Tryz.sizeOf135
  v72 := Tryz.zeroValue135
  t75 := Tryz.underlying138
  a75 := Tryz.isAgg138
  z75 := Tryz.sizeOf138
  v75 := Tryz.zeroValue138
  t76 := Tryz.underlying139
  a76 := Tryz.isAgg139
  z76 := Tryz.sizeOf139
  v76 := Tryz.zeroValue139
  t109 := Tryz.underlying131
  a109 := Tryz.isAgg131
  z109 := Tryz.sizeOf131
  v109 := Tryz.zeroValue131
  t127 := Tryz.underlying116
  a127 := Tryz.isAgg116
  z127 := Tryz.sizeOf116
  v127 := Tryz.zeroValue116
  t146 := Tryz.underlying150
  a146 := Tryz.isAgg150
  z146 := Tryz.sizeOf150
  v146 := Tryz.zeroValue150
  t148 := Tryz.underlying152
  a148 := Tryz.isAgg152
  z148 := Tryz.sizeOf152
  v148 := Tryz.zeroValue152
  t164 := Tryz.underlying167
  a164 := Tryz.isAgg167
  z164 := Tryz.sizeOf167
  v164 := Tryz.zeroValue167 }
theorem Tryz.Builder_Extra_105 : Builder.Extra Tryz.prog Tryz.lays105_ren := {
  sizeBuilder := by kernel_rfl
  liesBuilder := by kernel_rfl
  t5 := Tryz.underlying5
  a5 := Tryz.isAgg5
  z5 := Tryz.sizeOf5
  v5 := Tryz.zeroValue5
  infoByte := by kernel_rfl
  cellsByte := by kernel_rfl
  sizeByte := by kernel_rfl
  neB5 := by decide }
open Go.RowKit Go.Lib in
theorem Tryz.strings_Repeat_main (s : ByteArray) (c : Nat) (w : World) (hc2 : 2 ≤ c) (hc : c ≤ 9223372036854775807) (hlen : s.size * c ≤ 140737488355328) (h0 : 0 < s.size) :
    Calls Tryz.prog 82 #[.string s, .int .i64 c] w fun e w' => e = .returned (.string ⟨(Lib.repeatL s.data.toList c).toArray⟩) ∧ Below w.heap.size w w' := Any.strings_Repeat_main Tryz.lays105 Tryz.Builder_Extra_105 s c w hc2 hc hlen h0
open Go.RowKit Go.Lib in
theorem Tryz.strings_Repeat_zero (s : ByteArray) (w : World) :
    Calls Tryz.prog 82 #[.string s, .int .i64 0] w fun e w' => e = .returned (.string ⟨#[]⟩) ∧ w' = w := Any.strings_Repeat_zero Tryz.lays105 s w
open Go.RowKit Go.Lib in
theorem Tryz.strings_Repeat_one (s : ByteArray) (w : World) :
    Calls Tryz.prog 82 #[.string s, .int .i64 1] w fun e w' => e = .returned (.string s) ∧ w' = w := Any.strings_Repeat_one Tryz.lays105 s w
open Go.RowKit Go.Lib in
theorem Tryz.strings_Repeat_empty (s : ByteArray) (c : Nat) (w : World) (hc2 : 2 ≤ c) (hc : c ≤ 9223372036854775807) (h0 : s.size = 0) :
    Calls Tryz.prog 82 #[.string s, .int .i64 c] w fun e w' => e = .returned (.string ⟨#[]⟩) ∧ w' = w := Any.strings_Repeat_empty Tryz.lays105 s c w hc2 hc h0
open Go.RowKit Go.Lib in
theorem Tryz.strings_Repeat_negative (s : ByteArray) (c : Int) (w : World) (hc : c < 0) :
    Calls Tryz.prog 82 #[.string s, .int .i64 c] w fun e w' => e = .panicked [{ v := repeatPanic Tryz.lays105_ren "strings: negative Repeat count", recovered := false }] ∧ w' = w := Any.strings_Repeat_negative Tryz.lays105 s c w hc
open Go.RowKit Go.Lib in
theorem Tryz.strings_Repeat_overflow (s : ByteArray) (c : Nat) (w : World) (hc : c ≤ 9223372036854775807) (hs : s.size ≤ 9223372036854775807) (hbig : 9223372036854775807 < s.size * c) :
    Calls Tryz.prog 82 #[.string s, .int .i64 c] w fun e w' => e = .panicked [{ v := repeatPanic Tryz.lays105_ren "strings: Repeat output length overflow", recovered := false }] ∧ w' = w := Any.strings_Repeat_overflow Tryz.lays105 s c w hc hs hbig
open Go.RowKit Go.Lib in
theorem Tryz.strings_Repeat (s : ByteArray) (c : Nat) (w : World) (hc : c ≤ 9223372036854775807) (hlen : s.size * c ≤ 140737488355328) :
    Calls Tryz.prog 82 #[.string s, .int .i64 c] w fun e w' => e = .returned (.string ⟨(Lib.repeatL s.data.toList c).toArray⟩) ∧ Below w.heap.size w w' := Any.strings_Repeat Tryz.lays105 Tryz.Builder_Extra_105 s c w hc hlen
def Tryz.laysNm215_ren : Go.Shelf.Ren := ⟨fun | 15 => 52 | n => n, fun | 22 => 37 | 3 => 3 | 4 => 4 | n => n, fun | n => n⟩
theorem Tryz.laysNm215 : Go.Proofs.Lays2.n15 Tryz.prog Tryz.laysNm215_ren := {
  mixed := by kernel_rfl
  f15 := Tryz.func52.trans (congrArg some (by kernel_rfl))
  t3 := Tryz.underlying3
  a3 := Tryz.isAgg3
  z3 := Tryz.sizeOf3
  v3 := Tryz.zeroValue3
  t4 := Tryz.underlying4
  a4 := Tryz.isAgg4
  z4 := Tryz.sizeOf4
  v4 := Tryz.zeroValue4
  t22 := Tryz.underlying37
  a22 := Tryz.isAgg37
  z22 := Tryz.sizeOf37
  v22 := Tryz.zeroValue37
  i3 := by kernel_rfl }
open Go.RowKit Go.Lib in
theorem Tryz.slices_Clone_int (b off n c : Nat) (zs : List Int) (w : World) (hz : n ≤ zs.length) (hbig : n * 8 ≤ 140737488355328) (hc : ∀ j, j < zs.length → w.cell? ⟨b, off + j, none⟩ = some (.int .i64 (zs.getD j 0))) :
    Calls Tryz.prog 52 #[.slice (some ⟨b, off, none⟩) n c] w fun e w' => ∃ v', e = .returned v' ∧ w'.ownsRow w.heap.size 3 1 v' n ((zs.take n).map (Value.int .i64)) ∧ v' ≠ .slice none 0 0 ∧ Below w.heap.size w w' := Any.slices_Clone_int Tryz.laysNm215 b off n c zs w hz hbig hc
open Go.RowKit Go.Lib in
theorem Tryz.slices_Clone_int_nil (n c : Nat) (w : World) :
    Calls Tryz.prog 52 #[.slice none n c] w fun e w' => e = .returned (.slice none 0 0) ∧ w' = w := Any.slices_Clone_int_nil Tryz.laysNm215 n c w
def Tryz.laysNm216_ren : Go.Shelf.Ren := ⟨fun | 16 => 56 | n => n, fun | 24 => 22 | 9 => 9 | 4 => 4 | n => n, fun | n => n⟩
theorem Tryz.laysNm216 : Go.Proofs.Lays2.n16 Tryz.prog Tryz.laysNm216_ren := {
  mixed := by kernel_rfl
  f16 := Tryz.func56.trans (congrArg some (by kernel_rfl))
  t4 := Tryz.underlying4
  a4 := Tryz.isAgg4
  z4 := Tryz.sizeOf4
  v4 := Tryz.zeroValue4
  t9 := Tryz.underlying9
  a9 := Tryz.isAgg9
  z9 := Tryz.sizeOf9
  v9 := Tryz.zeroValue9
  t24 := Tryz.underlying22
  a24 := Tryz.isAgg22
  z24 := Tryz.sizeOf22
  v24 := Tryz.zeroValue22
  i9 := by kernel_rfl }
open Go.RowKit Go.Lib in
theorem Tryz.slices_Clone_string (b off n c : Nat) (zs : List ByteArray) (w : World) (hz : n ≤ zs.length) (hbig : n * 16 ≤ 140737488355328) (hc : ∀ j, j < zs.length → w.cell? ⟨b, off + j, none⟩ = some (.string (zs.getD j ByteArray.empty))) :
    Calls Tryz.prog 56 #[.slice (some ⟨b, off, none⟩) n c] w fun e w' => ∃ v', e = .returned v' ∧ w'.ownsRow w.heap.size 9 1 v' n ((zs.take n).map (Value.string)) ∧ v' ≠ .slice none 0 0 ∧ Below w.heap.size w w' := Any.slices_Clone_string Tryz.laysNm216 b off n c zs w hz hbig hc
open Go.RowKit Go.Lib in
theorem Tryz.slices_Clone_string_nil (n c : Nat) (w : World) :
    Calls Tryz.prog 56 #[.slice none n c] w fun e w' => e = .returned (.slice none 0 0) ∧ w' = w := Any.slices_Clone_string_nil Tryz.laysNm216 n c w
open Go.RowKit Go.Lib in
theorem Tryz.slices_Clone_int_zero (a : Addr) (c : Nat) (w : World) :
    Calls Tryz.prog 52 #[.slice (some a) 0 c] w fun e w' => ∃ v', e = .returned v' ∧ w'.ownsRow w.heap.size 3 1 v' 0 [] ∧ v' ≠ .slice none 0 0 ∧ Below w.heap.size w w' := Any.slices_Clone_int_zero Tryz.laysNm215 a c w
open Go.RowKit Go.Lib in
theorem Tryz.slices_Clone_string_zero (a : Addr) (c : Nat) (w : World) :
    Calls Tryz.prog 56 #[.slice (some a) 0 c] w fun e w' => ∃ v', e = .returned v' ∧ w'.ownsRow w.heap.size 9 1 v' 0 [] ∧ v' ≠ .slice none 0 0 ∧ Below w.heap.size w w' := Any.slices_Clone_string_zero Tryz.laysNm216 a c w
open Go.RowKit Go.Sort in
theorem Tryz.slices_Sort_string_none (p : Option Addr) (cap : Nat) (w : World) :
    Calls Tryz.prog 99 #[.slice p 0 cap] w fun e w' => e = .returned (.tuple #[]) ∧ w' = w := Any.slices_Sort_string_none Tryz.lays190 p cap w
def Tryz.laysSlH6_f86_ren : Go.Shelf.Ren := ⟨fun | 6 => 86 | n => n, fun | 22 => 22 | 23 => 9 | 25 => 89 | 3 => 3 | 0 => 0 | 4 => 4 | n => n, fun | n => n⟩
theorem Tryz.laysSlH6_f86 : Go.Proofs.SlLaysH.n6 Tryz.prog Tryz.laysSlH6_f86_ren := {
  mixed := by kernel_rfl
  f6 := ⟨Tryz.f86.name, by decide, Tryz.func86.trans (congrArg some (by kernel_rfl))⟩
  t0 := Tryz.underlying0
  a0 := Tryz.isAgg0
  z0 := Tryz.sizeOf0
  v0 := Tryz.zeroValue0
  t3 := Tryz.underlying3
  a3 := Tryz.isAgg3
  z3 := Tryz.sizeOf3
  v3 := Tryz.zeroValue3
  t4 := Tryz.underlying4
  a4 := Tryz.isAgg4
  z4 := Tryz.sizeOf4
  v4 := Tryz.zeroValue4
  t22 := Tryz.underlying22
  a22 := Tryz.isAgg22
  z22 := Tryz.sizeOf22
  v22 := Tryz.zeroValue22
  a23 := Tryz.isAgg9
  z23 := Tryz.sizeOf9
  t25 := Tryz.underlying89
  a25 := Tryz.isAgg89
  z25 := Tryz.sizeOf89
  v25 := Tryz.zeroValue89 }
open Go.RowKit Go.Lib in
theorem Tryz.slices_IndexFunc {α : Type} [Inhabited α] (enc : α → Value) (p : α → Bool) (g : Nat) (lb : Array Value) (eg : ∀ args w, (callFunc g args).run Tryz.prog w = .ok (.enter g args) w) (b off n c : Nat) (zs : List α) (w : World) (hp : PredAt Tryz.prog g lb enc p w) (hz : n ≤ zs.length) (hbig : n ≤ 9223372036854775807) (hc : ∀ j, j < zs.length → w.cell? ⟨b, off + j, none⟩ = some (enc zs[j]!)) :
    Calls Tryz.prog 86 #[.slice (some ⟨b, off, none⟩) n c, .func (.func g) #[] lb] w fun e w' => e = .returned (.int .i64 (Lib.idxBy (fun _ y => p y) (zs.take n) default)) ∧ ∃ q, w' = w.drewN q := AnyE.slices_IndexFunc Tryz.laysSlH6_f86 enc p g lb eg b off n c zs w hp hz hbig hc
open Go.RowKit Go.Lib in
theorem Tryz.slices_IndexFunc_empty {α : Type} [Inhabited α] (a : Option Addr) (c : Nat) (fv : Value) (w : World) :
    Calls Tryz.prog 86 #[.slice a 0 c, fv] w fun e w' => e = .returned (.int .i64 (-1)) ∧ w' = w := AnyE.slices_IndexFunc_empty Tryz.laysSlH6_f86 a c fv w
def Tryz.laysSlH10_f57_ren : Go.Shelf.Ren := ⟨fun | 10 => 57 | 6 => 86 | n => n, fun | 22 => 22 | 23 => 9 | 25 => 89 | 3 => 3 | 4 => 4 | 0 => 0 | n => n, fun | n => n⟩
theorem Tryz.laysSlH10_f57 : Go.Proofs.SlLaysH.n10 Tryz.prog Tryz.laysSlH10_f57_ren := {
  mixed := by kernel_rfl
  f6 := ⟨Tryz.f86.name, by decide, Tryz.func86.trans (congrArg some (by kernel_rfl))⟩
  f10 := ⟨Tryz.f57.name, by decide, Tryz.func57.trans (congrArg some (by kernel_rfl))⟩
  t0 := Tryz.underlying0
  a0 := Tryz.isAgg0
  z0 := Tryz.sizeOf0
  v0 := Tryz.zeroValue0
  t3 := Tryz.underlying3
  a3 := Tryz.isAgg3
  z3 := Tryz.sizeOf3
  v3 := Tryz.zeroValue3
  t4 := Tryz.underlying4
  a4 := Tryz.isAgg4
  z4 := Tryz.sizeOf4
  v4 := Tryz.zeroValue4
  t22 := Tryz.underlying22
  a22 := Tryz.isAgg22
  z22 := Tryz.sizeOf22
  v22 := Tryz.zeroValue22
  a23 := Tryz.isAgg9
  z23 := Tryz.sizeOf9
  t25 := Tryz.underlying89
  a25 := Tryz.isAgg89
  z25 := Tryz.sizeOf89
  v25 := Tryz.zeroValue89 }
open Go.RowKit Go.Lib Go.Sort in
theorem Tryz.slices_DeleteFunc {α : Type} [Inhabited α] (enc : α → Value) (hO : OneCell enc) (p : α → Bool) (g : Nat) (lb : Array Value) (eg : ∀ args w, (callFunc g args).run Tryz.prog w = .ok (.enter g args) w) (zr : α) (v23 : ∀ w, (zeroValue 9).run Tryz.prog w = .ok (enc zr) w) (blk off cap : Nat) (d : Array α) (w : World) (hp : PredAt Tryz.prog g lb enc p w) (hpo : PredOver Tryz.prog g lb enc p blk off d.size w) (hH : Holds enc w blk off d) (hsz : d.size ≤ 9223372036854775807) (hcap : d.size ≤ cap) :
    Calls Tryz.prog 57 #[.slice (some ⟨blk, off, none⟩) d.size cap, .func (.func g) #[] lb] w fun e w' => e = .returned (.slice (some ⟨blk, off, none⟩) (d.toList.filter fun x => !p x).length cap) ∧ ∃ q, w' = putRow enc (Sort.ahead w q) blk off ((d.toList.filter fun x => !p x) ++ List.replicate (d.size - (d.toList.filter fun x => !p x).length) zr).toArray := AnyE.slices_DeleteFunc Tryz.laysSlH10_f57 enc hO p g lb eg zr v23 blk off cap d w hp hpo hH hsz hcap
open Go.RowKit Go.Maps Go.Sort Go.Shelf


theorem Tryz.sorts79 (m : Nat) : AnyZ.SortsIn Tryz.prog Tryz.sorted79_ren Fence.wide m :=
  ⟨fun blk off cap ss W hH hblk hsz => callsIn_wide.2 (AnyM.slices_Sort_string Tryz.sort99 blk off cap ss W hH hblk hsz),
   fun p cap W => callsIn_wide.2 (AnyM.slices_Sort_string_none Tryz.sort99 p cap W)⟩

theorem Tryz.maps_Keys_80 (mb : Option Nat) (W : World) : CallsIn Fence.wide 5 Tryz.prog 80 #[.map mb] W fun e w' => e = .returned (.func (.func 100) #[] #[.pointer (some ⟨W.heap.size, 0, none⟩)]) ∧ w' = W.alloc (.cells #[.map mb] 55) :=
  AnyZ.keys_in Tryz.keys80 Fence.wide 5 trivial rfl mb W

set_option maxHeartbeats 1000000 in
theorem Tryz.slices_Sorted_keys_79_80 {H : Type} (b nn : Nat) (D0 : DataW H) (R : Value → Option (DataW H × List MemPlace)) (w : World) (hown : w.ownsMap Tryz.prog 9 R b nn D0) (hmax : Maps.size D0 ≤ maxLen) (hbytes : Maps.size D0 * 16 ≤ 140737488355328) :
    CallsIn Fence.wide 5 Tryz.prog 79 #[.func (.func 100) #[] #[.pointer (some ⟨w.heap.size, 0, none⟩)]] (w.alloc (.cells #[.map (some b)] 55)) fun e w' => ∃ (v : Value) (ss : List (List UInt8)), e = .returned v ∧ ss.Perm (strKeys D0) ∧
      w'.ownsRow (w.alloc (.cells #[.map (some b)] 55)).heap.size 9 1 v ss.length ((ss.mergeSort (fun x y => decide (x ≤ y))).map encStr) ∧ (v = .slice none 0 0 ↔ ss = []) ∧ Below (w.alloc (.cells #[.map (some b)] 55)).heap.size (w.alloc (.cells #[.map (some b)] 55)) w' := by
  have hbl := hown.lt
  have hseq : SeqGives Fence.wide 2 Tryz.prog 100 #[.pointer (some ⟨w.heap.size, 0, none⟩)] encStr (fun ss => ss.Perm (strKeys D0)) (Maps.size D0) (w.alloc (.cells #[.map (some b)] 55)) :=
    AnyZ.keys_gives (ρ := Tryz.keys80_ren) { Tryz.keys80 with } Fence.wide _ trivial rfl (by omega) w.heap.size b nn D0 _ (by simp) (by simp) (by
      obtain ⟨es, clock, hb, Ft, hs, hD⟩ := hown
      exact ⟨es, clock, (Below.heap_alloc _ _ b hbl).trans hb, Ft, hs, hD⟩)
  exact AnyZ.sorted_in Tryz.sorted79 Fence.wide 5 trivial trivial trivial trivial rfl (by omega) (Tryz.sorts79 _) (enters_of Tryz.func99 (by kernel_rfl) rfl) 100 #[.pointer (some ⟨w.heap.size, 0, none⟩)] trivial (enters_of Tryz.func100 (by kernel_rfl) rfl) _ _ hmax hbytes _ hseq

set_option maxHeartbeats 1000000 in
theorem Tryz.slices_Sorted_keys_nil_79_80 (w : World) :
    CallsIn Fence.wide 5 Tryz.prog 79 #[.func (.func 100) #[] #[.pointer (some ⟨w.heap.size, 0, none⟩)]] (w.alloc (.cells #[.map none] 55)) fun e w' => ∃ (v : Value) (ss : List (List UInt8)), e = .returned v ∧ ss = [] ∧
      w'.ownsRow (w.alloc (.cells #[.map none] 55)).heap.size 9 1 v ss.length ((ss.mergeSort (fun x y => decide (x ≤ y))).map encStr) ∧ (v = .slice none 0 0 ↔ ss = []) ∧ Below (w.alloc (.cells #[.map none] 55)).heap.size (w.alloc (.cells #[.map none] 55)) w' := by
  have hseq : SeqGives Fence.wide 2 Tryz.prog 100 #[.pointer (some ⟨w.heap.size, 0, none⟩)] encStr (fun ss : List (List UInt8) => ss = []) 0 (w.alloc (.cells #[.map none] 55)) :=
    AnyZ.keys_gives_nil (ρ := Tryz.keys80_ren) { Tryz.keys80 with } Fence.wide _ trivial rfl w.heap.size _ (by simp) (by simp)
  exact AnyZ.sorted_in Tryz.sorted79 Fence.wide 5 trivial trivial trivial trivial rfl (by omega) (Tryz.sorts79 _) (enters_of Tryz.func99 (by kernel_rfl) rfl) 100 #[.pointer (some ⟨w.heap.size, 0, none⟩)] trivial (enters_of Tryz.func100 (by kernel_rfl) rfl) _ 0 (Nat.zero_le _) (by omega) _ hseq



end Go.Proofs
/- Contracts of the small methods of simdisk: On, goes, Clone, Arm, may, Room, Restore. -/
namespace Go.Proofs.YtfjkjndpndjfpaaGreatDoor
open Go.RowKit

/-! ## slices that are only read -/
section
variable {w w' : World} {size n : Nat} {v : Value} {cs : List Value}
end

/-! ## the disk in memory -/
def DS.cells (d : DS) (mb : Nat) (kv : Value) : Array Value := #[.bool d.on, .int .i64 d.room, .map (some mb), .bool d.armed, .int .i64 d.left, kv]
/-- The disk d lies in block db, its files in the map mb. -/
structure DiskAt (w : World) (db mb : Nat) (d : DS) (kv : Value) : Prop where
  blk : Blk w db 57 (d.cells mb kv)
  map : MapIs Value.string w mb (d.fs.map fun p => (p.1, p.2.val))
  slc : Slc w 1 kv d.keep.length (ints d.keep)
  apart : ∀ g, kv.ownBlock = some g → g ≠ db ∧ g ≠ mb
  left : -9223372036854775808 ≤ d.left ∧ d.left ≤ 9223372036854775807
  room : -9223372036854775808 ≤ d.room ∧ d.room ≤ 9223372036854775807
  old : ∀ g, kv.ownBlock = some g → g < w.heap.size

theorem DiskAt.only {w w' : World} {db mb : Nat} {d : DS} {kv : Value} {S : List Nat} (h : DiskAt w db mb d kv) (k : Only S w w') (hd : db ∉ S) (hm : mb ∉ S) (hk : ∀ g, kv.ownBlock = some g → g ∉ S) : DiskAt w' db mb d kv :=
  ⟨k.blk h.blk hd, h.map.only k hm, h.slc.only k hk, h.apart, h.left, h.room, fun g hg => Nat.lt_of_lt_of_le (h.old g hg) k.size⟩
theorem DiskAt.ne {w : World} {db mb : Nat} {d : DS} {kv : Value} (h : DiskAt w db mb d kv) : mb ≠ db := h.map.ne_blk h.blk

/-! ## On -/
theorem on_any {w : World} {db mb : Nat} {d : DS} {kv : Value} (h : DiskAt w db mb d kv) :
    Calls Tryz.prog 26 #[.pointer (some ⟨db, 0, none⟩)] w fun e w' => e = .returned (.bool d.on) ∧ w = w' := by
  have c0 : w.cell? ⟨db, 0, none⟩ = some (.bool d.on) := h.blk.cell 0
  go_enter Tryz.func26, Tryz.ntmps26
  go_wp2
  go_ret
  exact ⟨rfl, rfl⟩
theorem on_nil (w : World) : Calls Tryz.prog 26 #[.pointer none] w fun e w' => e = .returned (.bool false) ∧ w = w' := by
  go_enter Tryz.func26, Tryz.ntmps26
  go_wp2
  go_ret
  exact ⟨rfl, rfl⟩

/-! ## goes -/
theorem goes_any {w : World} {db mb : Nat} {d : DS} {kv : Value} (h : DiskAt w db mb d kv) (hl : d.armed = true → 0 ≤ d.left) :
    Calls Tryz.prog 97 #[.pointer (some ⟨db, 0, none⟩)] w fun e w' => e = .returned (.bool d.goes) ∧ DiskAt w' db mb d.tick kv ∧ Only [db] w w' := by
  have c3 : w.cell? ⟨db, 3, none⟩ = some (.bool d.armed) := h.blk.cell 3
  have c4 : w.cell? ⟨db, 4, none⟩ = some (.int .i64 d.left) := h.blk.cell 4
  have f4 : w.frozen? ⟨db, 4, none⟩ = false := h.blk.free 4
  obtain ⟨b1, b2⟩ := h.left
  by_cases ha : d.armed = true
  · have hl0 := hl ha
    rw [ha] at c3
    have hg : d.goes = decide (d.left - 1 < 0) := by simp only [DS.goes, ha, Bool.true_and, decide_eq_decide]; omega
    have ht : d.tick = { d with left := d.left - 1 } := by simp [DS.tick, ha]
    have hfin : DiskAt (w.setCell ⟨db, 4, none⟩ (.int .i64 (d.left - 1))) db mb d.tick kv ∧ Only [db] w (w.setCell ⟨db, 4, none⟩ (.int .i64 (d.left - 1))) := by
      have ho : Only [db] w (w.setCell ⟨db, 4, none⟩ (.int .i64 (d.left - 1))) := (Only.refl _ w).setCell (.inl (by simp)) _
      refine ⟨⟨?_, ?_, ?_, ?_, ?_, ?_, fun g hg => Nat.lt_of_lt_of_le (h.old g hg) ho.size⟩, ho⟩
      · rw [ht]; exact h.blk.set 4 _
      · rw [ht]; exact h.map.only ho (by simp; exact h.ne)
      · rw [ht]; exact h.slc.only ho (fun g hg => by have := h.apart g hg; simp [this.1])
      · exact h.apart
      · rw [ht]; exact ⟨by show _ ≤ d.left - 1; omega, by show d.left - 1 ≤ _; omega⟩
      · rw [ht]; exact h.room
    have HG := Lib.hid hg
    clear hg ht ha
    go_enter Tryz.func97, Tryz.ntmps97
    go_wp2
    all_goals
      go_ret
      refine ⟨?_, hfin⟩
      rw [HG.out]
      rfl
  · have ha' : d.armed = false := by simpa using ha
    rw [ha'] at c3
    have hg : d.goes = false := by simp [DS.goes, ha']
    have ht : d.tick = d := by simp [DS.tick, ha']
    rw [ht, hg]
    clear hg ht ha ha'
    go_enter Tryz.func97, Tryz.ntmps97
    go_wp2
    go_ret
    exact ⟨rfl, h, Only.refl _ _⟩
end Go.Proofs.YtfjkjndpndjfpaaGreatDoor
/- Contracts: slices.Clone at ints, Arm, may, strings.Clone. -/
namespace Go.Proofs.YtfjkjndpndjfpaaGreatDoor
open Go.RowKit

theorem cloneInts_any {w : World} {v : Value} {n : Nat} {zs : List Int} (h : Slc w 1 v n (ints zs)) (hb : n * 8 ≤ 140737488355328) :
    Calls Tryz.prog 52 #[v] w fun e w' => ∃ v', e = .returned v' ∧ Slc w' 1 v' n (ints zs) ∧ (∀ g, v'.ownBlock = some g → w.heap.size ≤ g ∧ g < w'.heap.size) ∧ Only [] w w' := by
  obtain ⟨A, cap, rfl, hnc, hcm, hl, hc⟩ := h.cell
  have hzl : zs.length = n := by simpa [ints] using hl
  cases A with
  | none =>
    have hn : n = 0 := by
      rcases hc with h0 | ⟨b, off, h0, _⟩
      · exact h0
      · cases h0
    subst hn
    have hz : zs = [] := List.eq_nil_of_length_eq_zero hzl
    subst hz
    refine (Tryz.slices_Clone_int_nil 0 cap w).mono fun e w' ⟨he, hw⟩ => ?_
    subst hw
    exact ⟨_, he, Slc.nil _ _, by simp [Value.ownBlock], Only.refl _ _⟩
  | some a =>
    rcases hc with h0 | ⟨b, off, h0, hlt, hcell⟩
    · subst h0
      have hz : zs = [] := List.eq_nil_of_length_eq_zero hzl
      subst hz
      refine (Tryz.slices_Clone_int_zero a cap w).mono fun e w' ⟨v', he, hown, _, hbel⟩ => ?_
      obtain ⟨q1, q2⟩ := Slc.of_own hown
      exact ⟨v', he, q1, q2, Only.of_below hbel (Nat.le_refl _)⟩
    · cases h0
      refine (Tryz.slices_Clone_int b off n cap zs w (by omega) hb ?_).mono fun e w' ⟨v', he, hown, _, hbel⟩ => ?_
      · intro j hj
        rw [hcell j (by simpa [ints] using hj)]
        simp [ints, hj]
      · rw [← hzl, List.take_length] at hown
        rw [← hzl]
        obtain ⟨q1, q2⟩ := Slc.of_own hown
        exact ⟨v', he, q1, q2, Only.of_below hbel (Nat.le_refl _)⟩

theorem arm_any {w : World} {db mb : Nat} {d : DS} {kv : Value} (h : DiskAt w db mb d kv) {n : Int} (hn : -9223372036854775808 ≤ n ∧ n ≤ 9223372036854775807) {v : Value} {zs : List Int} (hs : Slc w 1 v zs.length (ints zs)) (hb : zs.length * 8 ≤ 140737488355328) :
    Calls Tryz.prog 24 #[.pointer (some ⟨db, 0, none⟩), .int .i64 n, v] w fun e w' => e = .returned (.tuple #[]) ∧ ∃ kv', DiskAt w' db mb (d.arm n zs) kv' ∧ (∀ g, kv'.ownBlock = some g → w.heap.size ≤ g) ∧ Only [db] w w' := by
  go_enter Tryz.func24, Tryz.ntmps24
  go_wp2_with (go_at_call 52; refine (cloneInts_any hs hb).mono ?_; rintro e w1 ⟨v', rfl, hs1, hf1, ho1⟩; have h1 := h.blk.of_eq (ho1.block db h.blk.lt (by simp)); have c3 : w1.cell? ⟨db, 3, none⟩ = some (.bool d.armed) := h1.cell 3; have c4 : w1.cell? ⟨db, 4, none⟩ = some (.int .i64 d.left) := h1.cell 4; have c5 : w1.cell? ⟨db, 5, none⟩ = some kv := h1.cell 5; have f3 := h1.free 3; have f4 := h1.free 4; have f5 := h1.free 5; obtain ⟨A, cap, hv', _⟩ := hs1.cell; rw [hv'])
  go_end0
  have hl := h.blk.lt
  have hml := h.map.lt
  refine ⟨rfl, v', ⟨?_, ?_, ?_, ?_, hn, h.room, fun g hg => by have := (hf1 g hg).2; simpa [World.setCell] using this⟩, fun g hg => (hf1 g hg).1, ?_⟩
  · rw [hv']
    exact ((h1.set 3 _).set 4 _).set 5 _
  · exact h.map.only ((((ho1.of_nil (S := [db])).setCell (.inl (by simp)) _).setCell (.inl (by simp)) _).setCell (.inl (by simp)) _) (by simp; exact h.ne)
  · refine hs1.only ((((Only.refl [db] w1).setCell (.inl (by simp)) _).setCell (.inl (by simp)) _).setCell (.inl (by simp)) _) ?_
    intro g hg
    have := hf1 g hg
    simp
    omega
  · intro g hg
    have := hf1 g hg
    omega
  · exact (((ho1.of_nil (S := [db])).setCell (.inl (by simp)) _).setCell (.inl (by simp)) _).setCell (.inl (by simp)) _
theorem arm_nil {w : World} (n : Int) (v : Value) :
    Calls Tryz.prog 24 #[.pointer none, .int .i64 n, v] w fun e w' => e = .returned (.tuple #[]) ∧ w = w' := by
  go_enter Tryz.func24, Tryz.ntmps24
  go_wp2
  go_end0
  exact ⟨rfl, rfl⟩

theorem strClone_any (s : ByteArray) (w : World) (hlim : s.size ≤ 281474976710656) :
    Calls Tryz.prog 32 #[.string s] w fun e w' => e = .returned (.string s) ∧ Only [] w w' := by
  go_enter Tryz.func32, Tryz.ntmps32
  go_wp2_with (go_at_call 60; refine (Tryz.stringslite_Clone s _ hlim).mono ?_; rintro e w' ⟨rfl, hb⟩)
  go_ret
  exact ⟨rfl, Only.of_below hb (Nat.le_refl _)⟩
end Go.Proofs.YtfjkjndpndjfpaaGreatDoor
/- Contracts: numbers are read from bytes (codec.In). -/
set_option linter.unusedVariables false
set_option linter.unusedSimpArgs false
namespace Go.Proofs.YtfjkjndpndjfpaaGreatDoor
open Go Go.RowKit Go.Sort
/-- An In in memory that is new since a: the bytes that are left, its error. -/
structure InAt (a w : World) (ib : Nat) (b : ByteArray) (e : Int) : Prop where
  only : Only [] a w
  ab : a.heap.size ≤ ib
  blk : Blk w ib 125 #[.string b, .int .i64 e]
theorem InAt.keep {a w w' : World} {ib : Nat} {b : ByteArray} {e : Int} (h : InAt a w ib b e) (k : Only [] w w') : InAt a w' ib b e := ⟨h.only.trans k, h.ab, k.blk h.blk (by simp)⟩
set_option maxRecDepth 100000 in
theorem inew_any {a w : World} (ha : Only [] a w) (b : ByteArray) (hb : b.size ≤ 1000000000) :
    Calls Tryz.prog 66 #[.string b] w fun e w' => ∃ ib, e = .returned (.pointer (some ⟨ib, 0, none⟩)) ∧ InAt a w' ib b 0 := by
  have HC := Lib.hid (fun W => strClone_any b W (by omega))
  go_enter Tryz.func66, Tryz.ntmps66
  go_wp2_with (go_at_call 32; refine (HC.out _).mono ?_; rintro e1 w1 ⟨rfl, ho1⟩)
  go_ret
  exact ⟨_, rfl, ⟨(ha.trans ho1).alloc _, (ha.trans ho1).size, Blk.new _ _ _⟩⟩
set_option maxRecDepth 100000 in
theorem itake_any {a w : World} {ib : Nat} {b : ByteArray} (h : InAt a w ib b 0) (n : Nat) (hn : n ≤ b.size) (hb : b.size ≤ 1000000000) :
    Calls Tryz.prog 115 #[.pointer (some ⟨ib, 0, none⟩), .int .i64 n] w fun e w' => e = .returned (.string (b.extract 0 n)) ∧ InAt a w' ib (b.extract n b.size) 0 := by
  have c0 := h.blk.cell 0
  have c1 := h.blk.cell 1
  have f0 := h.blk.free 0
  have hset := h.blk.set 0 (.string (b.extract n b.size))
  have hd : decide ((n : Int) > (b.size : Int)) = false := decide_eq_false (by omega)
  have hnew : InAt a (w.setCell ⟨ib, 0, none⟩ (.string (b.extract n b.size))) ib (b.extract n b.size) 0 := ⟨h.only.setCell (.inr h.ab) _, h.ab, hset⟩
  have HN := Lib.hid hnew
  clear hset hnew h
  go_enter Tryz.func115, Tryz.ntmps115
  go_wp2
  go_ret
  exact ⟨rfl, HN.out⟩
theorem ofBe_snoc (l : List UInt8) (c : UInt8) : ofBe (l ++ [c]) = ofBe l * 256 + c.toNat := by
  unfold ofBe
  rw [List.foldl_append]
  rfl
set_option maxRecDepth 100000 in
set_option maxHeartbeats 1000000 in
theorem low_any {w : World} (s : ByteArray) (hs : s.size ≤ 8) : Calls Tryz.prog 114 #[.string s] w fun e w' => e = .returned (.int .u64 (ofBe s.data.toList : Int)) ∧ Only [] w w' := by
  have hcv := Lib.run_convert_string_bytes (P := Tryz.prog) w 9 64 5 s Tryz.underlying9 Tryz.underlying64 Tryz.underlying5
  have hO : Only [] w (Lib.bytesWorld w 5 s) := ⟨rfl, rfl, rfl, by rw [Lib.bytesWorld_size]; omega, fun i hi _ => Lib.bytesWorld_at_old w 5 s i hi⟩
  have hcell := Lib.bytesWorld_cell w 5 s
  obtain ⟨W, hW⟩ : ∃ W, Lib.bytesWorld w 5 s = W := ⟨_, rfl⟩
  obtain ⟨cap, hcap⟩ : ∃ cap, grownCap w s.size 0 5 = cap := ⟨_, rfl⟩
  rw [hW, hcap] at hcv
  rw [hW] at hO hcell
  clear hW hcap
  have hl : s.data.toList.length = s.size := by simp
  go_enter Tryz.func114, Tryz.ntmps114
  go_wp2
  go_loopw [3, 9] (fun v i wr => ∃ k : Nat, k ≤ s.size ∧ i = .int .i64 k ∧ v = .int .u64 (ofBe (s.data.toList.take k) : Int) ∧ Only [] W wr) (fun _ i _ => s.size - (intOf i).toNat)
  case atStart => exact ⟨0, Nat.zero_le _, rfl, rfl, Only.refl _ _⟩
  case round =>
    obtain ⟨k, hk, rfl, rfl, hOk⟩ := hrel
    by_cases hlt : k < s.size
    · have hd : decide ((k : Int) < (s.size : Int)) = true := decide_eq_true (by omega)
      have hc0 := hcell k hlt
      obtain ⟨c, hc⟩ : ∃ c, s.data.toList.getD k 0 = c := ⟨_, rfl⟩
      rw [hc] at hc0
      have hcb : c.toNat < 256 := c.toNat_lt
      have hnx : ofBe (s.data.toList.take (k + 1)) = ofBe (s.data.toList.take k) * 256 + c.toNat := by
        rw [List.take_succ_eq_append_getElem (by omega), ofBe_snoc]
        congr 2
        rw [← hc]
        simp [List.getD, hlt]
      have hbd := ofBe_lt (s.data.toList.take k)
      rw [List.length_take, hl] at hbd
      have hbd2 : ofBe (s.data.toList.take k) < 72057594037927936 := Nat.lt_of_lt_of_le hbd (Nat.le_trans (Nat.pow_le_pow_right (by decide) (by omega : min k s.size ≤ 7)) (by decide))
      obtain ⟨v, hv⟩ : ∃ v, ofBe (s.data.toList.take k) = v := ⟨_, rfl⟩
      rw [hv] at hnx hbd2 ⊢
      have hor := u64_or hbd2 hcb
      have hblk : w.heap.size < W.heap.size := block_lt_of_cell hc0
      have c0 := (hOk.cell (p := ⟨w.heap.size, k, none⟩) hblk (by simp)).trans hc0
      have e1 : IntKind.u64.wrap ((v : Int) * 256) = (v : Int) * 256 := by rw [IntKind.wrap_u64]; omega
      have HN := Lib.hid hnx
      clear hnx hc hv hbd hc0 hcell
      go_wp2
      exact ⟨⟨k + 1, by omega, by simp, by rw [HN.out]; simp, hOk⟩, by simp [intOf]; omega⟩
    · have hd : decide ((k : Int) < (s.size : Int)) = false := decide_eq_false (by omega)
      rw [List.take_of_length_le (by omega)]
      clear hcell
      go_wp2
      go_ret
      exact ⟨rfl, hO.trans hOk⟩
theorem ext_list (b : ByteArray) (n : Nat) : (b.extract 0 n).data.toList = b.data.toList.take n := by simp
theorem ext_size (b : ByteArray) {n : Nat} (h : n ≤ b.size) : (b.extract 0 n).size = n := by
  have e : (b.extract 0 n).size = (b.extract 0 n).data.toList.length := by simp
  rw [e, ext_list, List.length_take]
  have : b.data.toList.length = b.size := by simp
  omega
theorem i64_wrap {n : Nat} (h : n < 18446744073709551616) : IntKind.i64.wrap (n : Int) = i64of n := by
  rw [IntKind.wrap_i64]
  unfold i64of
  split <;> omega
set_option maxRecDepth 100000 in
theorem iu32_any {a w : World} {ib : Nat} {b : ByteArray} (h : InAt a w ib b 0) (hn : 4 ≤ b.size) (hb : b.size ≤ 1000000000) :
    Calls Tryz.prog 143 #[.pointer (some ⟨ib, 0, none⟩)] w fun e w' => e = .returned (.int .i64 (ofBe (b.data.toList.take 4) : Int)) ∧ InAt a w' ib (b.extract 4 b.size) 0 := by
  have ht : Calls Tryz.prog 115 #[.pointer (some ⟨ib, 0, none⟩), .int .i64 4] w fun e w' => e = .returned (.string (b.extract 0 4)) ∧ InAt a w' ib (b.extract 4 b.size) 0 := itake_any h 4 hn hb
  have hl := fun W => low_any (w := W) (b.extract 0 4) (by rw [ext_size b hn]; omega)
  rw [ext_list] at hl
  have hbd := ofBe_lt (b.data.toList.take 4)
  have hlen : (b.data.toList.take 4).length = 4 := by rw [List.length_take]; have : b.data.toList.length = b.size := by simp
                                                      omega
  rw [hlen] at hbd
  obtain ⟨x, hx⟩ : ∃ x, ofBe (b.data.toList.take 4) = x := ⟨_, rfl⟩
  obtain ⟨y, hy⟩ : ∃ y, b.extract 0 4 = y := ⟨_, rfl⟩
  rw [hx] at hl hbd ⊢
  rw [hy] at ht hl
  have hbd : x < 4294967296 := hbd
  have e1 := IntWalk.i64_in (x : Int) ⟨by omega, by omega⟩
  have HT := Lib.hid ht
  have HL := Lib.hid hl
  clear h ht hl hx hy hlen
  go_enter Tryz.func143, Tryz.ntmps143
  go_wp2_with (first
    | (go_at_call 115; refine HT.out.mono ?_; rintro e1 w1 ⟨rfl, h1⟩)
    | (go_at_call 114; refine (HL.out _).mono ?_; rintro e2 w2 ⟨rfl, ho2⟩))
  go_ret
  exact ⟨rfl, h1.keep ho2⟩
set_option maxRecDepth 100000 in
theorem iu64_any {a w : World} {ib : Nat} {b : ByteArray} (h : InAt a w ib b 0) (hn : 8 ≤ b.size) (hb : b.size ≤ 1000000000) :
    Calls Tryz.prog 93 #[.pointer (some ⟨ib, 0, none⟩)] w fun e w' => e = .returned (.int .u64 (ofBe (b.data.toList.take 8) : Int)) ∧ InAt a w' ib (b.extract 8 b.size) 0 := by
  have ht : Calls Tryz.prog 115 #[.pointer (some ⟨ib, 0, none⟩), .int .i64 8] w fun e w' => e = .returned (.string (b.extract 0 8)) ∧ InAt a w' ib (b.extract 8 b.size) 0 := itake_any h 8 hn hb
  have hl := fun W => low_any (w := W) (b.extract 0 8) (by rw [ext_size b hn]; omega)
  rw [ext_list] at hl
  obtain ⟨x, hx⟩ : ∃ x, ofBe (b.data.toList.take 8) = x := ⟨_, rfl⟩
  obtain ⟨y, hy⟩ : ∃ y, b.extract 0 8 = y := ⟨_, rfl⟩
  rw [hx] at hl ⊢
  rw [hy] at ht hl
  have HT := Lib.hid ht
  have HL := Lib.hid hl
  clear h ht hl hx hy
  go_enter Tryz.func93, Tryz.ntmps93
  go_wp2_with (first
    | (go_at_call 115; refine HT.out.mono ?_; rintro e1 w1 ⟨rfl, h1⟩)
    | (go_at_call 114; refine (HL.out _).mono ?_; rintro e2 w2 ⟨rfl, ho2⟩))
  go_ret
  exact ⟨rfl, h1.keep ho2⟩
set_option maxRecDepth 100000 in
theorem ii64_any {a w : World} {ib : Nat} {b : ByteArray} (h : InAt a w ib b 0) (hn : 8 ≤ b.size) (hb : b.size ≤ 1000000000) :
    Calls Tryz.prog 67 #[.pointer (some ⟨ib, 0, none⟩)] w fun e w' => e = .returned (.int .i64 (i64of (ofBe (b.data.toList.take 8)))) ∧ InAt a w' ib (b.extract 8 b.size) 0 := by
  have hu := iu64_any h hn hb
  have hbd := ofBe_lt (b.data.toList.take 8)
  have hlen : (b.data.toList.take 8).length = 8 := by rw [List.length_take]; have : b.data.toList.length = b.size := by simp
                                                      omega
  rw [hlen] at hbd
  obtain ⟨x, hx⟩ : ∃ x, ofBe (b.data.toList.take 8) = x := ⟨_, rfl⟩
  rw [hx] at hu hbd ⊢
  have hw := i64_wrap (n := x) hbd
  have hw2 : wrap64 (x : Int) = i64of x := by
    have hb2 : x < 18446744073709551616 := hbd
    simp only [wrap64, i64of]
    split <;> omega
  have HU := Lib.hid hu
  have HW := Lib.hid hw2
  clear h hu hx hlen hw hw2
  go_enter Tryz.func67, Tryz.ntmps67
  go_wp2_with (go_at_call 93; refine HU.out.mono ?_; rintro e1 w1 ⟨rfl, h1⟩)
  go_ret
  refine ⟨?_, h1⟩
  rw [← HW.out]
  rfl
end Go.Proofs.YtfjkjndpndjfpaaGreatDoor
/- Contracts: the sum of texts (check.Sum), a length in four bytes (frame.lay), frames laid (frame.Put). -/
set_option linter.unusedVariables false
set_option linter.unusedSimpArgs false
namespace Go.Proofs.YtfjkjndpndjfpaaGreatDoor
open Go Go.RowKit Go.Sort
theorem crc8_snoc : ∀ (n x : Nat), crc8 (n + 1) x = crc1 (crc8 n x)
  | 0, _ => rfl
  | n + 1, x => by rw [crc8, crc8_snoc n (crc1 x)]; rfl
theorem xor_one_ne {x : Nat} : x % 2 = 1 ∨ x % 2 = 0 := by omega
/-- All bytes of texts, one behind the other. -/
def catS (ss : List ByteArray) : List UInt8 := ss.flatMap fun s => s.data.toList
set_option maxRecDepth 100000 in
set_option maxHeartbeats 4000000 in
theorem sum_any {w : World} {v : Value} {ss : List ByteArray} (h : Slc w 1 v ss.length (strs ss)) (hn : ss.length ≤ 1000) (hs : ∀ s ∈ ss, s.size ≤ 1000000000) :
    Calls Tryz.prog 74 #[v] w fun e w' => e = .returned (.int .u32 (crc (catS ss) : Int)) ∧ Only [] w w' := by
  obtain ⟨A, cap, rfl, hc1, hc2, hcell⟩ := h.openS
  clear h
  go_enter Tryz.func74, Tryz.ntmps74
  go_wp2
  go_loopw [3, 10] (fun v i wr => ∃ k : Nat, k ≤ ss.length ∧ i = .int .i64 k ∧ v = .int .u32 (crcGo (catS (ss.take k)) 4294967295 : Int) ∧ Only [] w wr) (fun _ i _ => ss.length - (intOf i).toNat)
  case atStart => exact ⟨0, Nat.zero_le _, rfl, rfl, Only.refl _ _⟩
  case round =>
    obtain ⟨k, hk, rfl, rfl, hOk⟩ := hrel
    by_cases hlt : k < ss.length
    · have hd : decide ((k : Int) < (ss.length : Int)) = true := decide_eq_true (by omega)
      obtain ⟨b, off, rfl, hb, hc0⟩ := hcell k hlt
      have hsz := hs _ (List.getElem_mem hlt)
      have hnx : catS (ss.take (k + 1)) = catS (ss.take k) ++ ss[k].data.toList := by
        unfold catS
        rw [List.take_succ_eq_append_getElem hlt, List.flatMap_append, List.flatMap_singleton]
      obtain ⟨s, hs0⟩ : ∃ s, ss[k] = s := ⟨_, rfl⟩
      rw [hs0] at hc0 hsz hnx
      have c0 := (hOk.cell (p := ⟨b, off + k, none⟩) hb (by simp)).trans hc0
      have hl : s.data.toList.length = s.size := by simp
      have hx0 : crcGo (catS (ss.take k)) 4294967295 < 4294967296 := crcGo_lt _ (by decide)
      obtain ⟨y, hy⟩ : ∃ y, crcGo (catS (ss.take k)) 4294967295 = y := ⟨_, rfl⟩
      have hny : crcGo (catS (ss.take (k + 1))) 4294967295 = crcGo s.data.toList y := by rw [hnx, crcGo_app, hy]
      rw [hy] at hx0 ⊢
      have e9 := IntWalk.i64_in ((k : Int) + 1) ⟨by omega, by omega⟩
      have HN := Lib.hid hny
      have HC := Lib.hid hcell
      clear hny hnx hs0 hc0 hy hcell
      go_wp2
      go_loopw [3, 16] (fun v i wr => ∃ j : Nat, j ≤ s.size ∧ i = .int .i64 j ∧ v = .int .u32 (crcGo (s.data.toList.take j) y : Int) ∧ Only [] w wr) (fun _ i _ => s.size - (intOf i).toNat)
      case atStart => exact ⟨0, Nat.zero_le _, rfl, rfl, hOk⟩
      case round =>
        obtain ⟨j, hj, rfl, rfl, hOj⟩ := hrel
        by_cases hjl : j < s.size
        · have hd2 : decide ((j : Int) < (s.size : Int)) = true := decide_eq_true (by omega)
          obtain ⟨c, hc⟩ : ∃ c, s[j]'hjl = c := ⟨_, rfl⟩
          have hcb : c.toNat < 256 := c.toNat_lt
          have hnx : crcGo (s.data.toList.take (j + 1)) y = crc8 8 (crcGo (s.data.toList.take j) y ^^^ c.toNat) := by
            rw [List.take_succ_eq_append_getElem (by omega), crcGo_app]
            have : s.data.toList[j]'(by omega) = c := by rw [← hc]; simp; rfl
            rw [this]
            rfl
          have hz0 : crcGo (s.data.toList.take j) y < 4294967296 := crcGo_lt _ hx0
          obtain ⟨z, hz⟩ : ∃ z, crcGo (s.data.toList.take j) y = z := ⟨_, rfl⟩
          rw [hz] at hnx hz0 ⊢
          have hxo := u32_xor hz0 (show c.toNat < 4294967296 by omega)
          have hx1 : z ^^^ c.toNat < 4294967296 := Nat.xor_lt_two_pow (n := 32) hz0 (by omega)
          obtain ⟨q, hq⟩ : ∃ q, z ^^^ c.toNat = q := ⟨_, rfl⟩
          rw [hq] at hnx hxo hx1
          have hcj : bits .xor .u32 (z : Int) (((s[j]'hjl).toNat : Int) % 4294967296) = (q : Int) := by rw [hc, Int.emod_eq_of_lt (by omega) (by omega)]; exact hxo
          have HJ := Lib.hid hcj
          have HM := Lib.hid hnx
          have e8 := IntWalk.i64_in ((j : Int) + 1) ⟨by omega, by omega⟩
          clear hnx hq hz hc hcj hxo
          go_wp2
          go_loopw [3, 25] (fun v i wx => ∃ n : Nat, n ≤ 8 ∧ i = .int .i64 n ∧ v = .int .u32 (crc8 n q : Int) ∧ Only [] w wx) (fun _ i _ => 8 - (intOf i).toNat)
          case atStart => exact ⟨0, Nat.zero_le _, rfl, by rw [HJ.out]; rfl, hOj⟩
          case round =>
            obtain ⟨n, hn8, rfl, rfl, hOn⟩ := hrel
            by_cases hnl : n < 8
            · have hd3 : decide ((n : Int) < 8) = true := decide_eq_true (by omega)
              have hy0 : crc8 n q < 4294967296 := crc8_lt n hx1
              have hst := crc8_snoc n q
              obtain ⟨x, hx⟩ : ∃ x, crc8 n q = x := ⟨_, rfl⟩
              rw [hx] at hy0 hst ⊢
              have han := u32_and1 hy0
              have hx2 : x / 2 < 4294967296 := by omega
              have hxp := u32_xor hx2 (show 3988292384 < 4294967296 by decide)
              have hxp : bits .xor .u32 ((x : Int) / 2) 3988292384 = ((x / 2 ^^^ 3988292384 : Nat) : Int) := by rw [← hxp]; rfl
              have e7 := IntWalk.i64_in ((n : Int) + 1) ⟨by omega, by omega⟩
              by_cases hod : x % 2 = 1
              · have hst2 : crc8 (n + 1) q = x / 2 ^^^ 3988292384 := by rw [hst]; simp [crc1, hod]
                have HS := Lib.hid hst2
                have hb1 : decide (((x % 2 : Nat) : Int) = 1) = true := decide_eq_true (by omega)
                clear hst hst2 hx
                go_wp2
                exact ⟨⟨n + 1, by omega, by simp, by rw [HS.out], hOn⟩, by simp [intOf]; omega⟩
              · have hst2 : crc8 (n + 1) q = x / 2 := by rw [hst]; simp [crc1, hod]
                have HS := Lib.hid hst2
                have hb1 : decide (((x % 2 : Nat) : Int) = 1) = false := decide_eq_false (by omega)
                clear hst hst2 hx
                go_wp2
                exact ⟨⟨n + 1, by omega, by simp, by rw [HS.out]; simp, hOn⟩, by simp [intOf]; omega⟩
            · have h8 : n = 8 := by omega
              subst h8
              go_wp2
              exact ⟨⟨j + 1, by omega, by simp, by rw [HM.out], hOn⟩, by simp [intOf]; omega⟩
        · have hd2 : decide ((j : Int) < (s.size : Int)) = false := decide_eq_false (by omega)
          rw [List.take_of_length_le (by omega)]
          go_wp2
          exact ⟨⟨k + 1, by omega, by simp, by rw [HN.out], hOj⟩, by simp [intOf]; omega⟩
    · have hd : decide ((k : Int) < (ss.length : Int)) = false := decide_eq_false (by omega)
      rw [List.take_of_length_le (by omega)]
      have hx0 : crcGo (catS ss) 4294967295 < 4294967296 := crcGo_lt _ (by decide)
      have hxo := u32_xor hx0 (show 4294967295 < 4294967296 by decide)
      have hxo : bits .xor .u32 (crcGo (catS ss) 4294967295 : Int) 4294967295 = (crc (catS ss) : Int) := hxo
      go_wp2
      go_ret
      exact ⟨rfl, hOk⟩
end Go.Proofs.YtfjkjndpndjfpaaGreatDoor
/- Contracts: a length in four bytes (frame.lay), frames laid (frame.Put), a length read (frame.length). -/
set_option linter.unusedVariables false
set_option linter.unusedSimpArgs false
namespace Go.Proofs.YtfjkjndpndjfpaaGreatDoor
open Go Go.RowKit Go.Sort
theorem OutAt.new {a w : World} (ha : Only [] a w) : OutAt a (w.alloc (.cells #[.slice none 0 0, .int .i64 0] 66)) w.heap.size [] 0 :=
  ⟨ha.alloc _, ha.size, none, 0, Blk.new _ _ _, rfl, .inl ⟨rfl, rfl⟩⟩
theorem slc_newN {w : World} {e : TypeId} {n size : Nat} {cs : List Value} (hs : cs.length = n * size) (hn : n ≤ maxLen) : Slc (w.alloc (.cells cs.toArray e)) size (.slice (some ⟨w.heap.size, 0, none⟩) n n) n cs := by
  have hb := Blk.new w e cs.toArray
  refine ⟨_, n, rfl, hs, Nat.le_refl _, hn, fun _ => ⟨w.heap.size, 0, rfl, hb.lt, fun j hj => ?_⟩⟩
  rw [Nat.zero_add, hb.cell j]
  simp
set_option maxRecDepth 100000 in
theorem flay_any {w : World} (n : Nat) (hn : n < 4294967296) : Calls Tryz.prog 73 #[.int .i64 n] w fun e w' => e = .returned (.string (baL (beN 4 n))) ∧ Only [] w w' := by
  have hO : OutAt w (w.alloc (.cells #[.slice none 0 0, .int .i64 0] 66)) w.heap.size [] 0 := OutAt.new (Only.refl _ _)
  have h1 := ou32_any hO (by simp) n hn
  have H1 := Lib.hid h1
  clear h1 hO
  go_enter Tryz.func73, Tryz.ntmps73
  go_wp2_with (first
    | (go_at_call 95; refine H1.out.mono ?_; rintro e1 w1 ⟨rfl, h1⟩; have HD := Lib.hid (odone_any h1 (by simp [beN_len])); have hO1 := h1.only; clear h1)
    | (go_at_call 42; refine HD.out.mono ?_; rintro e2 w2 ⟨rfl, rfl⟩))
  go_ret
  exact ⟨rfl, hO1⟩
theorem baL_two (a b : List UInt8) (s : ByteArray) : ((baL a ++ baL b) ++ s) ++ baL a = baL (a ++ b ++ s.data.toList ++ a) := by
  rw [baL_append]
  conv => lhs; rw [← baL_bts s]
  rw [baL_append, baL_append]
set_option maxRecDepth 100000 in
set_option maxHeartbeats 1000000 in
theorem fput_any {w : World} (s : ByteArray) (hs : s.size ≤ 4000) : Calls Tryz.prog 43 #[.string s] w fun e w' => e = .returned (.tuple #[.string (baL (frameB s.data.toList)), .int .i64 0]) ∧ Only [] w w' := by
  have hl : s.data.toList.length = s.size := by simp
  have hL := fun W => flay_any (w := W) s.size (by omega)
  have hC := fun W => flay_any (w := W) (crc (beN 4 s.size ++ s.data.toList)) (crc_lt _)
  have hd : decide ((s.size : Int) > 4000) = false := decide_eq_false (by omega)
  have hcr := crc_lt (beN 4 s.size ++ s.data.toList)
  have hct : crc (catS [baL (beN 4 s.size), s]) = crc (beN 4 s.size ++ s.data.toList) := by simp [catS, bts_baL]
  have hfr := baL_two (beN 4 s.size) (beN 4 (crc (beN 4 s.size ++ s.data.toList))) s
  have hfe : beN 4 s.size ++ beN 4 (crc (beN 4 s.size ++ s.data.toList)) ++ s.data.toList ++ beN 4 s.size = frameB s.data.toList := by unfold frameB; rw [hl]
  rw [hfe] at hfr
  obtain ⟨z, hz⟩ : ∃ z, crc (beN 4 s.size ++ s.data.toList) = z := ⟨_, rfl⟩
  rw [hz] at hC hcr hct hfr
  have hp : (baL (beN 4 s.size)).size = 4 := by rw [baL_size, beN_len]
  have hc : (baL (beN 4 z)).size = 4 := by rw [baL_size, beN_len]
  obtain ⟨p, hp0⟩ : ∃ p, baL (beN 4 s.size) = p := ⟨_, rfl⟩
  obtain ⟨c, hc0⟩ : ∃ c, baL (beN 4 z) = c := ⟨_, rfl⟩
  rw [hp0] at hL hct hfr hp
  rw [hc0] at hC hfr hc
  have hwr := IntWalk.i64_in (z : Int) ⟨by omega, by omega⟩
  have HL := Lib.hid hL
  have HC := Lib.hid hC
  have HT := Lib.hid hct
  have HF := Lib.hid hfr
  have s1 : (p ++ c).size = 8 := by rw [ByteArray.size_append, hp, hc]
  have s2 : ((p ++ c) ++ s).size = 8 + s.size := by rw [ByteArray.size_append, s1]
  have s3 : (((p ++ c) ++ s) ++ p).size = 12 + s.size := by rw [ByteArray.size_append, s2, hp]; omega
  clear hct hfr hz hcr hl hL hC hp0 hc0 hfe
  go_enter Tryz.func43, Tryz.ntmps43
  go_wp2_with (first
    | (go_at_call 74; refine (sum_any (ss := [p, s]) (slc_newN rfl (by simp [maxLen])) (by simp) (by simp [hp]; omega)).mono ?_; rintro e1 w1 ⟨rfl, ho1⟩; rw [HT.out])
    | (go_at_call 73; have hh := HL.out; clear HL; refine (hh _).mono ?_; clear hh; rintro e2 w2 ⟨rfl, ho2⟩)
    | (go_at_call 73; have hh := HC.out; clear HC; refine (hh _).mono ?_; clear hh; rintro e3 w3 ⟨rfl, ho3⟩))
  go_ret2
  rw [HF.out]
  exact ⟨rfl, ((ho2.alloc _).trans ho1).trans ho3⟩
end Go.Proofs.YtfjkjndpndjfpaaGreatDoor
/- Contracts: a frame's length, its ends, a frame opened (frame.length, front, head, back, open). -/
set_option linter.unusedVariables false
set_option linter.unusedSimpArgs false
namespace Go.Proofs.YtfjkjndpndjfpaaGreatDoor
open Go Go.RowKit Go.Sort
set_option maxRecDepth 100000 in
theorem flength_any {w : World} (b : ByteArray) (hn : 4 ≤ b.size) (hb : b.size ≤ 1000000000) :
    Calls Tryz.prog 125 #[.string b] w fun e w' => e = .returned (.tuple #[.int .i64 (ofBe (b.data.toList.take 4) : Int), .bool (decide (ofBe (b.data.toList.take 4) ≤ 4000))]) ∧ Only [] w w' := by
  have HN := Lib.hid (inew_any (Only.refl [] w) b hb)
  have hc : ∀ x : Nat, decide ((x : Int) ≤ 4000) = decide (x ≤ 4000) := fun x => by simp only [decide_eq_decide]; omega
  obtain ⟨x, hx⟩ : ∃ x, ofBe (b.data.toList.take 4) = x := ⟨_, rfl⟩
  rw [hx]
  have HX := Lib.hid hx
  clear hx
  go_enter Tryz.func125, Tryz.ntmps125
  go_wp2_with (first
    | (go_at_call 66; refine HN.out.mono ?_; rintro e1 w1 ⟨ib, rfl, h1⟩; have hu := iu32_any h1 hn hb; rw [HX.out] at hu; have HU := Lib.hid hu; clear h1 hu)
    | (go_at_call 143; refine HU.out.mono ?_; rintro e2 w2 ⟨rfl, h2⟩; have h3 := h2.only; clear h2))
  go_ret2
  exact ⟨by simp, h3⟩
theorem ffront_any {w : World} (b : ByteArray) (hn : 4 ≤ b.size) (hb : b.size ≤ 1000000000) :
    Calls Tryz.prog 111 #[.string b] w fun e w' => e = .returned (.string (b.extract 0 4)) ∧ w' = w := by
  go_enter Tryz.func111, Tryz.ntmps111
  go_wp2
  go_ret
  exact ⟨rfl, rfl⟩
theorem fhead_any {w : World} (b : ByteArray) (n : Nat) (hn : n ≤ b.size) (hb : b.size ≤ 1000000000) :
    Calls Tryz.prog 112 #[.string b, .int .i64 n] w fun e w' => e = .returned (.string (b.extract 0 n)) ∧ w' = w := by
  go_enter Tryz.func112, Tryz.ntmps112
  go_wp2
  go_ret
  exact ⟨rfl, rfl⟩
theorem fback_any {w : World} (b : ByteArray) (hn : 4 ≤ b.size) (hb : b.size ≤ 1000000000) :
    Calls Tryz.prog 113 #[.string b] w fun e w' => e = .returned (.string (b.extract (b.size - 4) b.size)) ∧ w' = w := by
  have e1 := IntWalk.i64_in ((b.size : Int) - 4) ⟨by omega, by omega⟩
  have e2 : ((b.size : Int) - 4).toNat = b.size - 4 := by omega
  go_enter Tryz.func113, Tryz.ntmps113
  go_wp2
  go_ret
  exact ⟨rfl, rfl⟩
/-- What opening a whole frame answers. -/
def openF (b : ByteArray) : ByteArray × Int :=
  if b.extract 4 8 ≠ baL (beN 4 (crc ((b.extract 0 4).data.toList ++ (b.extract 8 (b.size - 4)).data.toList))) then (⟨#[]⟩, 7) else (b.extract 8 (b.size - 4), 0)
set_option maxRecDepth 100000 in
set_option maxHeartbeats 1000000 in
theorem fopen_any {w : World} (b : ByteArray) (hn : 12 ≤ b.size) (hb : b.size ≤ 1000000) :
    Calls Tryz.prog 126 #[.string b] w fun e w' => e = .returned (.tuple #[.string (openF b).1, .int .i64 (openF b).2]) ∧ Only [] w w' := by
  have e1 := IntWalk.i64_in ((b.size : Int) - 4) ⟨by omega, by omega⟩
  have e2 : ((b.size : Int) - 4).toNat = b.size - 4 := by omega
  have hcl := crc_lt ((b.extract 0 4).data.toList ++ (b.extract 8 (b.size - 4)).data.toList)
  have hL := fun W => flay_any (w := W) (crc ((b.extract 0 4).data.toList ++ (b.extract 8 (b.size - 4)).data.toList)) hcl
  have hct : crc (catS [b.extract 0 4, b.extract 8 (b.size - 4)]) = crc ((b.extract 0 4).data.toList ++ (b.extract 8 (b.size - 4)).data.toList) := by simp [catS]
  have hr : openF b = if b.extract 4 8 ≠ baL (beN 4 (crc ((b.extract 0 4).data.toList ++ (b.extract 8 (b.size - 4)).data.toList))) then (⟨#[]⟩, 7) else (b.extract 8 (b.size - 4), 0) := rfl
  obtain ⟨R, hR⟩ : ∃ R, openF b = R := ⟨_, rfl⟩
  rw [hR] at hr ⊢
  obtain ⟨z, hz⟩ : ∃ z, crc ((b.extract 0 4).data.toList ++ (b.extract 8 (b.size - 4)).data.toList) = z := ⟨_, rfl⟩
  rw [hz] at hcl hL hct hr
  have hwr := IntWalk.i64_in (z : Int) ⟨by omega, by omega⟩
  have hs1 : (b.extract 0 4).size = 4 := ext_size b (by omega)
  have hs2 : (b.extract 8 (b.size - 4)).size ≤ 1000000 := by rw [ByteArray.size_extract]; omega
  have HL := Lib.hid hL
  have HR := Lib.hid hr
  have HT := Lib.hid hct
  have HC := Lib.hid (fun W => strClone_any (b.extract 8 (b.size - 4)) W (by omega))
  clear hr hR hL hct hz
  go_enter Tryz.func126, Tryz.ntmps126
  go_wp2_with fail
  refine wp_region_quiet_below (by kernel_rfl) (by kernel_rfl) ?_
  repeat (go_big_quiet_step (fail))
  refine wpQuiet_nil ?_
  rintro _ ⟨p, rfl⟩
  have hO0 : Only [] w (grow (redrawn w p.d) p.os) := Only.regrown [] w p.d p.os
  obtain ⟨W, hW⟩ : ∃ W, grow (redrawn w p.d) p.os = W := ⟨_, rfl⟩
  rw [hW] at hO0 ⊢
  clear hW
  go_wp2_with fail
  refine wp_region_in [] [0, 1, 2, 3] [4, 5, 6, 7, 8] [] (by kernel_rfl) (by kernel_rfl) (by intro c d u a w h; cases d <;> exact h) ?_
  show wpQuiet _ _ _ _ [_, _, _, _] _
  repeat (go_big_quiet_step (fail))
  refine wpQuiet_nil ?_
  show wpList _ _ _ [_] _ _
  go_wp2_with fail
  refine check_of (S := []) (((Only.refl [] _).alloc _).drew) ?_
  show wpList _ _ _ [_] _ _
  go_wp2_with fail
  have hsum := sum_any (w := (W.alloc (.cells #[.string (b.extract 0 4), .string (b.extract 8 (b.size - 4))] 9)).drew) (ss := [b.extract 0 4, b.extract 8 (b.size - 4)]) ((slc_newN (w := W) (e := 9) (n := 2) (size := 1) (cs := strs [b.extract 0 4, b.extract 8 (b.size - 4)]) rfl (by simp [maxLen])).only0 (Only.refl [] _).drew) (by simp) (by simp only [List.mem_cons, List.not_mem_nil, or_false, forall_eq_or_imp, forall_eq]; omega)
  rw [HT.out] at hsum
  refine hsum.mono ?_
  clear hsum
  rintro e1 w1 ⟨rfl, k1⟩
  go_wp2_with fail
  have k2 := ((Only.refl [] W).alloc _).drew.trans k1
  clear k1
  refine check_of (S := []) k2 ?_
  show wpList _ _ _ [_] _ _
  go_wp2_with fail
  refine check_of (S := []) k2 ?_
  show wpList _ _ _ [_] _ _
  go_wp2_with fail
  refine (HL.out _).mono ?_
  rintro e3 w3 ⟨rfl, k3⟩
  go_wp2_with fail
  refine check_of (S := []) (k2.trans k3) ?_
  show wpList _ _ _ [_] _ _
  have hdec := toList_decJ (b.extract 4 8) (baL (beN 4 z))
  obtain ⟨cc, hcc⟩ : ∃ cc, baL (beN 4 z) = cc := ⟨_, rfl⟩
  rw [hcc] at hdec HR ⊢
  have k4 := hO0.trans (k2.trans k3)
  by_cases hq : b.extract 4 8 = cc
  · rw [decide_eq_true hq] at hdec
    have hRe : R = (b.extract 8 (b.size - 4), 0) := by rw [HR.out, if_neg (by simpa using hq)]
    have HE := Lib.hid hRe
    clear HR HL HT hq
    go_wp2_with fail
    refine check_last (S := []) (k2.trans k3) (fun _ _ q => q) ?_
    go_wp2_with (go_at_call 32; refine (HC.out _).mono ?_; rintro e4 w4 ⟨rfl, k5⟩)
    go_ret2
    rw [HE.out]
    exact ⟨rfl, k4.trans k5⟩
  · rw [decide_eq_false hq] at hdec
    have hRe : R = (⟨#[]⟩, 7) := by rw [HR.out, if_pos (by simpa using hq)]
    have HE := Lib.hid hRe
    clear HR HL HT hq
    go_wp2_with fail
    refine check_last (S := []) (k2.trans k3) (fun _ _ q => q) ?_
    go_wp2
    go_ret2
    rw [HE.out]
    exact ⟨rfl, k4⟩
end Go.Proofs.YtfjkjndpndjfpaaGreatDoor
/- Contracts: the first frame of a text (frame.read, frame.First). -/
set_option linter.unusedVariables false
set_option linter.unusedSimpArgs false
namespace Go.Proofs.YtfjkjndpndjfpaaGreatDoor
open Go Go.RowKit Go.Sort
/-- What reading the first frame answers, in the program's words. -/
def readF (b : ByteArray) : ByteArray × Nat × Int :=
  if b.size < 12 then (⟨#[]⟩, 0, 5)
  else if 4000 < ofBe (b.data.toList.take 4) then (⟨#[]⟩, 0, 6)
  else if b.size < ofBe (b.data.toList.take 4) + 12 then (⟨#[]⟩, 0, 5)
  else if (b.extract 0 (ofBe (b.data.toList.take 4) + 12)).extract (ofBe (b.data.toList.take 4) + 8) (ofBe (b.data.toList.take 4) + 12) ≠ b.extract 0 4 then (⟨#[]⟩, 0, 6)
  else if (openF (b.extract 0 (ofBe (b.data.toList.take 4) + 12))).2 ≠ 0 then (⟨#[]⟩, 0, (openF (b.extract 0 (ofBe (b.data.toList.take 4) + 12))).2)
  else ((openF (b.extract 0 (ofBe (b.data.toList.take 4) + 12))).1, ofBe (b.data.toList.take 4) + 12, 0)
theorem readF_first (b : ByteArray) : readF b = (baL (firstF b.data.toList).1, (firstF b.data.toList).2.1, (firstF b.data.toList).2.2) := by
  have hl : b.data.toList.length = b.size := by simp
  have hbe : ∀ {x y : ByteArray}, x = y ↔ x.data.toList = y.data.toList := fun {x y} => ⟨fun h => by rw [h], fun h => bts_inj h⟩
  unfold readF firstF
  rw [hl]
  obtain ⟨n, hn⟩ : ∃ n, ofBe (b.data.toList.take 4) = n := ⟨_, rfl⟩
  rw [hn]
  by_cases h1 : b.size < 12
  · rw [if_pos h1, if_pos h1]; rfl
  rw [if_neg h1, if_neg h1]
  by_cases h2 : 4000 < n
  · rw [if_pos h2, if_pos h2]; rfl
  rw [if_neg h2, if_neg h2]
  by_cases h3 : b.size < n + 12
  · rw [if_pos h3, if_pos h3]; rfl
  rw [if_neg h3, if_neg h3]
  have hfs : (b.extract 0 (n + 12)).size = n + 12 := ext_size b (by omega)
  have e4 : ((b.extract 0 (n + 12)).extract (n + 8) (n + 12) = b.extract 0 4) ↔ (b.data.toList.take (n + 12)).drop (n + 8) = b.data.toList.take 4 := by
    rw [hbe]
    simp [List.take_take, List.drop_take]
  have e5 : ((b.extract 0 (n + 12)).extract 4 8).data.toList = (b.data.toList.drop 4).take 4 := by
    simp [List.drop_take, List.take_take]
  have e6 : ((b.extract 0 (n + 12)).extract 0 4).data.toList = b.data.toList.take 4 := by
    simp [List.take_take]
  have e7 : ((b.extract 0 (n + 12)).extract 8 (n + 12 - 4)).data.toList = (b.data.toList.drop 8).take n := by
    simp [List.drop_take, List.take_take]
  by_cases h4 : (b.extract 0 (n + 12)).extract (n + 8) (n + 12) = b.extract 0 4
  · rw [if_neg (not_not_intro h4), if_neg (not_not_intro (e4.1 h4))]
    have e8 : openF (b.extract 0 (n + 12)) = if (b.data.toList.drop 4).take 4 ≠ beN 4 (crc (b.data.toList.take 4 ++ (b.data.toList.drop 8).take n)) then (⟨#[]⟩, 7) else (baL ((b.data.toList.drop 8).take n), 0) := by
      unfold openF
      rw [hfs, e6, e7]
      have : (b.extract 0 (n + 12)).extract 4 8 = baL (beN 4 (crc (b.data.toList.take 4 ++ (b.data.toList.drop 8).take n))) ↔ (b.data.toList.drop 4).take 4 = beN 4 (crc (b.data.toList.take 4 ++ (b.data.toList.drop 8).take n)) := by
        rw [hbe, e5, bts_baL]
      by_cases hq : (b.data.toList.drop 4).take 4 = beN 4 (crc (b.data.toList.take 4 ++ (b.data.toList.drop 8).take n))
      · rw [if_neg (not_not_intro (this.2 hq)), if_neg (not_not_intro hq)]
        have e9 : (b.extract 0 (n + 12)).extract 8 (n + 12 - 4) = baL ((b.data.toList.drop 8).take n) := hbe.2 (by rw [e7, bts_baL])
        rw [e9]
      · rw [if_pos (fun h => hq (this.1 h)), if_pos hq]
    rw [e8]
    by_cases hq : (b.data.toList.drop 4).take 4 = beN 4 (crc (b.data.toList.take 4 ++ (b.data.toList.drop 8).take n))
    · rw [if_neg (not_not_intro hq), if_neg (not_not_intro hq)]
      simp
    · rw [if_pos hq, if_pos hq]
      simp
      rfl
  · rw [if_pos h4, if_pos (fun h => h4 (e4.2 h))]
    rfl
end Go.Proofs.YtfjkjndpndjfpaaGreatDoor
/- Contracts: the walk of frame.read, frame.First. -/
set_option linter.unusedVariables false
set_option linter.unusedSimpArgs false
namespace Go.Proofs.YtfjkjndpndjfpaaGreatDoor
open Go Go.RowKit Go.Sort
set_option maxRecDepth 100000 in
set_option maxHeartbeats 2000000 in
theorem fread_any {w : World} (b : ByteArray) (hb : b.size ≤ 1000000) :
    Calls Tryz.prog 110 #[.string b, .func (.func 111) #[] #[], .func (.func 112) #[] #[], .func (.func 113) #[] #[]] w fun e w' => e = .returned (.tuple #[.string (readF b).1, .int .i64 (readF b).2.1, .int .i64 (readF b).2.2]) ∧ Only [] w w' := by
  have hr : readF b = _ := rfl
  unfold readF at hr
  obtain ⟨R, hR⟩ : ∃ R, readF b = R := ⟨_, rfl⟩
  obtain ⟨n, hn⟩ : ∃ n, ofBe (b.data.toList.take 4) = n := ⟨_, rfl⟩
  have hR2 : readF b = R := hR
  unfold readF at hR2
  rw [hn] at hR2
  rw [hR]
  clear hr hR
  by_cases h1 : b.size < 12
  · rw [if_pos h1] at hR2
    have HR := Lib.hid hR2
    have d1 : decide ((b.size : Int) < 12) = true := decide_eq_true (by omega)
    clear hR2 hn
    go_enter Tryz.func110, Tryz.ntmps110
    go_wp2
    go_ret3
    rw [← HR.out]
    exact ⟨rfl, Only.refl _ _⟩
  rw [if_neg h1] at hR2
  have d1 : decide ((b.size : Int) < 12) = false := decide_eq_false (by omega)
  have s0 : (b.extract 0 4).size = 4 := ext_size b (by omega)
  have HF := Lib.hid (fun W => ffront_any (w := W) b (by omega) (by omega))
  have hL := fun W => flength_any (w := W) (b.extract 0 4) (by omega) (by omega)
  rw [ext_list, List.take_take, Nat.min_self, hn] at hL
  have HL := Lib.hid hL
  clear hL
  by_cases h2 : 4000 < n
  · rw [if_pos h2] at hR2
    have HR := Lib.hid hR2
    have d2 : decide (n ≤ 4000) = false := decide_eq_false (by omega)
    rw [d2] at HL
    clear hR2 hn
    go_enter Tryz.func110, Tryz.ntmps110
    go_wp2_with (first
      | (go_at_call 111; refine (HF.out _).mono ?_; rintro e1 w1 ⟨rfl, rfl⟩)
      | (go_at_call 125; refine (HL.out _).mono ?_; rintro e2 w2 ⟨rfl, k2⟩))
    go_ret3
    rw [← HR.out]
    exact ⟨rfl, k2⟩
  rw [if_neg h2] at hR2
  have d2 : decide (n ≤ 4000) = true := decide_eq_true (by omega)
  rw [d2] at HL
  have e2 := IntWalk.i64_in ((n : Int) + 12) ⟨by omega, by omega⟩
  by_cases h3 : b.size < n + 12
  · rw [if_pos h3] at hR2
    have HR := Lib.hid hR2
    have d3 : decide ((b.size : Int) < (n : Int) + 12) = true := decide_eq_true (by omega)
    clear hR2 hn
    go_enter Tryz.func110, Tryz.ntmps110
    go_wp2_with (first
      | (go_at_call 111; refine (HF.out _).mono ?_; rintro e1 w1 ⟨rfl, rfl⟩)
      | (go_at_call 125; refine (HL.out _).mono ?_; rintro e2 w2 ⟨rfl, k2⟩))
    go_ret3
    rw [← HR.out]
    exact ⟨rfl, k2⟩
  rw [if_neg h3] at hR2
  have d3 : decide ((b.size : Int) < (n : Int) + 12) = false := decide_eq_false (by omega)
  have hH := fun W => fhead_any (w := W) b (n + 12) (by omega) (by omega)
  have hH : ∀ W, Calls Tryz.prog 112 #[.string b, .int .i64 ((n : Int) + 12)] W fun e w' => e = .returned (.string (b.extract 0 (n + 12))) ∧ w' = W := by
    intro W
    have := hH W
    rw [show ((n + 12 : Nat) : Int) = (n : Int) + 12 by omega] at this
    exact this
  have hfs : (b.extract 0 (n + 12)).size = n + 12 := ext_size b (by omega)
  have hB := fun W => fback_any (w := W) (b.extract 0 (n + 12)) (by omega) (by omega)
  have hO := fun W => fopen_any (w := W) (b.extract 0 (n + 12)) (by omega) (by omega)
  rw [hfs, show n + 12 - 4 = n + 8 by omega] at hB
  obtain ⟨f, hf⟩ : ∃ f, b.extract 0 (n + 12) = f := ⟨_, rfl⟩
  rw [hf] at hB hO hH hR2 hfs
  have hdec := toList_decJ (f.extract (n + 8) (n + 12)) (b.extract 0 4)
  have HH := Lib.hid hH
  have HB := Lib.hid hB
  have HO := Lib.hid hO
  clear hH hB hO hf
  by_cases h4 : f.extract (n + 8) (n + 12) = b.extract 0 4
  · rw [if_neg (not_not_intro h4)] at hR2
    rw [decide_eq_true h4] at hdec
    obtain ⟨o1, ho1⟩ : ∃ o1, (openF f).1 = o1 := ⟨_, rfl⟩
    obtain ⟨o2, ho2⟩ : ∃ o2, (openF f).2 = o2 := ⟨_, rfl⟩
    rw [ho1, ho2] at HO hR2
    by_cases h5 : o2 = 0
    · rw [if_neg (not_not_intro h5)] at hR2
      subst h5
      have HR := Lib.hid hR2
      clear hR2 hn h4 ho1 ho2
      go_enter Tryz.func110, Tryz.ntmps110
      go_wp2_with (first
        | (go_at_call 111; refine (HF.out _).mono ?_; rintro e1 w1 ⟨rfl, rfl⟩)
        | (go_at_call 125; refine (HL.out _).mono ?_; rintro e2 w2 ⟨rfl, k2⟩)
        | (go_at_call 112; refine (HH.out _).mono ?_; rintro e3 w3 ⟨rfl, rfl⟩)
        | (go_at_call 113; refine (HB.out _).mono ?_; rintro e4 w4 ⟨rfl, rfl⟩)
        | (go_at_call 126; refine (HO.out _).mono ?_; rintro e5 w5 ⟨rfl, k5⟩))
      go_ret3
      rw [← HR.out]
      exact ⟨by simp, k2.trans k5⟩
    · rw [if_pos h5] at hR2
      have HR := Lib.hid hR2
      have d5 : decide (o2 = 0) = false := decide_eq_false h5
      clear hR2 hn h4 ho1 ho2
      go_enter Tryz.func110, Tryz.ntmps110
      go_wp2_with (first
        | (go_at_call 111; refine (HF.out _).mono ?_; rintro e1 w1 ⟨rfl, rfl⟩)
        | (go_at_call 125; refine (HL.out _).mono ?_; rintro e2 w2 ⟨rfl, k2⟩)
        | (go_at_call 112; refine (HH.out _).mono ?_; rintro e3 w3 ⟨rfl, rfl⟩)
        | (go_at_call 113; refine (HB.out _).mono ?_; rintro e4 w4 ⟨rfl, rfl⟩)
        | (go_at_call 126; refine (HO.out _).mono ?_; rintro e5 w5 ⟨rfl, k5⟩))
      go_ret3
      rw [← HR.out]
      exact ⟨rfl, k2.trans k5⟩
  · rw [if_pos h4] at hR2
    rw [decide_eq_false h4] at hdec
    have HR := Lib.hid hR2
    clear hR2 hn h4
    go_enter Tryz.func110, Tryz.ntmps110
    go_wp2_with (first
      | (go_at_call 111; refine (HF.out _).mono ?_; rintro e1 w1 ⟨rfl, rfl⟩)
      | (go_at_call 125; refine (HL.out _).mono ?_; rintro e2 w2 ⟨rfl, k2⟩)
      | (go_at_call 112; refine (HH.out _).mono ?_; rintro e3 w3 ⟨rfl, rfl⟩)
      | (go_at_call 113; refine (HB.out _).mono ?_; rintro e4 w4 ⟨rfl, rfl⟩))
    go_ret3
    rw [← HR.out]
    exact ⟨rfl, k2⟩
set_option maxRecDepth 100000 in
theorem ffirst_any {w : World} (b : ByteArray) (hb : b.size ≤ 1000000) :
    Calls Tryz.prog 92 #[.string b] w fun e w' => e = .returned (.tuple #[.string (readF b).1, .int .i64 (readF b).2.1, .int .i64 (readF b).2.2]) ∧ Only [] w w' := by
  have HR := Lib.hid (fread_any (w := w) b hb)
  go_enter Tryz.func92, Tryz.ntmps92
  go_wp2_with (go_at_call 110; refine HR.out.mono ?_; rintro e1 w1 ⟨rfl, k1⟩)
  go_ret3
  exact ⟨rfl, k1⟩
end Go.Proofs.YtfjkjndpndjfpaaGreatDoor
/- Logs, plain: the bytes of a chunk, and how they are read. No program is named. -/
set_option linter.unusedVariables false
set_option linter.unusedSimpArgs false
namespace Go.Proofs.YtfjkjndpndjfpaaGreatDoor
open Go.RowKit
def putF (b : List UInt8) : List UInt8 × Int := if 4000 < b.length then ([], 2) else (frameB b, 0)
def chnkT : List UInt8 := [0, 67, 72, 78, 75]
def doneT : List UInt8 := [2, 68, 79, 78, 69]
def rightC (k : Int) : Bool := decide (0 ≤ k) && decide (k ≤ 999999)
def startB (k size : Int) : List UInt8 := frameB (chnkT ++ (i64B k ++ i64B size))
def finB (k c : Int) : List UInt8 := frameB (doneT ++ (i64B k ++ i64B c))
def recB (b : ByteArray) : List UInt8 := frameB (1 :: b.data.toList)
def startE (k size : Int) : List UInt8 × Int := if rightC k = false ∨ size < 100 ∨ 1000000 < size then ([], 1) else (startB k size, 0)
def finE (k c : Int) : List UInt8 × Int := if rightC k = false ∨ c < 0 then ([], 1) else (finB k c, 0)
def roomC (size used : Int) : Int := if size < 0 ∨ used < 0 ∨ size < used then 0 else min (max (size - used - 13) 0) 3999
theorem startB_len (k size : Int) : (startB k size).length = 33 := by
  unfold startB
  rw [frameB_len]
  simp [chnkT, i64B_len]
theorem finB_len (k c : Int) : (finB k c).length = 33 := by
  unfold finB
  rw [frameB_len]
  simp [doneT, i64B_len]
theorem recB_len (b : ByteArray) : (recB b).length = b.size + 13 := by
  unfold recB
  rw [frameB_len]
  simp
/-- What is read of a chunk. -/
structure ScanR where
  number : Int
  size : Int
  bodies : List ByteArray
  good : Nat
  done : Bool
def ScanR.zero : ScanR := ⟨0, 0, [], 0, false⟩
def beginC (b : List UInt8) : Option ScanR :=
  if (firstF b).2.2 ≠ 0 ∨ (firstF b).1.length ≠ 21 then none
  else
    let k := i64of (ofBe (((firstF b).1.drop 5).take 8))
    let z := i64of (ofBe (((firstF b).1.drop 13).take 8))
    if (startE k z).2 ≠ 0 ∨ (startE k z).1 ≠ b.take (firstF b).2.1 then none else some ⟨k, z, [], (firstF b).2.1, false⟩
def scanC (b : List UInt8) : Nat → ScanR → ScanR
  | 0, x => x
  | f + 1, x =>
    if x.done then x
    else
      let r := firstF (b.drop x.good)
      if r.2.2 ≠ 0 ∨ r.1 = [] then x
      else if r.1.take 1 = [1] then scanC b f { x with bodies := x.bodies ++ [baL (r.1.drop 1)], good := x.good + r.2.1 }
      else if (finE x.number x.bodies.length).1 = (b.drop x.good).take r.2.1 then scanC b f { x with done := true, good := x.good + r.2.1 }
      else x
def readC (b : List UInt8) : Option ScanR := (beginC b).map (scanC b (b.length + 1))
def recsB (l : List ByteArray) : List UInt8 := l.flatMap recB
def imageB (k size : Int) (l : List ByteArray) (done : Bool) : List UInt8 := startB k size ++ (recsB l ++ if done then finB k l.length else [])
theorem recsB_app (l m : List ByteArray) : recsB (l ++ m) = recsB l ++ recsB m := List.flatMap_append
theorem recsB_one (b : ByteArray) : recsB [b] = recB b := by simp [recsB]
theorem firstF_nil : firstF [] = ([], 0, 5) := rfl
theorem right_ok {k : Int} (h : 0 ≤ k ∧ k ≤ 999999) : rightC k = true := by
  unfold rightC
  rw [decide_eq_true h.1, decide_eq_true h.2]
  rfl
theorem startE_ok {k size : Int} (hk : 0 ≤ k ∧ k ≤ 999999) (hs : 100 ≤ size ∧ size ≤ 1000000) : startE k size = (startB k size, 0) := by
  unfold startE
  rw [right_ok hk, if_neg (by simp; omega)]
theorem finE_ok {k c : Int} (hk : 0 ≤ k ∧ k ≤ 999999) (hc : 0 ≤ c) : finE k c = (finB k c, 0) := by
  unfold finE
  rw [right_ok hk, if_neg (by simp; omega)]
theorem begin_start {k size : Int} (hk : 0 ≤ k ∧ k ≤ 999999) (hs : 100 ≤ size ∧ size ≤ 1000000) (r : List UInt8) : beginC (startB k size ++ r) = some ⟨k, size, [], 33, false⟩ := by
  have hl : (chnkT ++ (i64B k ++ i64B size)).length = 21 := by simp [chnkT, i64B_len]
  have hf : firstF (startB k size ++ r) = (chnkT ++ (i64B k ++ i64B size), 33, 0) := by
    have := first_frame (b := chnkT ++ (i64B k ++ i64B size)) (by rw [hl]; decide) r
    rw [hl] at this
    exact this
  have e1 : ((chnkT ++ (i64B k ++ i64B size)).drop 5).take 8 = i64B k := by
    rw [drop_pre (n := 5) (a := chnkT) rfl]
    exact take_pre (i64B_len k)
  have e2 : ((chnkT ++ (i64B k ++ i64B size)).drop 13).take 8 = i64B size := by
    rw [← List.append_assoc, drop_pre (by simp [chnkT, i64B_len])]
    exact List.take_of_length_le (by rw [i64B_len]; decide)
  unfold beginC
  rw [hf]
  dsimp only
  rw [e1, e2, ofBe_i64 ⟨by omega, by omega⟩, ofBe_i64 ⟨by omega, by omega⟩, startE_ok hk hs, if_neg (by simp [hl]), if_neg]
  dsimp only
  rw [take_pre (startB_len k size)]
  simp
/-- Records are read one by one. -/
theorem scan_recs {b : List UInt8} : ∀ (l : List ByteArray) (f : Nat) (x : ScanR) (r : List UInt8), x.done = false → b.drop x.good = recsB l ++ r → (∀ s ∈ l, s.size ≤ 3999) → l.length ≤ f →
    scanC b f x = scanC b (f - l.length) { x with bodies := x.bodies ++ l, good := x.good + (recsB l).length }
  | [], f, x, r, hd, hb, hs, hf => by simp [recsB]
  | s :: l, 0, x, r, hd, hb, hs, hf => by simp at hf
  | s :: l, f + 1, x, r, hd, hb, hs, hf => by
    have hs0 := hs s (by simp)
    have hcons : recsB (s :: l) = recB s ++ recsB l := by simp [recsB]
    have hff : firstF (b.drop x.good) = (1 :: s.data.toList, s.size + 13, 0) := by
      rw [hb, hcons, List.append_assoc]
      have := first_frame (b := 1 :: s.data.toList) (by simp; omega) (recsB l ++ r)
      have e : (1 :: s.data.toList).length + 12 = s.size + 13 := by simp
      rw [e] at this
      exact this
    have hb2 : b.drop (x.good + (s.size + 13)) = recsB l ++ r := by
      rw [← List.drop_drop, hb, hcons, List.append_assoc, drop_pre (recB_len s)]
    have ih := scan_recs l f { x with bodies := x.bodies ++ [s], good := x.good + (s.size + 13) } r hd hb2 (fun t ht => hs t (by simp [ht])) (by simpa using hf)
    rw [scanC, if_neg (by rw [hd]; simp), hff]
    dsimp only
    rw [if_neg (by simp), if_pos (show List.take 1 (1 :: s.data.toList) = [1] from rfl)]
    have e1 : baL (List.drop 1 (1 :: s.data.toList)) = s := baL_bts s
    rw [e1, ih]
    have e2 : f + 1 - (s :: l).length = f - l.length := by simp
    rw [e2, hcons, List.length_append, recB_len]
    simp [Nat.add_assoc]
theorem scan_end {b : List UInt8} (f : Nat) (x : ScanR) (h : b.drop x.good = []) : scanC b f x = x := by
  cases f with
  | zero => rfl
  | succ f =>
    rw [scanC]
    cases x.done
    · rw [h, firstF_nil]
      simp
    · simp
theorem scan_done {b : List UInt8} (f : Nat) (x : ScanR) (h : x.done = true) : scanC b f x = x := by
  cases f with
  | zero => rfl
  | succ f => rw [scanC, if_pos h]
theorem recsB_ge (l : List ByteArray) : l.length ≤ (recsB l).length := by
  induction l with
  | nil => simp [recsB]
  | cons s l ih =>
    have : recsB (s :: l) = recB s ++ recsB l := by simp [recsB]
    rw [this, List.length_append, recB_len, List.length_cons]
    omega
theorem read_image {k size : Int} (hk : 0 ≤ k ∧ k ≤ 999999) (hs : 100 ≤ size ∧ size ≤ 1000000) {l : List ByteArray} (hl : ∀ s ∈ l, s.size ≤ 3999) (done : Bool) :
    readC (imageB k size l done) = some ⟨k, size, l, (imageB k size l done).length, done⟩ := by
  obtain ⟨b, hb⟩ : ∃ b, imageB k size l done = b := ⟨_, rfl⟩
  obtain ⟨t, ht⟩ : ∃ t, (if done then finB k l.length else []) = t := ⟨_, rfl⟩
  have hbt : b = startB k size ++ (recsB l ++ t) := by rw [← hb, ← ht]; rfl
  have hlen : b.length = 33 + (recsB l).length + t.length := by rw [hbt]; simp [startB_len]; omega
  have hbeg : beginC b = some ⟨k, size, [], 33, false⟩ := by rw [hbt]; exact begin_start hk hs _
  have hd : b.drop 33 = recsB l ++ t := by rw [hbt]; exact drop_pre (startB_len k size)
  have hge := recsB_ge l
  have h1 := scan_recs l (b.length + 1) ⟨k, size, [], 33, false⟩ t rfl hd hl (by omega)
  unfold readC
  rw [hb, hbeg, Option.map_some, h1]
  dsimp only
  rw [List.nil_append]
  have hd2 : b.drop (33 + (recsB l).length) = t := by rw [← List.drop_drop, hd, drop_pre rfl]
  cases done with
  | false =>
    have ht0 : t = [] := by rw [← ht]; rfl
    rw [ht0] at hd2 hlen
    rw [scan_end _ _ hd2]
    simp [hlen]
  | true =>
    have ht1 : t = finB k l.length := by rw [← ht]; rfl
    obtain ⟨f, hf⟩ : ∃ f, b.length + 1 - l.length = f + 1 := ⟨b.length - l.length, by omega⟩
    have hff : firstF (b.drop (33 + (recsB l).length)) = (doneT ++ (i64B k ++ i64B l.length), 33, 0) := by
      rw [hd2, ht1]
      have e : (doneT ++ (i64B k ++ i64B l.length)).length = 21 := by simp [doneT, i64B_len]
      have := first_frame (b := doneT ++ (i64B k ++ i64B l.length)) (by rw [e]; decide) []
      rw [e, List.append_nil] at this
      exact this
    rw [hf, scanC, if_neg (by simp)]
    dsimp only
    rw [hff]
    dsimp only
    rw [if_neg (by simp [doneT]), if_neg (by simp [doneT]), if_pos (by rw [finE_ok hk (by omega), hd2, ht1]; exact (List.take_of_length_le (by rw [finB_len]; decide)).symm), scan_done _ _ rfl]
    have : t.length = 33 := by rw [ht1, finB_len]
    simp [hlen, this]
end Go.Proofs.YtfjkjndpndjfpaaGreatDoor
/- Contracts: the parts of a chunk (chunk.two, right, Start, Record, Finish, Room), a frame that is too long. -/
set_option linter.unusedVariables false
set_option linter.unusedSimpArgs false
namespace Go.Proofs.YtfjkjndpndjfpaaGreatDoor
open Go Go.RowKit Go.Sort
theorem fput_big {w : World} (s : ByteArray) (hs : 4000 < s.size) : Calls Tryz.prog 43 #[.string s] w fun e w' => e = .returned (.tuple #[.string ⟨#[]⟩, .int .i64 2]) ∧ w' = w := by
  have hd : decide ((s.size : Int) > 4000) = true := decide_eq_true (by omega)
  go_enter Tryz.func43, Tryz.ntmps43
  go_wp2
  go_ret2
  exact ⟨rfl, rfl⟩
theorem putE_any {w : World} (s : ByteArray) : Calls Tryz.prog 43 #[.string s] w fun e w' => e = .returned (.tuple #[.string (baL (putF s.data.toList).1), .int .i64 (putF s.data.toList).2]) ∧ Only [] w w' := by
  have hl : s.data.toList.length = s.size := by simp
  unfold putF
  rw [hl]
  by_cases h : 4000 < s.size
  · rw [if_pos h]
    refine (fput_big s h).mono ?_
    rintro e w' ⟨rfl, rfl⟩
    exact ⟨rfl, Only.refl _ _⟩
  · rw [if_neg h]
    exact fput_any s (by omega)
set_option maxRecDepth 100000 in
theorem two_any {w : World} (a b : Int) : Calls Tryz.prog 108 #[.int .i64 a, .int .i64 b] w fun e w' => e = .returned (.string (baL (i64B a ++ i64B b))) ∧ Only [] w w' := by
  have hO : OutAt w (w.alloc (.cells #[.slice none 0 0, .int .i64 0] 66)) w.heap.size [] 0 := OutAt.new (Only.refl _ _)
  have h1 := oi64_any hO (by simp) a
  have H1 := Lib.hid h1
  clear h1 hO
  go_enter Tryz.func108, Tryz.ntmps108
  go_wp2_with (first
    | (go_at_call 41; have hh := H1.out; clear H1; refine hh.mono ?_; clear hh; rintro e1 w1 ⟨rfl, h1⟩; have H2 := Lib.hid (oi64_any h1 (by simp [i64B_len]) b); clear h1)
    | (go_at_call 41; have hh := H2.out; clear H2; refine hh.mono ?_; clear hh; rintro e2 w2 ⟨rfl, h2⟩; have HD := Lib.hid (odone_any h2 (by simp [i64B_len])); have hO1 := h2.only; clear h2)
    | (go_at_call 42; refine HD.out.mono ?_; rintro e3 w3 ⟨rfl, rfl⟩))
  go_ret
  exact ⟨by simp, hO1⟩
theorem right_any {w : World} (k : Int) : Calls Tryz.prog 107 #[.int .i64 k] w fun e w' => e = .returned (.bool (rightC k)) ∧ w' = w := by
  unfold rightC
  by_cases h1 : 0 ≤ k
  · by_cases h2 : k ≤ 999999
    · have d1 : decide (k ≥ 0) = true := decide_eq_true h1
      have d2 : decide (k ≤ 999999) = true := decide_eq_true h2
      go_enter Tryz.func107, Tryz.ntmps107
      go_wp2
      go_ret
      exact ⟨by simp [d2, h1], rfl⟩
    · have d1 : decide (k ≥ 0) = true := decide_eq_true h1
      have d2 : decide (k ≤ 999999) = false := decide_eq_false h2
      go_enter Tryz.func107, Tryz.ntmps107
      go_wp2
      go_ret
      exact ⟨by simp [d2], rfl⟩
  · have d1 : decide (k ≥ 0) = false := decide_eq_false h1
    go_enter Tryz.func107, Tryz.ntmps107
    go_wp2
    go_ret
    exact ⟨by simp [h1], rfl⟩
theorem startT_bts (a b : Int) : (baL chnkT ++ baL (i64B a ++ i64B b)) = baL (chnkT ++ (i64B a ++ i64B b)) := baL_append _ _
set_option maxRecDepth 100000 in
set_option maxHeartbeats 1000000 in
theorem start_any {w : World} (k z : Int) : Calls Tryz.prog 83 #[.int .i64 k, .int .i64 z] w fun e w' => e = .returned (.tuple #[.string (baL (startE k z).1), .int .i64 (startE k z).2]) ∧ Only [] w w' := by
  have HR := Lib.hid (fun W => right_any (w := W) k)
  have HT := Lib.hid (fun W => two_any (w := W) k z)
  have hp := fun W => putE_any (w := W) (baL (chnkT ++ (i64B k ++ i64B z)))
  have hl : (chnkT ++ (i64B k ++ i64B z)).length = 21 := by simp [chnkT, i64B_len]
  rw [bts_baL, show putF (chnkT ++ (i64B k ++ i64B z)) = (startB k z, 0) by unfold putF startB; rw [hl, if_neg (by decide)], ← startT_bts] at hp
  have s1 : (baL (i64B k ++ i64B z)).size = 16 := by rw [baL_size]; simp [i64B_len]
  obtain ⟨t, ht⟩ : ∃ t, baL (i64B k ++ i64B z) = t := ⟨_, rfl⟩
  rw [ht] at hp HT s1
  have hp : ∀ W, Calls Tryz.prog 43 #[.string (⟨#[0, 67, 72, 78, 75]⟩ ++ t)] W fun e w' => e = .returned (.tuple #[.string (baL (startB k z)), .int .i64 0]) ∧ Only [] W w' := hp
  have HP := Lib.hid hp
  clear hp ht hl
  unfold startE
  cases hr : rightC k
  · rw [if_pos (Or.inl rfl)]
    rw [hr] at HR
    go_enter Tryz.func83, Tryz.ntmps83
    go_wp2_with (go_at_call 107; refine (HR.out _).mono ?_; rintro e1 w1 ⟨rfl, rfl⟩)
    go_ret2
    exact ⟨rfl, Only.refl _ _⟩
  · rw [hr] at HR
    by_cases h1 : z < 100
    · rw [if_pos (.inr (.inl h1))]
      have d1 : decide (z < 100) = true := decide_eq_true h1
      go_enter Tryz.func83, Tryz.ntmps83
      go_wp2_with (go_at_call 107; refine (HR.out _).mono ?_; rintro e1 w1 ⟨rfl, rfl⟩)
      go_ret2
      exact ⟨rfl, Only.refl _ _⟩
    · have d1 : decide (z < 100) = false := decide_eq_false h1
      by_cases h2 : 1000000 < z
      · rw [if_pos (.inr (.inr h2))]
        have d2 : decide (z > 1000000) = true := decide_eq_true h2
        go_enter Tryz.func83, Tryz.ntmps83
        go_wp2_with (go_at_call 107; refine (HR.out _).mono ?_; rintro e1 w1 ⟨rfl, rfl⟩)
        go_ret2
        exact ⟨rfl, Only.refl _ _⟩
      · rw [if_neg (by simp [h1, h2])]
        have d2 : decide (z > 1000000) = false := decide_eq_false h2
        go_enter Tryz.func83, Tryz.ntmps83
        go_wp2_with (first
          | (go_at_call 107; refine (HR.out _).mono ?_; rintro e1 w1 ⟨rfl, rfl⟩)
          | (go_at_call 108; refine (HT.out _).mono ?_; rintro e2 w2 ⟨rfl, k2⟩)
          | (go_at_call 43; refine (HP.out _).mono ?_; rintro e3 w3 ⟨rfl, k3⟩))
        go_ret2
        exact ⟨rfl, k2.trans k3⟩
theorem finT_bts (a b : Int) : (baL doneT ++ baL (i64B a ++ i64B b)) = baL (doneT ++ (i64B a ++ i64B b)) := baL_append _ _
set_option maxRecDepth 100000 in
set_option maxHeartbeats 1000000 in
theorem finish_any {w : World} (k z : Int) : Calls Tryz.prog 85 #[.int .i64 k, .int .i64 z] w fun e w' => e = .returned (.tuple #[.string (baL (finE k z).1), .int .i64 (finE k z).2]) ∧ Only [] w w' := by
  have HR := Lib.hid (fun W => right_any (w := W) k)
  have HT := Lib.hid (fun W => two_any (w := W) k z)
  have hp := fun W => putE_any (w := W) (baL (doneT ++ (i64B k ++ i64B z)))
  have hl : (doneT ++ (i64B k ++ i64B z)).length = 21 := by simp [doneT, i64B_len]
  rw [bts_baL, show putF (doneT ++ (i64B k ++ i64B z)) = (finB k z, 0) by unfold putF finB; rw [hl, if_neg (by decide)], ← finT_bts] at hp
  have s1 : (baL (i64B k ++ i64B z)).size = 16 := by rw [baL_size]; simp [i64B_len]
  obtain ⟨t, ht⟩ : ∃ t, baL (i64B k ++ i64B z) = t := ⟨_, rfl⟩
  rw [ht] at hp HT s1
  have hp : ∀ W, Calls Tryz.prog 43 #[.string (⟨#[2, 68, 79, 78, 69]⟩ ++ t)] W fun e w' => e = .returned (.tuple #[.string (baL (finB k z)), .int .i64 0]) ∧ Only [] W w' := hp
  have HP := Lib.hid hp
  clear hp ht hl
  unfold finE
  cases hr : rightC k
  · rw [if_pos (Or.inl rfl)]
    rw [hr] at HR
    go_enter Tryz.func85, Tryz.ntmps85
    go_wp2_with (go_at_call 107; refine (HR.out _).mono ?_; rintro e1 w1 ⟨rfl, rfl⟩)
    go_ret2
    exact ⟨rfl, Only.refl _ _⟩
  · rw [hr] at HR
    by_cases h1 : z < 0
    · rw [if_pos (.inr h1)]
      have d1 : decide (z < 0) = true := decide_eq_true h1
      go_enter Tryz.func85, Tryz.ntmps85
      go_wp2_with (go_at_call 107; refine (HR.out _).mono ?_; rintro e1 w1 ⟨rfl, rfl⟩)
      go_ret2
      exact ⟨rfl, Only.refl _ _⟩
    · have d1 : decide (z < 0) = false := decide_eq_false h1
      rw [if_neg (by simp [h1])]
      go_enter Tryz.func85, Tryz.ntmps85
      go_wp2_with (first
        | (go_at_call 107; refine (HR.out _).mono ?_; rintro e1 w1 ⟨rfl, rfl⟩)
        | (go_at_call 108; refine (HT.out _).mono ?_; rintro e2 w2 ⟨rfl, k2⟩)
        | (go_at_call 43; refine (HP.out _).mono ?_; rintro e3 w3 ⟨rfl, k3⟩))
      go_ret2
      exact ⟨rfl, k2.trans k3⟩
set_option maxRecDepth 100000 in
theorem record_any {w : World} (s : ByteArray) (hs : s.size ≤ 1000000000) : Calls Tryz.prog 69 #[.string s] w fun e w' => e = .returned (.tuple #[.string (baL (putF (1 :: s.data.toList)).1), .int .i64 (putF (1 :: s.data.toList)).2]) ∧ Only [] w w' := by
  have hp := fun W => putE_any (w := W) (baL [1] ++ s)
  have e : (baL [1] ++ s).data.toList = 1 :: s.data.toList := by rw [ByteArray.data_append]; simp [baL]
  rw [e] at hp
  have hp : ∀ W, Calls Tryz.prog 43 #[.string (⟨#[1]⟩ ++ s)] W fun e w' => e = .returned (.tuple #[.string (baL (putF (1 :: s.data.toList)).1), .int .i64 (putF (1 :: s.data.toList)).2]) ∧ Only [] W w' := hp
  have HP := Lib.hid hp
  clear hp e
  go_enter Tryz.func69, Tryz.ntmps69
  go_wp2_with (go_at_call 43; refine (HP.out _).mono ?_; rintro e3 w3 ⟨rfl, k3⟩)
  go_ret2
  exact ⟨rfl, k3⟩
set_option maxRecDepth 100000 in
theorem croom_any {w : World} (z u : Int) (hz : z ≤ 1000000000) (hu : u ≤ 1000000000) : Calls Tryz.prog 38 #[.int .i64 z, .int .i64 u] w fun e w' => e = .returned (.int .i64 (roomC z u)) ∧ w' = w := by
  unfold roomC
  by_cases h1 : z < 0
  · rw [if_pos (.inl h1)]
    have d1 : decide (z < 0) = true := decide_eq_true h1
    go_enter Tryz.func38, Tryz.ntmps38
    go_wp2
    go_ret
    exact ⟨rfl, rfl⟩
  have d1 : decide (z < 0) = false := decide_eq_false h1
  by_cases h2 : u < 0
  · rw [if_pos (.inr (.inl h2))]
    have d2 : decide (u < 0) = true := decide_eq_true h2
    go_enter Tryz.func38, Tryz.ntmps38
    go_wp2
    go_ret
    exact ⟨rfl, rfl⟩
  have d2 : decide (u < 0) = false := decide_eq_false h2
  by_cases h3 : z < u
  · rw [if_pos (.inr (.inr h3))]
    have d3 : decide (u > z) = true := decide_eq_true h3
    go_enter Tryz.func38, Tryz.ntmps38
    go_wp2
    go_ret
    exact ⟨rfl, rfl⟩
  have d3 : decide (u > z) = false := decide_eq_false h3
  rw [if_neg (by simp [h1, h2, h3])]
  have e1 := IntWalk.i64_in (z - u) ⟨by omega, by omega⟩
  have e2 := IntWalk.i64_in (z - u - 12) ⟨by omega, by omega⟩
  have e3 := IntWalk.i64_in (z - u - 12 - 1) ⟨by omega, by omega⟩
  have e4 : z - u - 13 = z - u - 12 - 1 := by omega
  rw [e4]
  clear e4
  go_enter Tryz.func38, Tryz.ntmps38
  go_wp2
  all_goals go_ret
  all_goals exact ⟨by first | rfl | (congr 1; omega) | congr 1, rfl⟩
end Go.Proofs.YtfjkjndpndjfpaaGreatDoor
/- Contracts: a chunk's begin is read (chunk.begin). -/
set_option linter.unusedVariables false
set_option linter.unusedSimpArgs false
namespace Go.Proofs.YtfjkjndpndjfpaaGreatDoor
open Go Go.RowKit Go.Sort
def scanV (v : Value) (x : ScanR) : Value := .agg #[.int .i64 x.number, .int .i64 x.size, v, .int .i64 x.good, .bool x.done]
def beginV (o : Option ScanR) : Value :=
  match o with
  | some x => .tuple #[scanV (.slice none 0 0) x, .bool true]
  | none => .tuple #[scanV (.slice none 0 0) .zero, .bool false]
theorem readF_n {b : ByteArray} {n : Nat} (h : (readF b).2.1 = n) : n ≤ b.size := by
  subst h
  unfold readF
  split
  · exact Nat.zero_le _
  split
  · exact Nat.zero_le _
  split
  · exact Nat.zero_le _
  split
  · exact Nat.zero_le _
  split
  · exact Nat.zero_le _
  · dsimp only; omega
set_option maxRecDepth 100000 in
set_option maxHeartbeats 4000000 in
theorem begin_any {w : World} (b : ByteArray) (hb : b.size ≤ 1000000) : Calls Tryz.prog 91 #[.string b] w fun e w' => e = .returned (beginV (beginC b.data.toList)) ∧ Only [] w w' := by
  have hF := fun W => ffirst_any (w := W) b hb
  have hnb : (firstF b.data.toList).2.1 ≤ b.size := by
    have := readF_n (b := b) rfl
    rw [readF_first] at this
    exact this
  rw [readF_first] at hF
  have hR : ∃ o, beginC b.data.toList = o := ⟨_, rfl⟩
  obtain ⟨o, hR⟩ := hR
  rw [hR]
  unfold beginC at hR
  obtain ⟨⟨B, n, e⟩, hf⟩ : ∃ f, firstF b.data.toList = f := ⟨_, rfl⟩
  rw [hf] at hR hF hnb
  dsimp only at hR hF hnb
  have hT := fun W => two_any (w := W) 0 0
  have s16 : (baL (i64B 0 ++ i64B 0)).size = 16 := by rw [baL_size]; simp [i64B_len]
  obtain ⟨t, ht⟩ : ∃ t, baL (i64B 0 ++ i64B 0) = t := ⟨_, rfl⟩
  rw [ht] at hT s16
  have HF := Lib.hid hF
  have HT := Lib.hid hT
  have hbl := Blk.new w 92 #[.int .i64 0, .int .i64 0, .slice none 0 0, .int .i64 0, .bool false]
  have hBs : (baL B).size = B.length := baL_size B
  obtain ⟨B', hB'⟩ : ∃ B', baL B = B' := ⟨_, rfl⟩
  rw [hB'] at HF hBs
  clear hF hT ht hf
  by_cases he : e = 0
  · by_cases hl : B.length = 21
    · rw [if_neg (by simp [he, hl])] at hR
      subst he
      rw [hl] at hBs
      have e3 : ofBe (((B'.extract 5 21).extract 8 16).data.toList.take 8) = ofBe ((B.drop 13).take 8) := by
        rw [← hB']
        simp [baL, List.drop_take, List.take_take]
      have e2 : ofBe ((B'.extract 5 21).data.toList.take 8) = ofBe ((B.drop 5).take 8) := by
        rw [← hB']
        simp [baL, List.drop_take, List.take_take]
      have hx : (B'.extract 5 21).size = 16 := by rw [ByteArray.size_extract]; omega
      have hy : ((B'.extract 5 21).extract 8 16).size = 8 := by rw [ByteArray.size_extract]; omega
      obtain ⟨x, hx0⟩ : ∃ x, B'.extract 5 21 = x := ⟨_, rfl⟩
      rw [hx0] at e2 e3 hx hy
      rw [← e2, ← e3] at hR
      obtain ⟨k, hk0⟩ : ∃ k, i64of (ofBe (x.data.toList.take 8)) = k := ⟨_, rfl⟩
      obtain ⟨z, hz0⟩ : ∃ z, i64of (ofBe ((x.extract 8 16).data.toList.take 8)) = z := ⟨_, rfl⟩
      rw [hk0, hz0] at hR
      have H1 : ∀ (a W : World) (ib : Nat), InAt a W ib x 0 → Calls Tryz.prog 67 #[.pointer (some ⟨ib, 0, none⟩)] W fun e w' => e = .returned (.int .i64 k) ∧ InAt a w' ib (x.extract 8 16) 0 := by
        intro a W ib h
        have := ii64_any h (by omega) (by omega)
        rw [hk0, hx] at this
        exact this
      have H2 : ∀ (a W : World) (ib : Nat), InAt a W ib (x.extract 8 16) 0 → Calls Tryz.prog 67 #[.pointer (some ⟨ib, 0, none⟩)] W fun e w' => e = .returned (.int .i64 z) ∧ Only [] a w' := by
        intro a W ib h
        have := ii64_any h (by omega) (by omega)
        rw [hz0] at this
        exact this.mono (fun e w' q => ⟨q.1, q.2.only⟩)
      have HS := Lib.hid (fun W => start_any (w := W) k z)
      have HN := Lib.hid (fun W => inew_any (w := W) (Only.refl [] W) x (by omega))
      have H1 := Lib.hid H1
      have H2 := Lib.hid H2
      have HX := Lib.hid hx0
      have HB := Lib.hid hbl
      clear hk0 hz0 hB' e2 e3 hx hy hbl
      obtain ⟨⟨st, er⟩, hst⟩ : ∃ q, startE k z = q := ⟨_, rfl⟩
      rw [hst] at HS hR
      dsimp only at HS hR
      have hdec := toList_decJ (baL st) (b.extract 0 n)
      have hcmp : baL st = b.extract 0 n ↔ st = b.data.toList.take n := by
        constructor
        · intro h
          have := congrArg (fun x : ByteArray => x.data.toList) h
          simpa [bts_baL] using this
        · intro h
          exact bts_inj (by rw [bts_baL, ext_list]; exact h)
      clear hst
      have H1 := Lib.hid H1.out
      by_cases her : er = 0
      · subst her
        by_cases hq : st = b.data.toList.take n
        · rw [if_neg (by simp [hq])] at hR
          rw [decide_eq_true (hcmp.2 hq)] at hdec
          have HR := Lib.hid hR
          clear hR hq hcmp
          go_enter Tryz.func91, Tryz.ntmps91
          go_wp2_with (first
            | (go_at_call 92; refine (HF.out _).mono ?_; rintro e1 w1 ⟨rfl, k1⟩)
            | (go_at_call 108; refine (HT.out _).mono ?_; rintro e2 w2 ⟨rfl, k2⟩)
            | (go_at_call 66; (try rw [hBs]); (try rw [HX.out]); have hh := HN.out; clear HN; refine (hh _).mono ?_; clear hh; rintro e3 w3 ⟨ib, rfl, h3⟩; have HA := Lib.hid (H1.out _ _ _ h3); clear H1 h3)
            | (go_at_call 67; have hh := HA.out; clear HA; refine hh.mono ?_; clear hh; rintro e4 w4 ⟨rfl, h4⟩; have HA2 := Lib.hid (H2.out _ _ _ h4); clear H2 h4)
            | (go_at_call 67; have hh := HA2.out; clear HA2; refine hh.mono ?_; clear hh; rintro e5 w5 ⟨rfl, k5⟩; have hg5 := Lib.hid (k5.blk (k2.blk (k1.blk HB.out (by simp)) (by simp)) (by simp)); have k5' := (((Only.refl [] w).alloc _).trans k1).trans (k2.trans k5); have hlt := hg5.out.lt)
            | (go_at_call 83; have hh := HS.out; clear HS; refine (hh _).mono ?_; clear hh; rintro e6 w6 ⟨rfl, k6⟩; have hk := (((Only.refl [] w5).alloc _).trans k6).blk hg5.out (by simp); have hf := hk.free; have hc := hk.cell; have k7 := (k5'.alloc (.cells #[.int .i64 k, .int .i64 z, .slice none 0 0, .int .i64 n, .bool false] 92)).trans k6; have hm := (k6.blk (Blk.new w5 92 #[.int .i64 k, .int .i64 z, .slice none 0 0, .int .i64 n, .bool false]) (by simp)).cell; have hne : w.heap.size ≠ w5.heap.size := by omega))
          refine bodyPost_ret (v := .tuple #[.agg #[.int .i64 k, .int .i64 z, .slice none 0 0, .int .i64 n, .bool false], .bool true]) (by simp [results, Tryz.results91, go_sem, hc]) rfl ⟨by rw [← HR.out]; rfl, ?_⟩
          iterate 5 (refine Only.setCell ?_ (.inr (Nat.le_refl _)) _)
          exact k7
        · rw [if_pos (.inr hq)] at hR
          rw [decide_eq_false (fun h => hq (hcmp.1 h))] at hdec
          have HR := Lib.hid hR
          clear hR hq hcmp
          go_enter Tryz.func91, Tryz.ntmps91
          go_wp2_with (first
            | (go_at_call 92; refine (HF.out _).mono ?_; rintro e1 w1 ⟨rfl, k1⟩)
            | (go_at_call 108; refine (HT.out _).mono ?_; rintro e2 w2 ⟨rfl, k2⟩)
            | (go_at_call 66; (try rw [hBs]); (try rw [HX.out]); have hh := HN.out; clear HN; refine (hh _).mono ?_; clear hh; rintro e3 w3 ⟨ib, rfl, h3⟩; have HA := Lib.hid (H1.out _ _ _ h3); clear H1 h3)
            | (go_at_call 67; have hh := HA.out; clear HA; refine hh.mono ?_; clear hh; rintro e4 w4 ⟨rfl, h4⟩; have HA2 := Lib.hid (H2.out _ _ _ h4); clear H2 h4)
            | (go_at_call 67; have hh := HA2.out; clear HA2; refine hh.mono ?_; clear hh; rintro e5 w5 ⟨rfl, k5⟩; have hg5 := Lib.hid (k5.blk (k2.blk (k1.blk HB.out (by simp)) (by simp)) (by simp)); have k5' := (((Only.refl [] w).alloc _).trans k1).trans (k2.trans k5); have hlt := hg5.out.lt)
            | (go_at_call 83; have hh := HS.out; clear HS; refine (hh _).mono ?_; clear hh; rintro e6 w6 ⟨rfl, k6⟩; have hk := (((Only.refl [] w5).alloc _).trans k6).blk hg5.out (by simp); have hf := hk.free; have hc := hk.cell; have k7 := (k5'.alloc (.cells #[.int .i64 k, .int .i64 z, .slice none 0 0, .int .i64 n, .bool false] 92)).trans k6; have hm := (k6.blk (Blk.new w5 92 #[.int .i64 k, .int .i64 z, .slice none 0 0, .int .i64 n, .bool false]) (by simp)).cell; have hne : w.heap.size ≠ w5.heap.size := by omega))
          refine bodyPost_ret (v := .tuple #[.agg #[.int .i64 0, .int .i64 0, .slice none 0 0, .int .i64 0, .bool false], .bool false]) (by simp [results, Tryz.results91, go_sem, hc]) rfl ⟨by rw [← HR.out]; rfl, ?_⟩
          iterate 5 (refine Only.setCell ?_ (.inr (Nat.le_refl _)) _)
          exact k7
      · rw [if_pos (.inl her)] at hR
        have HR := Lib.hid hR
        clear hR hcmp hdec
        go_enter Tryz.func91, Tryz.ntmps91
        go_wp2_with (first
          | (go_at_call 92; refine (HF.out _).mono ?_; rintro e1 w1 ⟨rfl, k1⟩)
          | (go_at_call 108; refine (HT.out _).mono ?_; rintro e2 w2 ⟨rfl, k2⟩)
          | (go_at_call 66; (try rw [hBs]); (try rw [HX.out]); have hh := HN.out; clear HN; refine (hh _).mono ?_; clear hh; rintro e3 w3 ⟨ib, rfl, h3⟩; have HA := Lib.hid (H1.out _ _ _ h3); clear H1 h3)
          | (go_at_call 67; have hh := HA.out; clear HA; refine hh.mono ?_; clear hh; rintro e4 w4 ⟨rfl, h4⟩; have HA2 := Lib.hid (H2.out _ _ _ h4); clear H2 h4)
          | (go_at_call 67; have hh := HA2.out; clear HA2; refine hh.mono ?_; clear hh; rintro e5 w5 ⟨rfl, k5⟩; have hg5 := Lib.hid (k5.blk (k2.blk (k1.blk HB.out (by simp)) (by simp)) (by simp)); have k5' := (((Only.refl [] w).alloc _).trans k1).trans (k2.trans k5); have hlt := hg5.out.lt)
          | (go_at_call 83; have hh := HS.out; clear HS; refine (hh _).mono ?_; clear hh; rintro e6 w6 ⟨rfl, k6⟩; have hk := (((Only.refl [] w5).alloc _).trans k6).blk hg5.out (by simp); have hf := hk.free; have hc := hk.cell; have k7 := (k5'.alloc (.cells #[.int .i64 k, .int .i64 z, .slice none 0 0, .int .i64 n, .bool false] 92)).trans k6; have hm := (k6.blk (Blk.new w5 92 #[.int .i64 k, .int .i64 z, .slice none 0 0, .int .i64 n, .bool false]) (by simp)).cell; have hne : w.heap.size ≠ w5.heap.size := by omega))
        refine bodyPost_ret (v := .tuple #[.agg #[.int .i64 0, .int .i64 0, .slice none 0 0, .int .i64 0, .bool false], .bool false]) (by simp [results, Tryz.results91, go_sem, hc]) rfl ⟨by rw [← HR.out]; rfl, ?_⟩
        iterate 5 (refine Only.setCell ?_ (.inr (Nat.le_refl _)) _)
        exact k7
    · rw [if_pos (.inr hl)] at hR
      subst he
      have HR := Lib.hid hR
      have d1 : ¬ (B'.size : Int) = 21 := by omega
      have d2 : ((B'.size : Int) != 21) = true := by simpa using d1
      have HB := Lib.hid hbl
      clear hR hB' hbl hBs hnb hl
      go_enter Tryz.func91, Tryz.ntmps91
      go_wp2_with (first
        | (go_at_call 92; refine (HF.out _).mono ?_; rintro e1 w1 ⟨rfl, k1⟩)
        | (go_at_call 108; refine (HT.out _).mono ?_; rintro e2 w2 ⟨rfl, k2⟩; have hk := k2.blk (k1.blk HB.out (by simp)) (by simp); have hf := hk.free; have hc := hk.cell; have hk := Lib.hid hk))
      refine bodyPost_ret (v := .tuple #[.agg #[.int .i64 0, .int .i64 0, .slice none 0 0, .int .i64 0, .bool false], .bool false]) (by simp [results, Tryz.results91, go_sem, hc]) rfl ⟨by rw [← HR.out]; rfl, ?_⟩
      iterate 5 (refine Only.setCell ?_ (.inr (Nat.le_refl _)) _)
      exact (((Only.refl [] w).alloc _).trans k1).trans k2
  · rw [if_pos (.inl he)] at hR
    have HR := Lib.hid hR
    have d1 : decide (e = 0) = false := decide_eq_false he
    have HB := Lib.hid hbl
    clear hR hB' hbl hBs hnb
    go_enter Tryz.func91, Tryz.ntmps91
    go_wp2_with (go_at_call 92; refine (HF.out _).mono ?_; rintro e1 w1 ⟨rfl, k1⟩; have hk := k1.blk HB.out (by simp); have hf := hk.free; have hc := hk.cell; have hk := Lib.hid hk)
    refine bodyPost_ret (v := .tuple #[.agg #[.int .i64 0, .int .i64 0, .slice none 0 0, .int .i64 0, .bool false], .bool false]) (by simp [results, Tryz.results91, go_sem, hc]) rfl ⟨by rw [← HR.out]; rfl, ?_⟩
    iterate 5 (refine Only.setCell ?_ (.inr (Nat.le_refl _)) _)
    exact ((Only.refl [] w).alloc _).trans k1
end Go.Proofs.YtfjkjndpndjfpaaGreatDoor
