/- What is proved: fnScripts_card, without further conditions; this text holds part 2 of 4 of its proof. -/
import Derived.WalkKit
import Derived.WalkSpells
import Derived.WalkLawsBesides
import Derived.Lib.LaidTab
import Derived.Lib.ItoaNum
import Derived.Lib.AppendIntMem
import Derived.Shelf.Strings.Builder1
import Derived.Shelf.Strings.Builder2
import Derived.Shelf.Strings.OnBuilder
import Derived.Shelf.Strings.BuilderF
import Derived.Shelf.Strings.BuilderK
import Derived.Shelf.Strings.Builder2Cap
import Derived.Shelf.Strconv.Itoa0
import Derived.Shelf.Strconv.Itoa1
import Derived.Shelf.LaysM
import Derived.Shelf.Strconv.Itoa2
import Derived.Shelf.Strconv.Itoa3
import Derived.Shelf.Strconv.Itoa4
import Derived.Shelf.Strconv.ParseIntEmpty
import Derived.Shelf.Strconv.Clone
import Derived.Shelf.Strconv.SyntaxError
import Derived.Shelf.LaysC
import Derived.Shelf.Strconv.ToError
import Derived.Shelf.Strconv.Lower
import Derived.Shelf.Strconv.ParseUint10
import Derived.Shelf.Strconv.ParseUint10Empty
import Derived.Shelf.Strconv.ParseUint10Any
import Derived.Shelf.Strconv.ParseInt10
import Derived.Shelf.Strconv.RangeError
import Derived.Shelf.Strconv.ToErrorRange
import Derived.Shelf.Strconv.ParseUintEmpty
import Derived.Shelf.Strconv.ParseUint10b64
import Derived.Shelf.Strconv.ParseUint10b32
import Derived.Shelf.Strconv.ParseUint10b16
import Derived.Shelf.Strconv.ParseUint10b8
import Derived.Shelf.Strconv.ParseUint10At
import Derived.Shelf.Strconv.ParseInt10At64
import Derived.Shelf.Strconv.ParseInt10At32
import Derived.Shelf.Strconv.ParseInt10At16
import Derived.Shelf.Strconv.ParseInt10At8
import Derived.Shelf.Strconv.ParseInt10All
import Derived.Shelf.Strconv.ParseIntPublic10
import Derived.Shelf.Strconv.ErrVarParseInt
import Derived.Shelf.Strings.Search1
import Derived.Shelf.Strings.Search2
import Derived.Shelf.Strings.Search3
import Derived.Shelf.Strings.Cut
import Derived.Shelf.Strings.Count
import Derived.Shelf.Strings.Shaped
import Derived.Shelf.Strings.Prefix
import Derived.Shelf.Strings.Split
import Derived.Shelf.Unicode.DecodeSlow
import Derived.Shelf.Unicode.DecodeAny
import Derived.Shelf.Strings.BuilderCap
import Derived.Test.YtgklofginkafgaaGreatDoorProg
import Derived.Below
import Derived.Deep.Draws
import Derived.Deep.AppendLies
import Derived.Maps.AppendAt
import Derived.OwnWalk
import Derived.Laws.BytesArg
import Derived.Laws.MakeOwn
import Derived.Laws.OwnMore
import Derived.Deep.OwnRows
import Derived.Tactics
import Derived.Lib.ConvBytes
import Derived.Laws.Slices
import Derived.KernelRfl
import Derived.RowKit3
import Derived.Deep.LoopGhost
import Derived.Deep.QuietTactic
import Derived.BigQuiet
import Derived.WideLaws
import Derived.Deep.DeepCutAuto
import Derived.Deep.CutBlock
import Derived.Deep.RegionHeld3
import Derived.Laws.Rows
import Derived.Lib.AppendStr
import Derived.ArgAppend
import Derived.Laws.IdiomCopy
import Derived.OrdersHeld
import Derived.Laws.BitsLemmas
import Derived.RowKit
import Derived.Test.YtgklofginkafgaaGreatDoorQFnScripts0
section
namespace Go.Proofs.YtgklofginkafgaaGreatDoorY
open Go.RowKit
theorem var_below {P : Program} {w w' : World} {n : String} {cs : Array Value} (h : Below w.heap.size w w') (hv : w.var? P n = some cs) : w'.var? P n = some cs := by
 unfold World.var? at hv ⊢
 cases hg : P.globalNamed n with
 | none => rw [hg] at hv; cases hv
 | some g =>
  rw [hg] at hv
  simp only [Option.bind_some] at hv ⊢
  have hlt : g < w.heap.size := by
   rcases Nat.lt_or_ge g w.heap.size with h | h
   ·exact h
   ·rw [Array.getElem?_eq_none h] at hv; cases hv
  rw [h.block g hlt]
  exact hv
end Go.Proofs.YtgklofginkafgaaGreatDoorY
end
section
namespace Go.Proofs
open Go.Shelf
def Tryz.lays156_ren : Go.Shelf.Ren := ⟨fun | 156 => 61 | 165 => 80 | 166 => 81 | 169 => 82 | 240 => 95 | 241 => 96 | 276 => 108 | 277 => 109 | n => n, fun | 31 => 84 | 9 => 9 | 3 => 3 | 4 => 4 | 0 => 0 | 20 => 20 | 72 => 98 | 76 => 102 | 70 => 96 | 37 => 22 | 75 => 101 | 127 => 112 | 164 => 122 | 5 => 5 | 80 => 104 | n => n, fun | n => n⟩
theorem Tryz.lays156 : Go.Proofs.Lays.n156 Tryz.prog Tryz.lays156_ren := {
 mixed := by kernel_rfl
 f156 := Tryz.func61.trans (congrArg some (by kernel_rfl))
 f165 := Tryz.func80.trans (congrArg some (by kernel_rfl))
 f166 := Tryz.func81.trans (congrArg some (by kernel_rfl))
 f169 := Tryz.func82.trans (congrArg some (by kernel_rfl))
 f240 := Tryz.func95.trans (congrArg some (by kernel_rfl))
 f241 := Tryz.func96.trans (congrArg some (by kernel_rfl))
 f276 := Tryz.func108.trans (congrArg some (by kernel_rfl))
 f277 := Tryz.func109.trans (congrArg some (by kernel_rfl))
 t0 := Tryz.underlying0
 a0 := Tryz.isAgg0
 z0 := Tryz.sizeOf0
 v0 := Tryz.zeroValue0
 t3 := Tryz.underlying3
 a3 := Tryz.isAgg3
 z3 := Tryz.sizeOf3
 v3 := Tryz.zeroValue3
 t4 := Tryz.underlying4
 a4 := Tryz.isAgg4
 z4 := Tryz.sizeOf4
 v4 := Tryz.zeroValue4
 t9 := Tryz.underlying9
 a9 := Tryz.isAgg9
 z9 := Tryz.sizeOf9
 v9 := Tryz.zeroValue9
 t20 := Tryz.underlying20
 a20 := Tryz.isAgg20
 z20 := Tryz.sizeOf20
 v20 := Tryz.zeroValue20
 t31 := Tryz.underlying84
 a31 := Tryz.isAgg84
 z31 := Tryz.sizeOf84
 v31 := Tryz.zeroValue84
 t37 := Tryz.underlying22
 a37 := Tryz.isAgg22
 z37 := Tryz.sizeOf22
 v37 := Tryz.zeroValue22
 t70 := Tryz.underlying96
 a70 := Tryz.isAgg96
 z70 := Tryz.sizeOf96
 v70 := Tryz.zeroValue96
 t72 := Tryz.underlying98
 a72 := Tryz.isAgg98
 z72 := Tryz.sizeOf98
 v72 := Tryz.zeroValue98
 t75 := Tryz.underlying101
 a75 := Tryz.isAgg101
 z75 := Tryz.sizeOf101
 v75 := Tryz.zeroValue101
 t76 := Tryz.underlying102
 a76 := Tryz.isAgg102
 z76 := Tryz.sizeOf102
 v76 := Tryz.zeroValue102
 t127 := Tryz.underlying112
 a127 := Tryz.isAgg112
 z127 := Tryz.sizeOf112
 v127 := Tryz.zeroValue112
 t164 := Tryz.underlying122
 a164 := Tryz.isAgg122
 z164 := Tryz.sizeOf122
 v164 := Tryz.zeroValue122 }
theorem Tryz.Builder_Extra_156 : Builder.Extra Tryz.prog Tryz.lays156_ren := {
 sizeBuilder := by kernel_rfl
 liesBuilder := by kernel_rfl
 t5 := Tryz.underlying5
 a5 := Tryz.isAgg5
 z5 := Tryz.sizeOf5
 v5 := Tryz.zeroValue5
 infoByte := by kernel_rfl
 cellsByte := by kernel_rfl
 sizeByte := by kernel_rfl
 neB5 := by decide }
open Go.RowKit in
theorem Tryz.strings_Join_none (a : Option Addr) (c : Nat) (sep : ByteArray) (w : World) :
  Calls Tryz.prog 61 #[.slice a 0 c, .string sep] w fun e w' => e = .returned (.string ⟨#[]⟩) ∧ w' = w := Any.strings_Join_none Tryz.lays156 Tryz.Builder_Extra_156 a c sep w
open Go.RowKit in
theorem Tryz.strings_Join (bk o c : Nat) (xs : List ByteArray) (sep : ByteArray) (w : World) (hcells : ∀ (j : Nat) x, xs[j]? = some x → w.cell? ⟨bk, o + j, none⟩ = some (.string x)) (hbk : bk < w.heap.size) (hN : xs.length ≤ 140737488355328) (hcap : xs.length ≤ c) (hlen : (Lib.join (xs.map (·.data.toList)) sep.data.toList).length ≤ 140737488355328) :
  Calls Tryz.prog 61 #[.slice (some ⟨bk, o, none⟩) xs.length c, .string sep] w fun e w' => e = .returned (.string ⟨(Lib.join (xs.map (·.data.toList)) sep.data.toList).toArray⟩) ∧ Below w.heap.size w w' := Any.strings_Join Tryz.lays156 Tryz.Builder_Extra_156 bk o c xs sep w hcells hbk hN hcap hlen
def Tryz.laysM173_ren : Go.Shelf.Ren := ⟨fun | 173 => 78 | 246 => 93 | 283 => 104 | 284 => 105 | 285 => 106 | 286 => 107 | 129 => 124 | 317 => 123 | 318 => 125 | 319 => 126 | 320 => 127 | 337 => 136 | 338 => 137 | n => n, fun | 2 => 2 | 3 => 3 | 9 => 9 | 4 => 4 | 171 => 117 | 0 => 0 | 53 => 78 | 37 => 22 | 5 => 5 | 173 => 120 | 212 => 138 | 51 => 139 | 20 => 20 | 213 => 140 | 46 => 111 | 232 => 159 | 233 => 160 | n => n, fun | 17 => 1 | 18 => 6 | 19 => 7 | n => n⟩
theorem Tryz.laysM173 : Go.Proofs.LaysM.n173 Tryz.prog Tryz.laysM173_ren := {
 mixed := by kernel_rfl
 f129 := Tryz.func124.trans (congrArg some (by kernel_rfl))
 f173 := Tryz.func78.trans (congrArg some (by kernel_rfl))
 f246 := Tryz.func93.trans (congrArg some (by kernel_rfl))
 f283 := Tryz.func104.trans (congrArg some (by kernel_rfl))
 f284 := Tryz.func105.trans (congrArg some (by kernel_rfl))
 f285 := Tryz.func106.trans (congrArg some (by kernel_rfl))
 f286 := Tryz.func107.trans (congrArg some (by kernel_rfl))
 f317 := Tryz.func123.trans (congrArg some (by kernel_rfl))
 f318 := Tryz.func125.trans (congrArg some (by kernel_rfl))
 f319 := Tryz.func126.trans (congrArg some (by kernel_rfl))
 f320 := Tryz.func127.trans (congrArg some (by kernel_rfl))
 f337 := Tryz.func136.trans (congrArg some (by kernel_rfl))
 f338 := Tryz.func137.trans (congrArg some (by kernel_rfl))
 t0 := Tryz.underlying0
 a0 := Tryz.isAgg0
 z0 := Tryz.sizeOf0
 v0 := Tryz.zeroValue0
 t2 := Tryz.underlying2
 a2 := Tryz.isAgg2
 z2 := Tryz.sizeOf2
 v2 := Tryz.zeroValue2
 t3 := Tryz.underlying3
 a3 := Tryz.isAgg3
 z3 := Tryz.sizeOf3
 v3 := Tryz.zeroValue3
 t4 := Tryz.underlying4
 a4 := Tryz.isAgg4
 z4 := Tryz.sizeOf4
 v4 := Tryz.zeroValue4
 t5 := Tryz.underlying5
 a5 := Tryz.isAgg5
 z5 := Tryz.sizeOf5
 v5 := Tryz.zeroValue5
 t9 := Tryz.underlying9
 a9 := Tryz.isAgg9
 z9 := Tryz.sizeOf9
 v9 := Tryz.zeroValue9
 t20 := Tryz.underlying20
 a20 := Tryz.isAgg20
 z20 := Tryz.sizeOf20
 v20 := Tryz.zeroValue20
 t37 := Tryz.underlying22
 a37 := Tryz.isAgg22
 z37 := Tryz.sizeOf22
 v37 := Tryz.zeroValue22
 t46 := Tryz.underlying111
 a46 := Tryz.isAgg111
 z46 := Tryz.sizeOf111
 v46 := Tryz.zeroValue111
 t51 := Tryz.underlying139
 a51 := Tryz.isAgg139
 z51 := Tryz.sizeOf139
 v51 := Tryz.zeroValue139
 t53 := Tryz.underlying78
 a53 := Tryz.isAgg78
 z53 := Tryz.sizeOf78
 v53 := Tryz.zeroValue78
 t171 := Tryz.underlying117
 a171 := Tryz.isAgg117
 z171 := Tryz.sizeOf117
 v171 := Tryz.zeroValue117
 t173 := Tryz.underlying120
 a173 := Tryz.isAgg120
 z173 := Tryz.sizeOf120
 v173 := Tryz.zeroValue120
 t212 := Tryz.underlying138
 a212 := Tryz.isAgg138
 z212 := Tryz.sizeOf138
 v212 := Tryz.zeroValue138
 t213 := Tryz.underlying140
 a213 := Tryz.isAgg140
 z213 := Tryz.sizeOf140
 t232 := Tryz.underlying159
 a232 := Tryz.isAgg159
 z232 := Tryz.sizeOf159
 v232 := Tryz.zeroValue159
 t233 := Tryz.underlying160
 a233 := Tryz.isAgg160
 z233 := Tryz.sizeOf160
 v233 := Tryz.zeroValue160
 g17 := by kernel_rfl
 g18 := by kernel_rfl
 g19 := by kernel_rfl
 i0 := by kernel_rfl
 i2 := by kernel_rfl
 i3 := by kernel_rfl
 i4 := by kernel_rfl
 i5 := by kernel_rfl
 i9 := by kernel_rfl
 i20 := by kernel_rfl
 i37 := by kernel_rfl
 i46 := by kernel_rfl
 i51 := by kernel_rfl
 i53 := by kernel_rfl
 i171 := by kernel_rfl
 i173 := by kernel_rfl
 i212 := by kernel_rfl
 i232 := by kernel_rfl
 i233 := by kernel_rfl
 m17 := by kernel_rfl
 m18 := by kernel_rfl
 m19 := by kernel_rfl }
open Go.RowKit Go.Sort Go.Lib in
theorem Tryz.strconv_FormatInt_10 (n : Int) (h0 : -9223372036854775808 ≤ n) (h1 : n ≤ 9223372036854775807) (w : World) (htab : Lib.TabIs Tryz.prog w "internal/strconv.uint64pow10" .u64 Lib.pow10Tab) :
  Calls Tryz.prog 78 #[.int .i64 n, .int .i64 10] w fun e w' => e = .returned (.string ⟨(Lib.itoa n).toArray⟩) ∧ ∃ k os, w' = grow (w.drewN k) os := Any.strconv_FormatInt_10 Tryz.laysM173 n h0 h1 w htab
def Tryz.laysC174_ren : Go.Shelf.Ren := ⟨fun | 174 => 85 | 247 => 101 | 245 => 102 | 287 => 117 | 279 => 118 | 280 => 119 | 281 => 120 | 282 => 121 | 321 => 131 | 322 => 132 | 316 => 133 | 171 => 135 | 205 => 134 | 243 => 138 | 246 => 93 | 283 => 104 | 284 => 105 | 285 => 106 | 286 => 107 | 129 => 124 | 317 => 123 | 318 => 125 | 319 => 126 | 320 => 127 | 337 => 136 | 338 => 137 | n => n, fun | 9 => 9 | 3 => 3 | 2 => 2 | 75 => 101 | 85 => 106 | 4 => 4 | 167 => 130 | 5 => 5 | 53 => 78 | 175 => 131 | 46 => 111 | 168 => 133 | 37 => 22 | 0 => 0 | 210 => 149 | 21 => 21 | 127 => 112 | 145 => 158 | 143 => 156 | 171 => 117 | 173 => 120 | 212 => 138 | 51 => 139 | 20 => 20 | 213 => 140 | 232 => 159 | 233 => 160 | 80 => 104 | n => n, fun | 15 => 2 | 16 => 3 | 17 => 1 | 18 => 6 | 19 => 7 | n => n⟩
theorem Tryz.laysC174 : Go.Proofs.LaysC.n174 Tryz.prog Tryz.laysC174_ren := {
 mixed := by kernel_rfl
 f129 := Tryz.func124.trans (congrArg some (by kernel_rfl))
 f171 := Tryz.func135.trans (congrArg some (by kernel_rfl))
 f174 := Tryz.func85.trans (congrArg some (by kernel_rfl))
 f205 := Tryz.func134.trans (congrArg some (by kernel_rfl))
 f243 := Tryz.func138.trans (congrArg some (by kernel_rfl))
 f245 := Tryz.func102.trans (congrArg some (by kernel_rfl))
 f246 := Tryz.func93.trans (congrArg some (by kernel_rfl))
 f247 := Tryz.func101.trans (congrArg some (by kernel_rfl))
 f279 := Tryz.func118.trans (congrArg some (by kernel_rfl))
 f280 := Tryz.func119.trans (congrArg some (by kernel_rfl))
 f281 := Tryz.func120.trans (congrArg some (by kernel_rfl))
 f282 := Tryz.func121.trans (congrArg some (by kernel_rfl))
 f283 := Tryz.func104.trans (congrArg some (by kernel_rfl))
 f284 := Tryz.func105.trans (congrArg some (by kernel_rfl))
 f285 := Tryz.func106.trans (congrArg some (by kernel_rfl))
 f286 := Tryz.func107.trans (congrArg some (by kernel_rfl))
 f287 := Tryz.func117.trans (congrArg some (by kernel_rfl))
 f316 := Tryz.func133.trans (congrArg some (by kernel_rfl))
 f317 := Tryz.func123.trans (congrArg some (by kernel_rfl))
 f318 := Tryz.func125.trans (congrArg some (by kernel_rfl))
 f319 := Tryz.func126.trans (congrArg some (by kernel_rfl))
 f320 := Tryz.func127.trans (congrArg some (by kernel_rfl))
 f321 := Tryz.func131.trans (congrArg some (by kernel_rfl))
 f322 := Tryz.func132.trans (congrArg some (by kernel_rfl))
 f337 := Tryz.func136.trans (congrArg some (by kernel_rfl))
 f338 := Tryz.func137.trans (congrArg some (by kernel_rfl))
 t0 := Tryz.underlying0
 a0 := Tryz.isAgg0
 z0 := Tryz.sizeOf0
 v0 := Tryz.zeroValue0
 t2 := Tryz.underlying2
 a2 := Tryz.isAgg2
 z2 := Tryz.sizeOf2
 v2 := Tryz.zeroValue2
 t3 := Tryz.underlying3
 a3 := Tryz.isAgg3
 z3 := Tryz.sizeOf3
 v3 := Tryz.zeroValue3
 t4 := Tryz.underlying4
 a4 := Tryz.isAgg4
 z4 := Tryz.sizeOf4
 v4 := Tryz.zeroValue4
 t5 := Tryz.underlying5
 a5 := Tryz.isAgg5
 z5 := Tryz.sizeOf5
 v5 := Tryz.zeroValue5
 t9 := Tryz.underlying9
 a9 := Tryz.isAgg9
 z9 := Tryz.sizeOf9
 v9 := Tryz.zeroValue9
 t20 := Tryz.underlying20
 a20 := Tryz.isAgg20
 z20 := Tryz.sizeOf20
 v20 := Tryz.zeroValue20
 t21 := Tryz.underlying21
 a21 := Tryz.isAgg21
 z21 := Tryz.sizeOf21
 v21 := Tryz.zeroValue21
 t37 := Tryz.underlying22
 a37 := Tryz.isAgg22
 z37 := Tryz.sizeOf22
 v37 := Tryz.zeroValue22
 t46 := Tryz.underlying111
 a46 := Tryz.isAgg111
 z46 := Tryz.sizeOf111
 v46 := Tryz.zeroValue111
 t51 := Tryz.underlying139
 a51 := Tryz.isAgg139
 z51 := Tryz.sizeOf139
 v51 := Tryz.zeroValue139
 t53 := Tryz.underlying78
 a53 := Tryz.isAgg78
 z53 := Tryz.sizeOf78
 v53 := Tryz.zeroValue78
 t75 := Tryz.underlying101
 a75 := Tryz.isAgg101
 z75 := Tryz.sizeOf101
 v75 := Tryz.zeroValue101
 t85 := Tryz.underlying106
 a85 := Tryz.isAgg106
 z85 := Tryz.sizeOf106
 v85 := Tryz.zeroValue106
 t127 := Tryz.underlying112
 a127 := Tryz.isAgg112
 z127 := Tryz.sizeOf112
 v127 := Tryz.zeroValue112
 t143 := Tryz.underlying156
 a143 := Tryz.isAgg156
 z143 := Tryz.sizeOf156
 v143 := Tryz.zeroValue156
 t145 := Tryz.underlying158
 a145 := Tryz.isAgg158
 z145 := Tryz.sizeOf158
 v145 := Tryz.zeroValue158
 t167 := Tryz.underlying130
 a167 := Tryz.isAgg130
 z167 := Tryz.sizeOf130
 v167 := Tryz.zeroValue130
 t168 := Tryz.underlying133
 a168 := Tryz.isAgg133
 z168 := Tryz.sizeOf133
 v168 := Tryz.zeroValue133
 t171 := Tryz.underlying117
 a171 := Tryz.isAgg117
 z171 := Tryz.sizeOf117
 v171 := Tryz.zeroValue117
 t173 := Tryz.underlying120
 a173 := Tryz.isAgg120
 z173 := Tryz.sizeOf120
 v173 := Tryz.zeroValue120
 t175 := Tryz.underlying131
 a175 := Tryz.isAgg131
 z175 := Tryz.sizeOf131
 v175 := Tryz.zeroValue131
 t210 := Tryz.underlying149
 a210 := Tryz.isAgg149
 z210 := Tryz.sizeOf149
 v210 := Tryz.zeroValue149
 t212 := Tryz.underlying138
 a212 := Tryz.isAgg138
 z212 := Tryz.sizeOf138
 v212 := Tryz.zeroValue138
 t213 := Tryz.underlying140
 a213 := Tryz.isAgg140
 z213 := Tryz.sizeOf140
 t232 := Tryz.underlying159
 a232 := Tryz.isAgg159
 z232 := Tryz.sizeOf159
 v232 := Tryz.zeroValue159
 t233 := Tryz.underlying160
 a233 := Tryz.isAgg160
 z233 := Tryz.sizeOf160
 v233 := Tryz.zeroValue160
 g15 := by kernel_rfl
 g16 := by kernel_rfl
 g17 := by kernel_rfl
 g18 := by kernel_rfl
 g19 := by kernel_rfl
 t80 := Tryz.underlying104
 a80 := Tryz.isAgg104
 z80 := Tryz.sizeOf104
 v80 := Tryz.zeroValue104
 i0 := by kernel_rfl
 i2 := by kernel_rfl
 i3 := by kernel_rfl
 i4 := by kernel_rfl
 i5 := by kernel_rfl
 i9 := by kernel_rfl
 i20 := by kernel_rfl
 i21 := by kernel_rfl
 i37 := by kernel_rfl
 i46 := by kernel_rfl
 i51 := by kernel_rfl
 i53 := by kernel_rfl
 i75 := by kernel_rfl
 i80 := by kernel_rfl
 i85 := by kernel_rfl
 i127 := by kernel_rfl
 i143 := by kernel_rfl
 i145 := by kernel_rfl
 i167 := by kernel_rfl
 i168 := by kernel_rfl
 i171 := by kernel_rfl
 i173 := by kernel_rfl
 i175 := by kernel_rfl
 i210 := by kernel_rfl
 i212 := by kernel_rfl
 i232 := by kernel_rfl
 i233 := by kernel_rfl
 m15 := by kernel_rfl
 m16 := by kernel_rfl
 m17 := by kernel_rfl
 m18 := by kernel_rfl
 m19 := by kernel_rfl
 c0 := by kernel_rfl
 c2 := by kernel_rfl
 c3 := by kernel_rfl
 c4 := by kernel_rfl
 c5 := by kernel_rfl
 c9 := by kernel_rfl
 c20 := by kernel_rfl
 c21 := by kernel_rfl
 c37 := by kernel_rfl
 c46 := by kernel_rfl
 c51 := by kernel_rfl
 c53 := by kernel_rfl
 c75 := by kernel_rfl
 c80 := by kernel_rfl
 c85 := by kernel_rfl
 c127 := by kernel_rfl
 c143 := by kernel_rfl
 c145 := by kernel_rfl
 c167 := by kernel_rfl
 c168 := by kernel_rfl
 c171 := by kernel_rfl
 c173 := by kernel_rfl
 c175 := by kernel_rfl
 c210 := by kernel_rfl
 c212 := by kernel_rfl
 c213 := by kernel_rfl
 c232 := by kernel_rfl
 c233 := by kernel_rfl }
open Go.RowKit in
theorem Tryz.strconv_ParseInt_10_at64_ok (s : ByteArray) (hmax : s.size ≤ 9223372036854775806) (v : Int) (h : Lib.parseIntB 64 s.data.toList = .ok v) (w : World) :
  Calls Tryz.prog 85 #[.string s, .int .i64 10, .int .i64 64] w fun e w' => e = .returned (.tuple #[.int .i64 v, .nilIface]) ∧ (w' = w ∨ ∃ t, w' = Lib.bytesWorld w 5 t) := Any.strconv_ParseInt_10_at64_ok Tryz.laysC174 s hmax v h w
open Go.RowKit in
theorem Tryz.strconv_ParseInt_10_at64_syntax_var (s : ByteArray) (hlim : s.size ≤ 281474976710656) (h : Lib.parseIntB 64 s.data.toList = Lib.NumEnd.syntax) (tp : TypeId) (p : Value) (w : World) (hvar : w.var? Tryz.prog "strconv.ErrSyntax" = some #[.iface tp p]) :
  Calls Tryz.prog 85 #[.string s, .int .i64 10, .int .i64 64] w fun e w' => ∃ N, e = .returned (.tuple #[.int .i64 (0), .iface 133 (.pointer (some ⟨N, 0, none⟩))]) ∧ w.heap.size ≤ N ∧ w'.heap[N]? = some (.cells #[.string ⟨#[80, 97, 114, 115, 101, 73, 110, 116]⟩, .string s, .iface tp p] 149 (0, 0)) ∧ Below w.heap.size w w' := Any.strconv_ParseInt_10_at64_syntax_var Tryz.laysC174 s hlim h tp p w hvar
open Go.RowKit in
theorem Tryz.strconv_ParseInt_10_at64_range_var (s : ByteArray) (hlim : s.size ≤ 281474976710656) (h : Lib.parseIntB 64 s.data.toList = .range) (tp : TypeId) (p : Value) (w : World) (hvar : w.var? Tryz.prog "strconv.ErrRange" = some #[.iface tp p]) :
  Calls Tryz.prog 85 #[.string s, .int .i64 10, .int .i64 64] w fun e w' => ∃ N, e = .returned (.tuple #[.int .i64 (Lib.intSat 64 s.data.toList), .iface 133 (.pointer (some ⟨N, 0, none⟩))]) ∧ w.heap.size ≤ N ∧ w'.heap[N]? = some (.cells #[.string ⟨#[80, 97, 114, 115, 101, 73, 110, 116]⟩, .string s, .iface tp p] 149 (0, 0)) ∧ Below w.heap.size w w' := Any.strconv_ParseInt_10_at64_range_var Tryz.laysC174 s hlim h tp p w hvar
def Tryz.lays145_ren : Go.Shelf.Ren := ⟨fun | 145 => 63 | 220 => 84 | 219 => 100 | 217 => 113 | 225 => 114 | 224 => 115 | 267 => 116 | 266 => 129 | 314 => 130 | n => n, fun | 9 => 9 | 4 => 4 | 59 => 87 | 3 => 3 | 5 => 5 | 46 => 111 | 146 => 143 | 51 => 139 | n => n, fun | 1 => 0 | n => n⟩
theorem Tryz.lays145 : Go.Proofs.Lays.n145 Tryz.prog Tryz.lays145_ren := {
 mixed := by kernel_rfl
 f145 := Tryz.func63.trans (congrArg some (by kernel_rfl))
 f217 := Tryz.func113.trans (congrArg some (by kernel_rfl))
 f219 := Tryz.func100.trans (congrArg some (by kernel_rfl))
 f220 := Tryz.func84.trans (congrArg some (by kernel_rfl))
 f224 := Tryz.func115.trans (congrArg some (by kernel_rfl))
 f225 := Tryz.func114.trans (congrArg some (by kernel_rfl))
 f266 := Tryz.func129.trans (congrArg some (by kernel_rfl))
 f267 := Tryz.func116.trans (congrArg some (by kernel_rfl))
 f314 := Tryz.func130.trans (congrArg some (by kernel_rfl))
 t3 := Tryz.underlying3
 a3 := Tryz.isAgg3
 z3 := Tryz.sizeOf3
 v3 := Tryz.zeroValue3
 t4 := Tryz.underlying4
 a4 := Tryz.isAgg4
 z4 := Tryz.sizeOf4
 v4 := Tryz.zeroValue4
 t5 := Tryz.underlying5
 a5 := Tryz.isAgg5
 z5 := Tryz.sizeOf5
 v5 := Tryz.zeroValue5
 t9 := Tryz.underlying9
 a9 := Tryz.isAgg9
 z9 := Tryz.sizeOf9
 v9 := Tryz.zeroValue9
 t46 := Tryz.underlying111
 a46 := Tryz.isAgg111
 z46 := Tryz.sizeOf111
 v46 := Tryz.zeroValue111
 t51 := Tryz.underlying139
 a51 := Tryz.isAgg139
 z51 := Tryz.sizeOf139
 v51 := Tryz.zeroValue139
 t59 := Tryz.underlying87
 a59 := Tryz.isAgg87
 z59 := Tryz.sizeOf87
 v59 := Tryz.zeroValue87
 t146 := Tryz.underlying143
 a146 := Tryz.isAgg143
 z146 := Tryz.sizeOf143
 v146 := Tryz.zeroValue143
 g1 := by kernel_rfl }
open Go.RowKit Go.Lib in
theorem Tryz.strings_Cut (s sep : ByteArray) (m : Int) (w : World) (hs : s.size < 4294967281) (hm : w.cell? ⟨0, 0, none⟩ = some (.int .i64 m)) :
  Calls Tryz.prog 63 #[.string s, .string sep] w fun e w' => e = .returned (.tuple #[.string ⟨(Lib.cut s.data.toList sep.data.toList).1.toArray⟩, .string ⟨(Lib.cut s.data.toList sep.data.toList).2.1.toArray⟩, .bool (Lib.cut s.data.toList sep.data.toList).2.2]) ∧ ∃ n, w' = w.drewN n := Any.strings_Cut Tryz.lays145 s sep m w hs hm
def Tryz.lays101_ren : Go.Shelf.Ren := ⟨fun | 101 => 86 | 208 => 103 | 206 => 122 | n => n, fun | 9 => 9 | 4 => 4 | 3 => 3 | n => n, fun | n => n⟩
theorem Tryz.lays101 : Go.Proofs.Lays.n101 Tryz.prog Tryz.lays101_ren := {
 mixed := by kernel_rfl
 f101 := Tryz.func86.trans (congrArg some (by kernel_rfl))
 f206 := Tryz.func122.trans (congrArg some (by kernel_rfl))
 f208 := Tryz.func103.trans (congrArg some (by kernel_rfl))
 t3 := Tryz.underlying3
 a3 := Tryz.isAgg3
 z3 := Tryz.sizeOf3
 v3 := Tryz.zeroValue3
 t4 := Tryz.underlying4
 a4 := Tryz.isAgg4
 z4 := Tryz.sizeOf4
 v4 := Tryz.zeroValue4
 t9 := Tryz.underlying9
 a9 := Tryz.isAgg9
 z9 := Tryz.sizeOf9
 v9 := Tryz.zeroValue9 }
open Go.RowKit Go.Lib in
theorem Tryz.strings_TrimPrefix (s p : ByteArray) (w : World) :
  Calls Tryz.prog 86 #[.string s, .string p] w fun e w' => e = .returned (.string ⟨(Lib.trimPrefix s.data.toList p.data.toList).toArray⟩) ∧ w' = w := Any.strings_TrimPrefix Tryz.lays101 s p w
def Tryz.lays147_ren : Go.Shelf.Ren := ⟨fun | 147 => 62 | 221 => 83 | 268 => 97 | 138 => 98 | 143 => 99 | 195 => 110 | 197 => 111 | 218 => 112 | 219 => 100 | 260 => 128 | 217 => 113 | 225 => 114 | 224 => 115 | 267 => 116 | 266 => 129 | 314 => 130 | n => n, fun | 9 => 9 | 3 => 3 | 31 => 84 | 4 => 4 | 0 => 0 | 105 => 126 | 21 => 21 | 5 => 5 | 46 => 111 | 119 => 152 | 139 => 155 | 138 => 154 | 146 => 143 | 51 => 139 | n => n, fun | 1 => 0 | 3 => 4 | 4 => 5 | n => n⟩
theorem Tryz.lays147 : Go.Proofs.Lays.n147 Tryz.prog Tryz.lays147_ren := {
 mixed := by kernel_rfl
 f138 := Tryz.func98.trans (congrArg some (by kernel_rfl))
 f143 := Tryz.func99.trans (congrArg some (by kernel_rfl))
 f147 := Tryz.func62.trans (congrArg some (by kernel_rfl))
 f195 := Tryz.func110.trans (congrArg some (by kernel_rfl))
 f197 := Tryz.func111.trans (congrArg some (by kernel_rfl))
 f217 := Tryz.func113.trans (congrArg some (by kernel_rfl))
 f218 := Tryz.func112.trans (congrArg some (by kernel_rfl))
 f219 := Tryz.func100.trans (congrArg some (by kernel_rfl))
 f221 := Tryz.func83.trans (congrArg some (by kernel_rfl))
 f224 := Tryz.func115.trans (congrArg some (by kernel_rfl))
 f225 := Tryz.func114.trans (congrArg some (by kernel_rfl))
 f260 := Tryz.func128.trans (congrArg some (by kernel_rfl))
 f266 := Tryz.func129.trans (congrArg some (by kernel_rfl))
 f267 := Tryz.func116.trans (congrArg some (by kernel_rfl))
 f268 := Tryz.func97.trans (congrArg some (by kernel_rfl))
 f314 := Tryz.func130.trans (congrArg some (by kernel_rfl))
 t0 := Tryz.underlying0
 a0 := Tryz.isAgg0
 z0 := Tryz.sizeOf0
 v0 := Tryz.zeroValue0
 t3 := Tryz.underlying3
 a3 := Tryz.isAgg3
 z3 := Tryz.sizeOf3
 v3 := Tryz.zeroValue3
 t4 := Tryz.underlying4
 a4 := Tryz.isAgg4
 z4 := Tryz.sizeOf4
 v4 := Tryz.zeroValue4
 t5 := Tryz.underlying5
 a5 := Tryz.isAgg5
 z5 := Tryz.sizeOf5
 v5 := Tryz.zeroValue5
 t9 := Tryz.underlying9
 a9 := Tryz.isAgg9
 z9 := Tryz.sizeOf9
 v9 := Tryz.zeroValue9
 t21 := Tryz.underlying21
 a21 := Tryz.isAgg21
 z21 := Tryz.sizeOf21
 v21 := Tryz.zeroValue21
 t31 := Tryz.underlying84
 a31 := Tryz.isAgg84
 z31 := Tryz.sizeOf84
 v31 := Tryz.zeroValue84
 t46 := Tryz.underlying111
 a46 := Tryz.isAgg111
 z46 := Tryz.sizeOf111
 v46 := Tryz.zeroValue111
 t51 := Tryz.underlying139
 a51 := Tryz.isAgg139
 z51 := Tryz.sizeOf139
 v51 := Tryz.zeroValue139
 t105 := Tryz.underlying126
 a105 := Tryz.isAgg126
 z105 := Tryz.sizeOf126
 v105 := Tryz.zeroValue126
 t119 := Tryz.underlying152
 a119 := Tryz.isAgg152
 z119 := Tryz.sizeOf152
 t138 := Tryz.underlying154
 a138 := Tryz.isAgg154
 z138 := Tryz.sizeOf154
 v138 := Tryz.zeroValue154
 t139 := Tryz.underlying155
 a139 := Tryz.isAgg155
 z139 := Tryz.sizeOf155
 v139 := Tryz.zeroValue155
 t146 := Tryz.underlying143
 a146 := Tryz.isAgg143
 z146 := Tryz.sizeOf143
 v146 := Tryz.zeroValue143
 g1 := by kernel_rfl
 g3 := by kernel_rfl
 g4 := by kernel_rfl }
open Go.RowKit Go.Lib in
theorem Tryz.strings_SplitN (s sep : ByteArray) (n : Nat) (m : Int) (w : World) (hs : s.size < 4294967281) (hm : w.cell? ⟨0, 0, none⟩ = some (.int .i64 m)) (h1 : 1 ≤ sep.size) (hn : 1 ≤ n) (hn63 : n ≤ 9223372036854775807) :
  Calls Tryz.prog 62 #[.string s, .string sep, .int .i64 n] w fun e w' =>
   e = .returned (.slice (some ⟨w.heap.size, 0, none⟩) (Lib.splitB sep 0 (min n (s.size + 1) - 1) s).length (min n (s.size + 1))) ∧ w' = w.alloc (.cells (Lib.cellsOf (Lib.splitB sep 0 (min n (s.size + 1) - 1) s) (min n (s.size + 1))) 9) := Any.strings_SplitN Tryz.lays147 (by kernel_rfl) s sep n m w hs hm h1 hn hn63
end Go.Proofs
end
section
namespace Go.Proofs.YtgklofginkafgaaGreatDoor.PS
open Go.RowKit Go.Proofs.YtgklofginkafgaaGreatDoorW.PrintWords Go.Proofs.YtgklofginkafgaaGreatDoorW.PrintLast Go.Proofs.YtgklofginkafgaaGreatDoorW.PrintMore
theorem as_ {p : Prop} (h : p := by first | (with_reducible assumption) | assumption) : p := h
theorem ma_ {p : Prop} (h : p := by (try simp only [List.map_toArray, List.map_cons, List.map_nil]); first | done | rfl | (simp only [List.length_drop, List.length_take]; rfl)) : p := h
theorem rs_ {p : Prop} (h : p := by first | rfl | (simp; done) | (simp [*]; done)) : p := h
theorem dr_ {p : Prop} (h : p := by repeat (first | exact Drawn0.refl _ | apply Drawn0.step)) : p := h
theorem re_ {p : Prop} (h : p := by first | rfl | (simp [errW_none, errW_some] <;> rfl) | (simp [*, errW_none, errW_some] <;> rfl)) : p := h
theorem rn_ {p : Prop} (h : p := by first | exact Kd.R_nil _ _ _ _ _ | exact Kd.N_nil _ _ _ _ _ | exact Kd.V_nil _ _ _ _ _ | exact Kd.Q_nil _ _ _ _ _ | exact Kd.S_nil _ _ _ _ _) : p := h
theorem on_ {p : Prop} (h : p := by first | omega | exact Nat.le_refl _) : p := h
theorem bw_ {p : Prop} (h : p := by repeat (first | (with_reducible first | exact HB.out | apply below_alloc | apply pw_below_drewN | apply below_drew1 | refine below_set ?_ (Aside0.out (by assumption))) | exact HB.out)) : p := h
theorem bk_ {p q : Prop} (h : q) (f : q → p := by intro HX_; (with_reducible repeat (first | refine blk_drewN ?_ _ | refine blk_drew ?_ | refine blk_alloc ?_ _)); exact HX_) : p := f h
theorem kr_ {p q : Prop} (h : q) (f : q → p := by intro HX_; (with_reducible repeat (first | apply Kd.R_alloc | apply Kd.R_drewN | apply Kd.R_drew)); exact HX_) : p := f h
attribute [local go_sem] max2_int min2_int max_two min_two max_three min_three max_four min_four
set_option linter.unusedVariables false
set_option linter.unusedSimpArgs false
structure Lv (w : World) : Prop where
 tab : Lib.TabIs Tryz.prog w "internal/strconv.uint64pow10" .u64 Lib.pow10Tab
 ml : ∃ m, w.cell? ⟨0, 0, none⟩ = some (.int .i64 m)
 esyn : ∃ tp p, w.var? Tryz.prog "strconv.ErrSyntax" = some #[.iface tp p]
 erng : ∃ tp p, w.var? Tryz.prog "strconv.ErrRange" = some #[.iface tp p]
theorem Lv.below {w0 w : World} (h : Lv w0) (hb : Below w0.heap.size w0 w) : Lv w := by
 obtain ⟨h1, ⟨m, h2⟩, ⟨t3, p3, h3⟩, ⟨t4, p4, h4⟩⟩ := h
 exact ⟨Go.Proofs.YtgklofginkafgaaGreatDoorY.var_below hb h1, ⟨m, (hb.cell (World.block_lt_of_cell? w0 _ h2)).trans h2⟩, ⟨t3, p3, Go.Proofs.YtgklofginkafgaaGreatDoorY.var_below hb h3⟩, ⟨t4, p4, Go.Proofs.YtgklofginkafgaaGreatDoorY.var_below hb h4⟩⟩
theorem Lv.drewN {w : World} (h : Lv w) (n : Nat) : Lv (w.drewN n) := h.below ⟨rfl, rfl, rfl, Nat.le_refl _, fun _ _ => rfl⟩
def letterB (t : Int) : ByteArray := ([⟨#[67]⟩, ⟨#[68, 98]⟩, ⟨#[68]⟩, ⟨#[69, 98]⟩, ⟨#[69]⟩, ⟨#[70]⟩, ⟨#[71, 98]⟩, ⟨#[71]⟩, ⟨#[65, 98]⟩, ⟨#[65]⟩, ⟨#[66, 98]⟩, ⟨#[66]⟩] : List ByteArray).getD t.toNat ⟨#[]⟩
def numberB (t : Int) : ByteArray := ([⟨#[49]⟩, ⟨#[50, 98]⟩, ⟨#[50]⟩, ⟨#[51, 98]⟩, ⟨#[51]⟩, ⟨#[52]⟩, ⟨#[52, 35]⟩, ⟨#[53]⟩, ⟨#[54, 98]⟩, ⟨#[54]⟩, ⟨#[55, 98]⟩, ⟨#[55]⟩] : List ByteArray).getD t.toNat ⟨#[]⟩
def toneB (t : Int) : ByteArray := (⟨#[83, 114, 82, 103, 71, 109, 77, 80, 100, 68, 110, 78]⟩ : ByteArray).extract t.toNat (t + 1).toNat
def octB (o : Int) : ByteArray := ([⟨#[44]⟩, ⟨#[]⟩, ⟨#[39]⟩] : List ByteArray).getD (o + 1).toNat ⟨#[]⟩
def markB (o : Int) : ByteArray := ([⟨#[95]⟩, ⟨#[]⟩, ⟨#[94]⟩] : List ByteArray).getD (o + 1).toNat ⟨#[]⟩
def decB (n : Int) : ByteArray := ⟨(Lib.itoa n).toArray⟩
def pitchB (s k p : Int) : ByteArray :=
 if s = 2 then letterB ((p + k) % 12) ++ decB ((p + k) / 12 + 4) else if s = 3 then markB (p / 12) ++ numberB (p % 12) else if s = 4 then decB (p + k + 60) else toneB (p % 12) ++ octB (p / 12)
theorem tone_emod (p : Int) (h0 : -1000 ≤ p) (h1 : p ≤ 1000) : Int.tmod (wrap64 ((Int.tmod p 12) + 12)) 12 = p % 12 := by
 have e1 : wrap64 ((Int.tmod p 12) + 12) = (Int.tmod p 12) + 12 := by
  have := Int.tmod_lt_of_pos p (show (0 : Int) < 12 by omega)
  have h2 : -12 < Int.tmod p 12 := by
   have := Int.lt_tmod_of_pos p (show (0 : Int) < 12 by omega)
   omega
  unfold wrap64
  omega
 rw [e1]
 have h3 : Int.tmod p 12 + 12 * Int.tdiv p 12 = p := Int.tmod_add_mul_tdiv p 12
 have h2 : -12 < Int.tmod p 12 := by
  have := Int.lt_tmod_of_pos p (show (0 : Int) < 12 by omega)
  omega
 have h4 := Int.tmod_lt_of_pos p (show (0 : Int) < 12 by omega)
 rw [Int.tmod_eq_emod_of_nonneg (by omega)]
 omega
theorem oct_ediv (p : Int) (h0 : -1000 ≤ p) (h1 : p ≤ 1000) : wrap64 (Int.tdiv (wrap64 (p - p % 12)) 12) = p / 12 := by
 have e1 : wrap64 (p - p % 12) = p - p % 12 := by unfold wrap64; omega
 have e2 : Int.tdiv (p - p % 12) 12 = p / 12 := by
  have h : p - p % 12 = 12 * (p / 12) := by omega
  rw [h, Int.mul_tdiv_cancel_left _ (by omega)]
 rw [e1, e2]
 unfold wrap64
 omega
theorem decB_size (n : Int) (h0 : 0 ≤ n) (h1 : n ≤ 200) : (decB n).size ≤ 100 := by
 have h : ((List.range 201).all fun i => decide ((decB (i : Int)).size ≤ 100)) = true := by kernel_rfl
 have := List.all_eq_true.1 h n.toNat (by rw [List.mem_range]; omega)
 rw [Int.toNat_of_nonneg h0] at this
 exact of_decide_eq_true this
theorem letterB_cell (t : Int) (h0 : 0 ≤ t) (h1 : t < 12) : (letterB t).size ≤ 2 ∧ (#[.string ⟨#[67]⟩, .string ⟨#[68, 98]⟩, .string ⟨#[68]⟩, .string ⟨#[69, 98]⟩, .string ⟨#[69]⟩, .string ⟨#[70]⟩, .string ⟨#[71, 98]⟩, .string ⟨#[71]⟩, .string ⟨#[65, 98]⟩, .string ⟨#[65]⟩, .string ⟨#[66, 98]⟩, .string ⟨#[66]⟩] : Array Value)[t.toNat]? = some (.string (letterB t)) := by
 have hc : t = 0 ∨ t = 1 ∨ t = 2 ∨ t = 3 ∨ t = 4 ∨ t = 5 ∨ t = 6 ∨ t = 7 ∨ t = 8 ∨ t = 9 ∨ t = 10 ∨ t = 11 := by omega
 rcases hc with rfl | rfl | rfl | rfl | rfl | rfl | rfl | rfl | rfl | rfl | rfl | rfl <;> exact ⟨by decide, rfl⟩
theorem numberB_cell (t : Int) (h0 : 0 ≤ t) (h1 : t < 12) : (numberB t).size ≤ 2 ∧ (#[.string ⟨#[49]⟩, .string ⟨#[50, 98]⟩, .string ⟨#[50]⟩, .string ⟨#[51, 98]⟩, .string ⟨#[51]⟩, .string ⟨#[52]⟩, .string ⟨#[52, 35]⟩, .string ⟨#[53]⟩, .string ⟨#[54, 98]⟩, .string ⟨#[54]⟩, .string ⟨#[55, 98]⟩, .string ⟨#[55]⟩] : Array Value)[t.toNat]? = some (.string (numberB t)) := by
 have hc : t = 0 ∨ t = 1 ∨ t = 2 ∨ t = 3 ∨ t = 4 ∨ t = 5 ∨ t = 6 ∨ t = 7 ∨ t = 8 ∨ t = 9 ∨ t = 10 ∨ t = 11 := by omega
 rcases hc with rfl | rfl | rfl | rfl | rfl | rfl | rfl | rfl | rfl | rfl | rfl | rfl <;> exact ⟨by decide, rfl⟩
theorem toneB_size (t : Int) (h0 : 0 ≤ t) (h1 : t ≤ 11) : (toneB t).size = 1 := by
 have h : ∀ i : Nat, i < 12 → (toneB (i : Int)).size = 1 := by decide +kernel
 have := h t.toNat (by omega)
 rwa [Int.toNat_of_nonneg h0] at this
theorem pitch_held {w0 : World} {g off : Nat} {v : Value} {W W' : World} (h : W.cell? ⟨g, off, none⟩ = some v ∧ Below w0.heap.size w0 W ∧ Lv W) (hb : Below W.heap.size W W') : W'.cell? ⟨g, off, none⟩ = some v ∧ Below w0.heap.size w0 W' ∧ Lv W' :=
 ⟨(hb.cell (World.block_lt_of_cell? W _ h.1)).trans h.1, below_then h.2.1 h.2.1.size hb, h.2.2.below hb⟩
def errW : Option Int → Value
 | none => .nilIface
 | some c => .iface 0 (.int .i64 c)
theorem errW_none : errW none = .nilIface := rfl
theorem errW_some (c : Int) : errW (some c) = .iface 0 (.int .i64 c) := rfl
theorem info9 : (Tryz.prog.info? 9).map (fun i => (i.zero, i.size, i.bytes)) = some (some (.string ⟨#[]⟩), 1, 16) := by kernel_rfl
theorem info70 : (Tryz.prog.info? 70).map (fun i => (i.zero, i.size, i.bytes)) = some (some (.agg #[(.int .i64 0), (.int .i64 0)]), 2, 16) := by kernel_rfl
structure S70 where
 f0 : Int
 f1 : Int
def z70 : S70 := ⟨(0 : Int), (0 : Int)⟩
def k70 : Kd S70 := Kd.iso (Kd.pair (Kd.int .i64) (Kd.int .i64)) (fun x : S70 => (x.f0, x.f1))
theorem k70_open {w : World} {x : S70} {cs : List Value} (h : k70.K w x cs) : cs = [.int .i64 x.f0, .int .i64 x.f1] := by
 obtain ⟨_, _, rfl, rfl, rfl⟩ := h
 exact rfl
theorem k70_mkM (w : World) (base : Nat) (ok : Nat → Prop) (x : S70)  : k70.M w base ok x [.int .i64 x.f0, .int .i64 x.f1] := ⟨[.int .i64 x.f0], [.int .i64 x.f1], rfl, rfl, rfl⟩
def rd_T70 (xs : List S70) (i : Int) : S70 := xs.getD i.toNat z70
theorem at_T70 {w : World} {A : Option Addr} {n : Nat} {xs : List S70} (h : Kd.C k70 w A n xs) (i : Int) (h0 : 0 ≤ i) (h1 : i < n) : ∃ ad , A = some ad ∧ w.cell? (ad.add (i.toNat * 2)) = some (.int .i64 (rd_T70 xs i).f0) ∧ w.cell? ⟨(ad.add (i.toNat * 2)).block, (ad.add (i.toNat * 2)).off + 1, none⟩ = some (.int .i64 (rd_T70 xs i).f1) := by
 obtain ⟨ad, c, e, _, hK, hc0⟩ := Kd.C_get h z70 i h0 h1
 have hc : ∀ j u, c[j]? = some u → w.cell? (ad.add (i.toNat * 2 + j)) = some u := hc0
 obtain rfl := k70_open hK
 exact ⟨ad, e, hc 0 _ rfl, by rw [← add_field _ _ 1 (by omega)]; exact hc 1 _ rfl⟩
end Go.Proofs.YtgklofginkafgaaGreatDoor.PS
end
section
namespace Go.Proofs.YtgklofginkafgaaGreatDoor.PS
open Go.RowKit Go.Proofs.YtgklofginkafgaaGreatDoorW.PrintWords Go.Proofs.YtgklofginkafgaaGreatDoorW.PrintLast Go.Proofs.YtgklofginkafgaaGreatDoorW.PrintMore
attribute [local go_sem] max2_int min2_int max_two min_two max_three min_three max_four min_four
set_option linter.unusedVariables false
set_option linter.unusedSimpArgs false
theorem eqA70 (d : Nat) (w : World) (x0 y0 : Int) (x1 y1 : Int) :
  (Op.equalIn (d + 2) 70 (.agg #[.int .i64 x0, .int .i64 x1]) (.agg #[.int .i64 y0, .int .i64 y1])).run Tryz.prog w = .ok (x0 == y0 && (x1 == y1)) w := by
 refine eqA_of Tryz.underlying70 (by kernel_rfl) ?_
 refine eqf_cons (by rfl) (by go_simp; rfl) (by go_simp; rfl) (by go_simp) ?_
 exact eqf_last (by rfl) (by go_simp; rfl) (by go_simp; rfl) (by go_simp)
end Go.Proofs.YtgklofginkafgaaGreatDoor.PS
end
section
namespace Go.Proofs.YtgklofginkafgaaGreatDoor.PS
open Go.RowKit Go.Proofs.YtgklofginkafgaaGreatDoorW.PrintWords Go.Proofs.YtgklofginkafgaaGreatDoorW.PrintLast Go.Proofs.YtgklofginkafgaaGreatDoorW.PrintMore
attribute [local go_sem] max2_int min2_int max_two min_two max_three min_three max_four min_four
set_option linter.unusedVariables false
set_option linter.unusedSimpArgs false
def impl_within.f (a0 : Int) (a1 : Int) (a2 : Int) : Option (Bool) := if a0 ≥ a1 then (some (decide (a0 ≤ a2))) else (some false)
set_option maxHeartbeats 8000000 in
set_option maxRecDepth 100000 in
theorem impl_within.calls (a0 : Int) (a1 : Int) (a2 : Int) (r : Bool) (w : World) (h : impl_within.f a0 a1 a2 = some r) :
  Calls Tryz.prog 36 #[.int .i64 a0, .int .i64 a1, .int .i64 a2] w fun e w' => e = .returned (.bool r) ∧ Drawn0 w w' := by
 have H : (if a0 ≥ a1 then (some (decide (a0 ≤ a2))) else (some false)) = some r := h
 clear h
 by_cases c4 : a0 ≥ a1
 ·rw [if_pos c4] at H
  have c4b0 : decide (a1 ≤ a0) = true := decide_eq_true c4
  clear c4
  obtain rfl := Option.some.inj H
  go_enter Tryz.func36, Tryz.ntmps36
  go_wp2
  go_ret
  exact ⟨rs_, dr_⟩
 ·rw [if_neg c4] at H
  have c4b0 : decide (a1 ≤ a0) = false := decide_eq_false c4
  clear c4
  obtain rfl := Option.some.inj H
  go_enter Tryz.func36, Tryz.ntmps36
  go_wp2
  go_ret
  exact ⟨rs_, dr_⟩
def impl_keyOk.f (a0 : Int) (a1 : Int) : Option (Bool) := (impl_within.f a0 1 4).bind fun t184 => (if t184 = true then ((impl_within.f a1 0 11).bind fun t185 => (some t185)) else (some false))
set_option maxHeartbeats 8000000 in
set_option maxRecDepth 100000 in
theorem impl_keyOk.calls (a0 : Int) (a1 : Int) (r : Bool) (w : World) (h : impl_keyOk.f a0 a1 = some r) :
  Calls Tryz.prog 30 #[.int .i64 a0, .int .i64 a1] w fun e w' => e = .returned (.bool r) ∧ Drawn0 w w' := by
 have H : ((impl_within.f a0 1 4).bind fun t184 => (if t184 = true then ((impl_within.f a1 0 11).bind fun t185 => (some t185)) else (some false))) = some r := h
 clear h
 replace H := Option.bind_eq_some_iff.mp H
 obtain ⟨t184, A30, H⟩ := H
 replace H : (if t184 = true then ((impl_within.f a1 0 11).bind fun t185 => (some t185)) else (some false)) = some r := H
 have A3 := Aside0.mk A30
 clear A30
 by_cases c4 : t184 = true
 ·subst c4
  have H1 : ((impl_within.f a1 0 11).bind fun t185 => (some t185)) = some r := by rw [if_pos rfl] at H; exact H
  clear H
  have H := H1
  clear H1
  replace H := Option.bind_eq_some_iff.mp H
  obtain ⟨t185, A50, H⟩ := H
  replace H : (some t185) = some r := H
  have A5 := Aside0.mk A50
  clear A50
  obtain rfl := Option.some.inj H
  go_enter Tryz.func30, Tryz.ntmps30
  go_wp2_with (first | ((with_reducible refine gate_callee (f := 36) rfl ?_); refine goesL_ (some 6) rfl rfl Tryz.func36 (by kernel_rfl) rfl #[.int .i64 a0, .int .i64 1, .int .i64 4] rfl ma_ ?_; (with_reducible refine (impl_within.calls a0 1 4 true _ A3.out).mono ?_); rintro e w' ⟨rfl, ⟨nd, rfl⟩⟩; refine ⟨_, rfl, ?_⟩) | (go_at_call 36; (with_reducible refine (impl_within.calls a1 0 11 t185 _ A5.out).mono ?_); rintro e w' ⟨rfl, ⟨nd, rfl⟩⟩))
  go_ret
  exact ⟨rs_, dr_⟩
 ·replace c4 := Bool.eq_false_iff.mpr c4
  subst c4
  have H1 : (some false) = some r := by rw [if_neg (show ¬ (false = true) by decide)] at H; exact H
  clear H
  have H := H1
  clear H1
  obtain rfl := Option.some.inj H
  go_enter Tryz.func30, Tryz.ntmps30
  go_wp2_with (first | ((with_reducible refine gate_callee (f := 36) rfl ?_); refine goesL_ (some 6) rfl rfl Tryz.func36 (by kernel_rfl) rfl #[.int .i64 a0, .int .i64 1, .int .i64 4] rfl ma_ ?_; (with_reducible refine (impl_within.calls a0 1 4 false _ A3.out).mono ?_); rintro e w' ⟨rfl, ⟨nd, rfl⟩⟩; refine ⟨_, rfl, ?_⟩))
  go_ret
  exact ⟨rs_, dr_⟩
def impl_pitchOk.f (a0 : Int) : Option (Bool) := (impl_within.f a0 (-12) 23).bind fun t186 => (some t186)
set_option maxHeartbeats 8000000 in
set_option maxRecDepth 100000 in
theorem impl_pitchOk.calls (a0 : Int) (r : Bool) (w : World) (h : impl_pitchOk.f a0 = some r) :
  Calls Tryz.prog 31 #[.int .i64 a0] w fun e w' => e = .returned (.bool r) ∧ Drawn0 w w' := by
 have H : ((impl_within.f a0 (-12) 23).bind fun t186 => (some t186)) = some r := h
 clear h
 replace H := Option.bind_eq_some_iff.mp H
 obtain ⟨t186, A20, H⟩ := H
 replace H : (some t186) = some r := H
 have A2 := Aside0.mk A20
 clear A20
 obtain rfl := Option.some.inj H
 go_enter Tryz.func31, Tryz.ntmps31
 go_wp2_with (first | ((with_reducible refine gate_callee (f := 36) rfl ?_); refine goesL_ (some 4) rfl rfl Tryz.func36 (by kernel_rfl) rfl #[.int .i64 a0, .int .i64 (-12), .int .i64 23] rfl ma_ ?_; (with_reducible refine (impl_within.calls a0 (-12) 23 t186 _ A2.out).mono ?_); rintro e w' ⟨rfl, ⟨nd, rfl⟩⟩; refine ⟨_, rfl, ?_⟩))
 go_ret
 exact ⟨rs_, dr_⟩
def impl_Decimal.f (a0 : Int) : Option (ByteArray) := if -9223372036854775808 ≤ a0 ∧ a0 ≤ 9223372036854775807 then some ⟨(Lib.itoa a0).toArray⟩ else none
theorem impl_Decimal.calls (a0 : Int) (r : ByteArray) (w : World) (hL : Lv w) (h : impl_Decimal.f a0 = some r) :
  Calls Tryz.prog 56 #[.int .i64 a0] w fun e w' => e = .returned (.string r) ∧ Below w.heap.size w w' := by
 unfold impl_Decimal.f at h
 by_cases hb : -9223372036854775808 ≤ a0 ∧ a0 ≤ 9223372036854775807
 ·rw [if_pos hb] at h
  obtain rfl := Option.some.inj h
  have h0 := hb.1
  have h1 := hb.2
  go_enter Tryz.func56, Tryz.ntmps56
  go_wp2_with (go_at_call 78; refine (Tryz.strconv_FormatInt_10 a0 h0 h1 _ hL.tab).mono ?_; rintro e w' ⟨rfl, k, os, rfl⟩)
  go_ret
  exact ⟨rfl, Lib.below_grow _ _ (Nat.le_refl _) _ _⟩
 ·rw [if_neg hb] at h
  cases h
def impl_toneOk.f (a0 : Int) : Option (Bool) := (impl_within.f a0 0 11).bind fun t187 => (some t187)
set_option maxHeartbeats 8000000 in
set_option maxRecDepth 100000 in
theorem impl_toneOk.calls (a0 : Int) (r : Bool) (w : World) (h : impl_toneOk.f a0 = some r) :
  Calls Tryz.prog 94 #[.int .i64 a0] w fun e w' => e = .returned (.bool r) ∧ Drawn0 w w' := by
 have H : ((impl_within.f a0 0 11).bind fun t187 => (some t187)) = some r := h
 clear h
 replace H := Option.bind_eq_some_iff.mp H
 obtain ⟨t187, A20, H⟩ := H
 replace H : (some t187) = some r := H
 have A2 := Aside0.mk A20
 clear A20
 obtain rfl := Option.some.inj H
 go_enter Tryz.func94, Tryz.ntmps94
 go_wp2_with (first | ((with_reducible refine gate_callee (f := 36) rfl ?_); refine goesL_ (some 4) rfl rfl Tryz.func36 (by kernel_rfl) rfl #[.int .i64 a0, .int .i64 0, .int .i64 11] rfl ma_ ?_; (with_reducible refine (impl_within.calls a0 0 11 t187 _ A2.out).mono ?_); rintro e w' ⟨rfl, ⟨nd, rfl⟩⟩; refine ⟨_, rfl, ?_⟩))
 go_ret
 exact ⟨rs_, dr_⟩
def impl_ToneName.f (a0 : Int) : Option (ByteArray) := (impl_toneOk.f a0).bind fun t188 => (if t188 = true then (if 0 ≤ a0 then (if a0 ≤ (wrap64 (a0 + 1)) then (if (wrap64 (a0 + 1)) ≤ 12 then (some ((⟨#[83, 114, 82, 103, 71, 109, 77, 80, 100, 68, 110, 78]⟩ : ByteArray).extract (a0 : Int).toNat ((wrap64 (a0 + 1)) : Int).toNat)) else (none)) else (none)) else (none)) else (some (⟨#[]⟩ : ByteArray)))
set_option maxHeartbeats 8000000 in
set_option maxRecDepth 100000 in
theorem impl_ToneName.calls (a0 : Int) (r : ByteArray) (w : World) (h : impl_ToneName.f a0 = some r) :
  Calls Tryz.prog 79 #[.int .i64 a0] w fun e w' => e = .returned (.string r) ∧ Drawn0 w w' := by
 have H : ((impl_toneOk.f a0).bind fun t188 => (if t188 = true then (if 0 ≤ a0 then (if a0 ≤ (wrap64 (a0 + 1)) then (if (wrap64 (a0 + 1)) ≤ 12 then (some ((⟨#[83, 114, 82, 103, 71, 109, 77, 80, 100, 68, 110, 78]⟩ : ByteArray).extract (a0 : Int).toNat ((wrap64 (a0 + 1)) : Int).toNat)) else (none)) else (none)) else (none)) else (some (⟨#[]⟩ : ByteArray)))) = some r := h
 clear h
 replace H := Option.bind_eq_some_iff.mp H
 obtain ⟨t188, A20, H⟩ := H
 replace H : (if t188 = true then (if 0 ≤ a0 then (if a0 ≤ (wrap64 (a0 + 1)) then (if (wrap64 (a0 + 1)) ≤ 12 then (some ((⟨#[83, 114, 82, 103, 71, 109, 77, 80, 100, 68, 110, 78]⟩ : ByteArray).extract (a0 : Int).toNat ((wrap64 (a0 + 1)) : Int).toNat)) else (none)) else (none)) else (none)) else (some (⟨#[]⟩ : ByteArray))) = some r := H
 have A2 := Aside0.mk A20
 clear A20
 by_cases c3 : t188 = true
 ·subst c3
  have H1 : (if 0 ≤ a0 then (if a0 ≤ (wrap64 (a0 + 1)) then (if (wrap64 (a0 + 1)) ≤ 12 then (some ((⟨#[83, 114, 82, 103, 71, 109, 77, 80, 100, 68, 110, 78]⟩ : ByteArray).extract (a0 : Int).toNat ((wrap64 (a0 + 1)) : Int).toNat)) else (none)) else (none)) else (none)) = some r := by rw [if_pos rfl] at H; exact H
  clear H
  have H := H1
  clear H1
  by_cases c4 : 0 ≤ a0
  ·rw [if_pos c4] at H
   have c4b0 := eq_true c4
   have c4b1 : decide (0 ≤ a0) = true := decide_eq_true c4
   clear c4
   by_cases c5 : a0 ≤ (wrap64 (a0 + 1))
   ·rw [if_pos c5] at H
    have c5b0 := eq_true c5
    have c5b1 : decide (a0 ≤ (wrap64 (a0 + 1))) = true := decide_eq_true c5
    by_cases c6 : (wrap64 (a0 + 1)) ≤ 12
    ·rw [if_pos c6] at H
     have c6b0 := eq_true c6
     have c6b1 : decide ((wrap64 (a0 + 1)) ≤ 12) = true := decide_eq_true c6
     obtain rfl := Option.some.inj H
     go_enter Tryz.func79, Tryz.ntmps79
     go_wp2_with (first | ((with_reducible refine gate_callee (f := 94) rfl ?_); refine goesL_ (some 4) rfl rfl Tryz.func94 (by kernel_rfl) rfl #[.int .i64 a0] rfl ma_ ?_; (with_reducible refine (impl_toneOk.calls a0 true _ A2.out).mono ?_); rintro e w' ⟨rfl, ⟨nd, rfl⟩⟩; refine ⟨_, rfl, ?_⟩))
     go_ret
     exact ⟨rs_, dr_⟩
    ·rw [if_neg c6] at H
     exact absurd H (by simp)
   ·rw [if_neg c5] at H
    exact absurd H (by simp)
  ·rw [if_neg c4] at H
   exact absurd H (by simp)
 ·replace c3 := Bool.eq_false_iff.mpr c3
  subst c3
  have H1 : (some (⟨#[]⟩ : ByteArray)) = some r := by rw [if_neg (show ¬ (false = true) by decide)] at H; exact H
  clear H
  have H := H1
  clear H1
  obtain rfl := Option.some.inj H
  go_enter Tryz.func79, Tryz.ntmps79
  go_wp2_with (first | ((with_reducible refine gate_callee (f := 94) rfl ?_); refine goesL_ (some 4) rfl rfl Tryz.func94 (by kernel_rfl) rfl #[.int .i64 a0] rfl ma_ ?_; (with_reducible refine (impl_toneOk.calls a0 false _ A2.out).mono ?_); rintro e w' ⟨rfl, ⟨nd, rfl⟩⟩; refine ⟨_, rfl, ?_⟩))
  go_ret
  exact ⟨rs_, dr_⟩
theorem impl_ToneOf_w (p : Int) (h0 : -1000 ≤ p) (h1 : p ≤ 1000) (w : World) : Calls Tryz.prog 55 #[.int .i64 p] w fun e w' => e = .returned (.int .i64 (p % 12)) ∧ ∃ q, w' = w.drewN q := by
 rw [← tone_emod p h0 h1]
 go_enter Tryz.func55, Tryz.ntmps55
 go_wp2
 go_ret
 exact ⟨by first | rfl | simp [i64_w], 0, rfl⟩
theorem impl_octaveOf_w (p : Int) (h0 : -1000 ≤ p) (h1 : p ≤ 1000) (w : World) : Calls Tryz.prog 57 #[.int .i64 p] w fun e w' => e = .returned (.int .i64 (p / 12)) ∧ ∃ q, w' = w.drewN q := by
 have ht := impl_ToneOf_w p h0 h1
 rw [← oct_ediv p h0 h1]
 generalize p % 12 = t at ht ⊢
 go_enter Tryz.func57, Tryz.ntmps57
 go_wp2_with (go_at_call 55; refine (ht _).mono ?_; rintro e w' ⟨rfl, q, rfl⟩)
 go_ret
 exact ⟨by first | rfl | simp [i64_w], _, rfl⟩
theorem impl_Decimal_w (n : Int) (h0 : -9223372036854775808 ≤ n) (h1 : n ≤ 9223372036854775807) (w : World) (hL : Lv w) : Calls Tryz.prog 56 #[.int .i64 n] w fun e w' => e = .returned (.string (decB n)) ∧ Below w.heap.size w w' :=
 impl_Decimal.calls n _ w hL (if_pos ⟨h0, h1⟩)
theorem ix3 (x y z : ByteArray) (W : World) : (Instr.index 83 (.agg #[.string x, .string y, .string z]) (.int .i64 0)).run Tryz.prog W = .ok (.string x) W ∧ (Instr.index 83 (.agg #[.string x, .string y, .string z]) (.int .i64 1)).run Tryz.prog W = .ok (.string y) W ∧ (Instr.index 83 (.agg #[.string x, .string y, .string z]) (.int .i64 2)).run Tryz.prog W = .ok (.string z) W := ⟨by kernel_rfl, by kernel_rfl, by kernel_rfl⟩
theorem impl_ToneName_w (t : Int) (h0 : 0 ≤ t) (h1 : t ≤ 11) (w : World) : Calls Tryz.prog 79 #[.int .i64 t] w fun e w' => e = .returned (.string (toneB t)) ∧ ∃ q, w' = w.drewN q := by
 have h : ∀ i : Nat, i < 12 → impl_ToneName.f (i : Int) = some (toneB (i : Int)) := by decide +kernel
 have := h t.toNat (by omega)
 rw [Int.toNat_of_nonneg h0] at this
 refine (impl_ToneName.calls t _ w this).mono ?_
 rintro e w' ⟨rfl, hd⟩
 exact ⟨rfl, hd.out⟩
set_option maxRecDepth 100000 in
theorem impl_pitchText_w (p : Int) (h0 : -12 ≤ p) (h1 : p ≤ 23) (w : World) : Calls Tryz.prog 58 #[.int .i64 p] w fun e w' => e = .returned (.string (toneB (p % 12) ++ octB (p / 12))) ∧ ∃ q, w' = w.drewN q := by
 have ht := impl_ToneOf_w p (by omega) (by omega)
 have hn := impl_ToneName_w (p % 12) (by omega) (by omega)
 have hs := toneB_size (p % 12) (by omega) (by omega)
 have ho := impl_octaveOf_w p (by omega) (by omega)
 have hc : p / 12 = -1 ∨ p / 12 = 0 ∨ p / 12 = 1 := by omega
 generalize p % 12 = t at ht hn hs ⊢
 generalize toneB t = T at hn hs ⊢
 generalize p / 12 = o at ho hc ⊢
 have x0 := fun W => (ix3 ⟨#[44]⟩ ⟨#[]⟩ ⟨#[39]⟩ W).1
 have x1 := fun W => (ix3 ⟨#[44]⟩ ⟨#[]⟩ ⟨#[39]⟩ W).2.1
 have x2 := fun W => (ix3 ⟨#[44]⟩ ⟨#[]⟩ ⟨#[39]⟩ W).2.2
 rcases hc with rfl | rfl | rfl
 all_goals
  go_enter Tryz.func58, Tryz.ntmps58
  go_wp2_with (first | (go_at_call 55; refine (ht _).mono ?_; rintro e w' ⟨rfl, q, rfl⟩) | (go_at_call 79; refine (hn _).mono ?_; rintro e w' ⟨rfl, q, rfl⟩) | (go_at_call 57; refine (ho _).mono ?_; rintro e w' ⟨rfl, q, rfl⟩))
  go_ret
  exact ⟨rfl, _, rfl⟩
def impl_pitchIn_T6 : Bool × List (List Nat × List Nat) := (true, [([], []), ([0], [0]), ([1], [1]), ([2], [2]), ([], []), ([4, 1], [4]), ([5], [5]), ([6, 5], [6]), ([3, 7], [3, 7]), ([8, 7, 0, 1, 2, 3, 4, 5, 6, 7, 8], [8])])
def impl_pitchIn_B6 : List Nat := [0, 1, 3, 7, 0, 19, 51, 115, 255, 511]
theorem impl_pitchIn_tab6 : rtab .any (opsOf Tryz.f32 6) = impl_pitchIn_T6 := by kernel_rfl
theorem impl_pitchIn_bits6 : waitsOk impl_pitchIn_T6.2 impl_pitchIn_B6 = true := by kernel_rfl
set_option maxHeartbeats 8000000 in
set_option maxRecDepth 100000 in
theorem impl_pitchIn_letters (k p q t o : Int) (D : ByteArray) (w : World) (hL : Lv w) (hq : wrap64 (p + k) = q) (ht : ∀ V, Calls Tryz.prog 55 #[.int .i64 q] V fun e w' => e = .returned (.int .i64 t) ∧ ∃ n, w' = V.drewN n)
  (ho : ∀ V, Calls Tryz.prog 57 #[.int .i64 q] V fun e w' => e = .returned (.int .i64 o) ∧ ∃ n, w' = V.drewN n)
  (hd : ∀ V, Lv V → Calls Tryz.prog 56 #[.int .i64 (wrap64 (o + 4))] V fun e w' => e = .returned (.string D) ∧ Below V.heap.size V w') (hD : D.size ≤ 100)
  (t0 : 0 ≤ t) (t1 : t < 12) (X : ByteArray) (hX : X.size ≤ 2) (hcell : (#[.string ⟨#[67]⟩, .string ⟨#[68, 98]⟩, .string ⟨#[68]⟩, .string ⟨#[69, 98]⟩, .string ⟨#[69]⟩, .string ⟨#[70]⟩, .string ⟨#[71, 98]⟩, .string ⟨#[71]⟩, .string ⟨#[65, 98]⟩, .string ⟨#[65]⟩, .string ⟨#[66, 98]⟩, .string ⟨#[66]⟩] : Array Value)[t.toNat]? = some (.string X)) :
  Calls Tryz.prog 32 #[.int .i64 2, .int .i64 k, .int .i64 p] w fun e w' => e = .returned (.string (X ++ D)) ∧ Below w.heap.size w w' := by
 have hf1 : (9223372036854775807 < X.size + D.size) = False := eq_false (by omega)
 have t0' := eq_true t0
 have t1' := eq_true t1
 have t2' : (t.toNat < 12) = True := eq_true (by omega)
 have t3' : decide (0 ≤ t) = true := decide_eq_true t0
 have t4' : decide (t < 12) = true := decide_eq_true t1
 clear t0 t1
 go_enter Tryz.func32, Tryz.ntmps32
 go_wp2
 refine start_ (n := 10) (S := fun W => W.cell? ⟨w.heap.size, t.toNat, none⟩ = some (.string X) ∧ Below w.heap.size w W ∧ Lv W) (ds := []) #[false, false, false, false, false, false, false, false, false, false] (by kernel_rfl) rfl rfl ⟨by simpa using hcell, below_drew1 (((Below.refl _ w).alloc (Nat.le_refl _) _).alloc (by simp) _), hL.below (below_drew1 (((Below.refl _ w).alloc (Nat.le_refl _) _).alloc (by simp) _))⟩ (fun hHeld => ?_)
 refine with_tabW impl_pitchIn_tab6 impl_pitchIn_bits6 (fun HT_ HW_ => ?_)
 generalize World.drew _ = wS at hHeld ⊢
 refine pure_ (i := 0) (N := some 18) (v := ?_) (a' := ?_) #[true, false, false, false, false, false, false, false, false, false] rfl rfl (any_of HT_.out (by kernel_rfl)) (fun _ _ _ h => h) (Or.inl ⟨by rfl, ?_⟩) ?_ ?_
 rotate_left
 ·intro w'
  go_simp
  with_reducible rfl
 rotate_left
 ·simp only [Act.put, List.setIfInBounds_toArray, List.set_cons_zero, List.set_cons_succ, i64_w, i32_w]
  rfl
 refine pure_ (i := 4) (N := some 22) (v := ?_) (a' := ?_) #[true, false, false, false, true, false, false, false, false, false] rfl rfl (any_of HT_.out (by kernel_rfl)) (fun _ _ _ h => h) (Or.inl ⟨by rfl, ?_⟩) ?_ ?_
 rotate_left
 ·intro w'
  go_simp
  with_reducible rfl
 rotate_left
 ·simp only [Act.put, List.setIfInBounds_toArray, List.set_cons_zero, List.set_cons_succ, i64_w, i32_w]
  rfl
 refine one_ (i := 1) (N := some 19) #[true, true, false, false, true, false, false, false, false, false] rfl rfl (one_of HT_.out (by kernel_rfl)) (by decide) (fun K hK => ?_)
 refine goes_ Tryz.func55 (by kernel_rfl) rfl #[.int .i64 q] (by rfl) rfl rfl (by (try simp only [List.map_toArray, List.map_cons, List.map_nil]); first | done | rfl) ?_
 refine (ht _).mono ?_
 rintro e w8 ⟨rfl, nq, rfl⟩
 have hB8 := pw_below_drewN (Below.refl wS.heap.size wS) nq
 refine ⟨_, rfl, ?_⟩
 generalize World.drewN wS nq = w8 at hB8 ⊢
 refine hK.out _ _ (pitch_held hHeld hB8) (fun hHeld => ?_)
 clear hK K hB8
 refine norm_ (a' := ?_) ?_ ?_
 rotate_left
 ·show Act.put _ (some 19) _ = _
  simp only [Act.put, List.setIfInBounds_toArray, List.set_cons_zero, List.set_cons_succ, i64_w, i32_w]
  rfl
 refine pure_ (i := 2) (N := some 20) (v := ?_) (a' := ?_) #[true, true, true, false, true, false, false, false, false, false] rfl rfl (any_of HT_.out (by kernel_rfl)) (fun _ _ _ h => h) (Or.inl ⟨by rfl, ?_⟩) ?_ ?_
 rotate_left
 ·intro w'
  go_simp
  with_reducible rfl
 rotate_left
 ·simp only [Act.put, List.setIfInBounds_toArray, List.set_cons_zero, List.set_cons_succ, i64_w, i32_w]
  rfl
 refine take_ (i := 3) (N := some 21) (v := ?_) (a' := ?_) #[true, true, true, true, true, false, false, false, false, false] rfl rfl (take_ofW HT_.out HW_.out (by kernel_rfl)) (fun _ _ _ h => h) (Or.inl ⟨by rfl, ?_⟩) hHeld ?_ ?_
 rotate_left
 ·rintro w' ⟨s0, _⟩
  go_simp
  with_reducible rfl
 rotate_left
 ·simp only [Act.put, List.setIfInBounds_toArray, List.set_cons_zero, List.set_cons_succ, i64_w, i32_w]
  rfl
 refine one_ (i := 5) (N := some 23) #[true, true, true, true, true, true, false, false, false, false] rfl rfl (one_of HT_.out (by kernel_rfl)) (by decide) (fun K hK => ?_)
 refine goes_ Tryz.func57 (by kernel_rfl) rfl #[.int .i64 q] (by rfl) rfl rfl (by (try simp only [List.map_toArray, List.map_cons, List.map_nil]); first | done | rfl) ?_
 refine (ho _).mono ?_
 rintro e w9 ⟨rfl, nq, rfl⟩
 have hB8 := pw_below_drewN (Below.refl w8.heap.size w8) nq
 refine ⟨_, rfl, ?_⟩
 generalize World.drewN w8 nq = w9 at hB8 ⊢
 refine hK.out _ _ (pitch_held hHeld hB8) (fun hHeld => ?_)
 clear hK K hB8
 refine norm_ (a' := ?_) ?_ ?_
 rotate_left
 ·show Act.put _ (some 23) _ = _
  simp only [Act.put, List.setIfInBounds_toArray, List.set_cons_zero, List.set_cons_succ, i64_w, i32_w]
  rfl
 refine pure_ (i := 6) (N := some 24) (v := ?_) (a' := ?_) #[true, true, true, true, true, true, true, false, false, false] rfl rfl (any_of HT_.out (by kernel_rfl)) (fun _ _ _ h => h) (Or.inl ⟨by rfl, ?_⟩) ?_ ?_
 rotate_left
 ·intro w'
  go_simp
  with_reducible rfl
 rotate_left
 ·simp only [Act.put, List.setIfInBounds_toArray, List.set_cons_zero, List.set_cons_succ, i64_w, i32_w]
  rfl
 refine one_ (i := 7) (N := some 25) #[true, true, true, true, true, true, true, true, false, false] rfl rfl (one_of HT_.out (by kernel_rfl)) (by decide) (fun K hK => ?_)
 refine goes_ Tryz.func56 (by kernel_rfl) rfl #[.int .i64 (wrap64 (o + 4))] (by rfl) rfl rfl (by (try simp only [List.map_toArray, List.map_cons, List.map_nil]); first | done | rfl) ?_
 refine (hd _ hHeld.2.2).mono ?_
 rintro e w10 ⟨rfl, hB8⟩
 refine ⟨_, rfl, ?_⟩
 refine hK.out _ _ (pitch_held hHeld hB8) (fun hHeld => ?_)
 clear hK K hB8
 refine norm_ (a' := ?_) ?_ ?_
 rotate_left
 ·show Act.put _ (some 25) _ = _
  simp only [Act.put, List.setIfInBounds_toArray, List.set_cons_zero, List.set_cons_succ, i64_w, i32_w]
  rfl
 refine pure_ (i := 8) (N := some 26) (v := ?_) (a' := ?_) #[true, true, true, true, true, true, true, true, true, false] rfl rfl (any_of HT_.out (by kernel_rfl)) (fun _ _ _ h => h) (Or.inl ⟨by rfl, ?_⟩) ?_ ?_
 rotate_left
 ·intro w'
  go_simp
  with_reducible rfl
 rotate_left
 ·simp only [Act.put, List.setIfInBounds_toArray, List.set_cons_zero, List.set_cons_succ, i64_w, i32_w]
  rfl
 refine pure_ (i := 9) (N := some 6) (v := ?_) (a' := ?_) #[true, true, true, true, true, true, true, true, true, true] rfl rfl (any_of HT_.out (by kernel_rfl)) (fun _ _ _ h => h) (Or.inl ⟨by rfl, ?_⟩) ?_ ?_
 rotate_left
 ·intro w'
  go_simp
  with_reducible rfl
 rotate_left
 ·simp only [Act.put, List.setIfInBounds_toArray, List.set_cons_zero, List.set_cons_succ, i64_w, i32_w]
  rfl
 refine done_ (done_of HT_.out (by kernel_rfl)) ?_
 try go_wp2
 go_ret
 exact ⟨rfl, hHeld.2.1⟩
def impl_pitchIn_T8 : Bool × List (List Nat × List Nat) := (true, [([], []), ([], []), ([1], [1]), ([2], [2]), ([0, 3], [0, 3]), ([], []), ([5, 2], [5]), ([6], [6]), ([7], [7]), ([4, 8], [4, 8]), ([9, 6, 0, 1, 2, 3, 4, 5, 6, 7, 8, 9], [9])])
def impl_pitchIn_B8 : List Nat := [0, 0, 2, 6, 15, 0, 38, 102, 230, 511, 1023]
theorem impl_pitchIn_tab8 : rtab .any (opsOf Tryz.f32 8) = impl_pitchIn_T8 := by kernel_rfl
theorem impl_pitchIn_bits8 : waitsOk impl_pitchIn_T8.2 impl_pitchIn_B8 = true := by kernel_rfl
set_option maxHeartbeats 8000000 in
set_option maxRecDepth 100000 in
theorem impl_pitchIn_numbers (k p t o : Int) (M : ByteArray) (w : World) (hL : Lv w) (ht : ∀ V, Calls Tryz.prog 55 #[.int .i64 p] V fun e w' => e = .returned (.int .i64 t) ∧ ∃ n, w' = V.drewN n)
  (ho : ∀ V, Calls Tryz.prog 57 #[.int .i64 p] V fun e w' => e = .returned (.int .i64 o) ∧ ∃ n, w' = V.drewN n) (hM : M.size ≤ 1)
  (hx : ∀ W : World, (Instr.index 83 (.agg #[.string ⟨#[95]⟩, .string ⟨#[]⟩, .string ⟨#[94]⟩]) (.int .i64 (wrap64 (o + 1)))).run Tryz.prog W = .ok (.string M) W)
  (t0 : 0 ≤ t) (t1 : t < 12) (X : ByteArray) (hX : X.size ≤ 2) (hcell : (#[.string ⟨#[49]⟩, .string ⟨#[50, 98]⟩, .string ⟨#[50]⟩, .string ⟨#[51, 98]⟩, .string ⟨#[51]⟩, .string ⟨#[52]⟩, .string ⟨#[52, 35]⟩, .string ⟨#[53]⟩, .string ⟨#[54, 98]⟩, .string ⟨#[54]⟩, .string ⟨#[55, 98]⟩, .string ⟨#[55]⟩] : Array Value)[t.toNat]? = some (.string X)) :
  Calls Tryz.prog 32 #[.int .i64 3, .int .i64 k, .int .i64 p] w fun e w' => e = .returned (.string (M ++ X)) ∧ Below w.heap.size w w' := by
 have hf1 : (9223372036854775807 < M.size + X.size) = False := eq_false (by omega)
 have t0' := eq_true t0
 have t1' := eq_true t1
 have t2' : (t.toNat < 12) = True := eq_true (by omega)
 have t3' : decide (0 ≤ t) = true := decide_eq_true t0
 have t4' : decide (t < 12) = true := decide_eq_true t1
 clear t0 t1
 go_enter Tryz.func32, Tryz.ntmps32
 go_wp2
 refine start_ (n := 11) (S := fun W => W.cell? ⟨w.heap.size + 1, t.toNat, none⟩ = some (.string X) ∧ Below w.heap.size w W ∧ Lv W) (ds := []) #[false, false, false, false, false, false, false, false, false, false, false] (by kernel_rfl) rfl rfl ⟨by simpa using hcell, below_drew1 (((Below.refl _ w).alloc (Nat.le_refl _) _).alloc (by simp) _), hL.below (below_drew1 (((Below.refl _ w).alloc (Nat.le_refl _) _).alloc (by simp) _))⟩ (fun hHeld => ?_)
 refine with_tabW impl_pitchIn_tab8 impl_pitchIn_bits8 (fun HT_ HW_ => ?_)
 generalize World.drew _ = wS at hHeld ⊢
 refine pure_ (i := 0) (N := some 29) (v := ?_) (a' := ?_) #[true, false, false, false, false, false, false, false, false, false, false] rfl rfl (any_of HT_.out (by kernel_rfl)) (fun _ _ _ h => h) (Or.inl ⟨by rfl, ?_⟩) ?_ ?_
 rotate_left
 ·intro w'
  go_simp
  with_reducible rfl
 rotate_left
 ·simp only [Act.put, List.setIfInBounds_toArray, List.set_cons_zero, List.set_cons_succ, i64_w, i32_w]
  rfl
 refine pure_ (i := 1) (N := some 30) (v := ?_) (a' := ?_) #[true, true, false, false, false, false, false, false, false, false, false] rfl rfl (any_of HT_.out (by kernel_rfl)) (fun _ _ _ h => h) (Or.inl ⟨by rfl, ?_⟩) ?_ ?_
 rotate_left
 ·intro w'
  go_simp
  with_reducible rfl
 rotate_left
 ·simp only [Act.put, List.setIfInBounds_toArray, List.set_cons_zero, List.set_cons_succ, i64_w, i32_w]
  rfl
 refine pure_ (i := 5) (N := some 34) (v := ?_) (a' := ?_) #[true, true, false, false, false, true, false, false, false, false, false] rfl rfl (any_of HT_.out (by kernel_rfl)) (fun _ _ _ h => h) (Or.inl ⟨by rfl, ?_⟩) ?_ ?_
 rotate_left
 ·intro w'
  go_simp
  with_reducible rfl
 rotate_left
 ·simp only [Act.put, List.setIfInBounds_toArray, List.set_cons_zero, List.set_cons_succ, i64_w, i32_w]
  rfl
 refine one_ (i := 2) (N := some 31) #[true, true, true, false, false, true, false, false, false, false, false] rfl rfl (one_of HT_.out (by kernel_rfl)) (by decide) (fun K hK => ?_)
 refine goes_ Tryz.func57 (by kernel_rfl) rfl #[.int .i64 p] (by rfl) rfl rfl (by (try simp only [List.map_toArray, List.map_cons, List.map_nil]); first | done | rfl) ?_
 refine (ho _).mono ?_
 rintro e w8 ⟨rfl, nq, rfl⟩
 have hB8 := pw_below_drewN (Below.refl wS.heap.size wS) nq
 refine ⟨_, rfl, ?_⟩
 generalize World.drewN wS nq = w8 at hB8 ⊢
 refine hK.out _ _ (pitch_held hHeld hB8) (fun hHeld => ?_)
 clear hK K hB8
 refine norm_ (a' := ?_) ?_ ?_
 rotate_left
 ·show Act.put _ (some 31) _ = _
  simp only [Act.put, List.setIfInBounds_toArray, List.set_cons_zero, List.set_cons_succ, i64_w, i32_w]
  rfl
 refine pure_ (i := 3) (N := some 32) (v := ?_) (a' := ?_) #[true, true, true, true, false, true, false, false, false, false, false] rfl rfl (any_of HT_.out (by kernel_rfl)) (fun _ _ _ h => h) (Or.inl ⟨by rfl, ?_⟩) ?_ ?_
 rotate_left
 ·intro w'
  go_simp
  with_reducible rfl
 rotate_left
 ·simp only [Act.put, List.setIfInBounds_toArray, List.set_cons_zero, List.set_cons_succ, i64_w, i32_w]
  rfl
 refine pure_ (i := 4) (N := some 33) (v := ?_) (a' := ?_) #[true, true, true, true, true, true, false, false, false, false, false] rfl rfl (any_of HT_.out (by kernel_rfl)) (fun _ _ _ h => h) (Or.inl ⟨by rfl, ?_⟩) ?_ ?_
 rotate_left
 ·intro w'
  go_simp
  with_reducible rfl
 rotate_left
 ·simp only [Act.put, List.setIfInBounds_toArray, List.set_cons_zero, List.set_cons_succ, i64_w, i32_w]
  rfl
 refine one_ (i := 6) (N := some 35) #[true, true, true, true, true, true, true, false, false, false, false] rfl rfl (one_of HT_.out (by kernel_rfl)) (by decide) (fun K hK => ?_)
 refine goes_ Tryz.func55 (by kernel_rfl) rfl #[.int .i64 p] (by rfl) rfl rfl (by (try simp only [List.map_toArray, List.map_cons, List.map_nil]); first | done | rfl) ?_
 refine (ht _).mono ?_
 rintro e w9 ⟨rfl, nq, rfl⟩
 have hB8 := pw_below_drewN (Below.refl w8.heap.size w8) nq
 refine ⟨_, rfl, ?_⟩
 generalize World.drewN w8 nq = w9 at hB8 ⊢
 refine hK.out _ _ (pitch_held hHeld hB8) (fun hHeld => ?_)
 clear hK K hB8
 refine norm_ (a' := ?_) ?_ ?_
 rotate_left
 ·show Act.put _ (some 35) _ = _
  simp only [Act.put, List.setIfInBounds_toArray, List.set_cons_zero, List.set_cons_succ, i64_w, i32_w]
  rfl
 refine pure_ (i := 7) (N := some 36) (v := ?_) (a' := ?_) #[true, true, true, true, true, true, true, true, false, false, false] rfl rfl (any_of HT_.out (by kernel_rfl)) (fun _ _ _ h => h) (Or.inl ⟨by rfl, ?_⟩) ?_ ?_
 rotate_left
 ·intro w'
  go_simp
  with_reducible rfl
 rotate_left
 ·simp only [Act.put, List.setIfInBounds_toArray, List.set_cons_zero, List.set_cons_succ, i64_w, i32_w]
  rfl
 refine take_ (i := 8) (N := some 37) (v := ?_) (a' := ?_) #[true, true, true, true, true, true, true, true, true, false, false] rfl rfl (take_ofW HT_.out HW_.out (by kernel_rfl)) (fun _ _ _ h => h) (Or.inl ⟨by rfl, ?_⟩) hHeld ?_ ?_
 rotate_left
 ·rintro w' ⟨s0, _⟩
  go_simp
  with_reducible rfl
 rotate_left
 ·simp only [Act.put, List.setIfInBounds_toArray, List.set_cons_zero, List.set_cons_succ, i64_w, i32_w]
  rfl
 refine pure_ (i := 9) (N := some 38) (v := ?_) (a' := ?_) #[true, true, true, true, true, true, true, true, true, true, false] rfl rfl (any_of HT_.out (by kernel_rfl)) (fun _ _ _ h => h) (Or.inl ⟨by rfl, ?_⟩) ?_ ?_
 rotate_left
 ·intro w'
  go_simp
  with_reducible rfl
 rotate_left
 ·simp only [Act.put, List.setIfInBounds_toArray, List.set_cons_zero, List.set_cons_succ, i64_w, i32_w]
  rfl
 refine pure_ (i := 10) (N := some 6) (v := ?_) (a' := ?_) #[true, true, true, true, true, true, true, true, true, true, true] rfl rfl (any_of HT_.out (by kernel_rfl)) (fun _ _ _ h => h) (Or.inl ⟨by rfl, ?_⟩) ?_ ?_
 rotate_left
 ·intro w'
  go_simp
  with_reducible rfl
 rotate_left
 ·simp only [Act.put, List.setIfInBounds_toArray, List.set_cons_zero, List.set_cons_succ, i64_w, i32_w]
  rfl
 refine done_ (done_of HT_.out (by kernel_rfl)) ?_
 try go_wp2
 go_ret
 exact ⟨rfl, hHeld.2.1⟩
set_option maxHeartbeats 8000000 in
set_option maxRecDepth 100000 in
theorem impl_pitchIn_fixed (k p n : Int) (D : ByteArray) (w : World) (hL : Lv w) (hd : ∀ V, Lv V → Calls Tryz.prog 56 #[.int .i64 (wrap64 (wrap64 (p + k) + 60))] V fun e w' => e = .returned (.string D) ∧ Below V.heap.size V w') :
  Calls Tryz.prog 32 #[.int .i64 4, .int .i64 k, .int .i64 p] w fun e w' => e = .returned (.string D) ∧ Below w.heap.size w w' := by
 have hb0 := fun a b => ((Below.refl w.heap.size w).alloc (Nat.le_refl _) a).alloc (o := b) (by simp)
 have hl0 := fun a b => hL.below (hb0 a b)
 go_enter Tryz.func32, Tryz.ntmps32
 go_wp2_with (go_at_call 56; refine (hd _ (hl0 _ _)).mono ?_; rintro e w' ⟨rfl, hb'⟩)
 go_ret
 exact ⟨rfl, below_then (hb0 _ _) (hb0 _ _).size hb'⟩
set_option maxHeartbeats 8000000 in
set_option maxRecDepth 100000 in
theorem impl_pitchIn_sargam (s k p : Int) (D : ByteArray) (w : World) (h2 : ¬ s = 2) (h3 : ¬ s = 3) (h4 : ¬ s = 4) (hd : ∀ V, Calls Tryz.prog 58 #[.int .i64 p] V fun e w' => e = .returned (.string D) ∧ ∃ q, w' = V.drewN q) :
  Calls Tryz.prog 32 #[.int .i64 s, .int .i64 k, .int .i64 p] w fun e w' => e = .returned (.string D) ∧ Below w.heap.size w w' := by
 have e2 : (s == 2) = false := beq_eq_false_iff_ne.mpr h2
 have e3 : (s == 3) = false := beq_eq_false_iff_ne.mpr h3
 have e4 : (s == 4) = false := beq_eq_false_iff_ne.mpr h4
 clear h2 h3 h4
 go_enter Tryz.func32, Tryz.ntmps32
 go_wp2_with (go_at_call 58; refine (hd _).mono ?_; rintro e w' ⟨rfl, q, rfl⟩)
 go_ret
 exact ⟨rfl, pw_below_drewN (((Below.refl w.heap.size w).alloc (Nat.le_refl _) _).alloc (by simp) _) _⟩
def impl_pitchIn.f (a0 : Int) (a1 : Int) (a2 : Int) : Option (ByteArray) := if 0 ≤ a1 ∧ a1 ≤ 11 ∧ -12 ≤ a2 ∧ a2 ≤ 23 then some (pitchB a0 a1 a2) else none
theorem impl_pitchIn.calls (a0 : Int) (a1 : Int) (a2 : Int) (r : ByteArray) (w : World) (hL : Lv w) (h : impl_pitchIn.f a0 a1 a2 = some r) :
  Calls Tryz.prog 32 #[.int .i64 a0, .int .i64 a1, .int .i64 a2] w fun e w' => e = .returned (.string r) ∧ Below w.heap.size w w' := by
 unfold impl_pitchIn.f at h
 by_cases hb : 0 ≤ a1 ∧ a1 ≤ 11 ∧ -12 ≤ a2 ∧ a2 ≤ 23
 ·rw [if_pos hb] at h
  obtain rfl := Option.some.inj h
  clear h
  obtain ⟨b1, b2, b3, b4⟩ := hb
  have hw1 : wrap64 (a2 + a1) = a2 + a1 := by unfold wrap64; omega
  unfold pitchB
  by_cases s2 : a0 = 2
  ·subst s2
   rw [if_pos rfl]
   have hD : (decB ((a2 + a1) / 12 + 4)).size ≤ 100 := decB_size _ (by omega) (by omega)
   have hX := letterB_cell ((a2 + a1) % 12) (by omega) (by omega)
   exact impl_pitchIn_letters a1 a2 (a2 + a1) ((a2 + a1) % 12) ((a2 + a1) / 12) _ w hL hw1 (impl_ToneOf_w _ (by omega) (by omega)) (impl_octaveOf_w _ (by omega) (by omega))
    (fun V hV => by rw [show wrap64 ((a2 + a1) / 12 + 4) = (a2 + a1) / 12 + 4 by unfold wrap64; omega]; exact impl_Decimal_w _ (by omega) (by omega) V hV) hD (by omega) (by omega) _ hX.1 hX.2
  ·rw [if_neg s2]
   by_cases s3 : a0 = 3
   ·subst s3
    rw [if_pos rfl]
    have hX := numberB_cell (a2 % 12) (by omega) (by omega)
    have hc : a2 / 12 = -1 ∨ a2 / 12 = 0 ∨ a2 / 12 = 1 := by omega
    have hm : (markB (a2 / 12)).size ≤ 1 ∧ ∀ W : World, (Instr.index 83 (.agg #[.string ⟨#[95]⟩, .string ⟨#[]⟩, .string ⟨#[94]⟩]) (.int .i64 (wrap64 (a2 / 12 + 1)))).run Tryz.prog W = .ok (.string (markB (a2 / 12))) W := by
     rcases hc with e | e | e <;> rw [e]
     ·exact ⟨by decide, fun W => by rw [show wrap64 (-1 + 1) = 0 by decide +kernel, show markB (-1) = ⟨#[95]⟩ from rfl]; exact (ix3 _ _ _ W).1⟩
     ·exact ⟨by decide, fun W => by rw [show wrap64 (0 + 1) = 1 by decide +kernel, show markB (0) = ⟨#[]⟩ from rfl]; exact (ix3 _ _ _ W).2.1⟩
     ·exact ⟨by decide, fun W => by rw [show wrap64 (1 + 1) = 2 by decide +kernel, show markB (1) = ⟨#[94]⟩ from rfl]; exact (ix3 _ _ _ W).2.2⟩
    exact impl_pitchIn_numbers a1 a2 (a2 % 12) (a2 / 12) _ w hL (impl_ToneOf_w _ (by omega) (by omega)) (impl_octaveOf_w _ (by omega) (by omega)) hm.1 hm.2 (by omega) (by omega) _ hX.1 hX.2
   ·rw [if_neg s3]
    by_cases s4 : a0 = 4
    ·subst s4
     rw [if_pos rfl]
     refine impl_pitchIn_fixed a1 a2 0 _ w hL (fun V hV => ?_)
     rw [hw1, show wrap64 (a2 + a1 + 60) = a2 + a1 + 60 by unfold wrap64; omega]
     exact impl_Decimal_w _ (by omega) (by omega) V hV
    ·rw [if_neg s4]
     exact impl_pitchIn_sargam a0 a1 a2 _ w s2 s3 s4 (impl_pitchText_w a2 (by omega) (by omega))
 ·rw [if_neg hb] at h
  cases h
def strings_Join.f (l0 : List ByteArray) (a1 : ByteArray) : Option (ByteArray) := if (Lib.join (l0.map (·.data.toList)) a1.data.toList).length ≤ 140737488355328 ∧ l0.length ≤ 140737488355328 then some ⟨(Lib.join (l0.map (·.data.toList)) a1.data.toList).toArray⟩ else none
theorem strings_Join.calls (A0 : Option Addr) (c0 : Nat) (l0 : List ByteArray) (a1 : ByteArray) (r : ByteArray) (w : World) (hr0 : Kd.C Kd.string w A0 l0.length l0) (hc0 : l0.length ≤ c0) (h : strings_Join.f l0 a1 = some r) :
  Calls Tryz.prog 61 #[.slice A0 l0.length c0, .string a1] w fun e w' => e = .returned (.string r) ∧ Below w.heap.size w w' := by
 unfold strings_Join.f at h
 by_cases hb : (Lib.join (l0.map (·.data.toList)) a1.data.toList).length ≤ 140737488355328 ∧ l0.length ≤ 140737488355328
 ·rw [if_pos hb] at h
  obtain rfl := Option.some.inj h
  rcases Nat.eq_zero_or_pos l0.length with h0 | h0
  ·obtain rfl := List.eq_nil_of_length_eq_zero h0
   refine (Tryz.strings_Join_none A0 c0 a1 w).mono ?_
   rintro e w' ⟨rfl, rfl⟩
   exact ⟨rfl, Below.refl _ _⟩
  ·obtain ⟨⟨bk, o, sp⟩, rfl, hx⟩ := hr0.2.2 h0
   have hcell : ∀ (j : Nat) x, l0[j]? = some x → w.cell? (Addr.add ⟨bk, o, sp⟩ j) = some (.string x) := by
    intro j x hj
    obtain ⟨c, hl, rfl, hc⟩ := hx j x hj
    have := hc 0 _ rfl
    rwa [show (Kd.string).sz = 1 from rfl, Nat.mul_one, Nat.add_zero] at this
   obtain ⟨x0, hx0⟩ : ∃ x, l0[0]? = some x := ⟨_, List.getElem?_eq_getElem h0⟩
   have h00 := hcell 0 x0 hx0
   have hsp : sp = none := by
    rw [Addr.add_zero'] at h00
    unfold World.cell? at h00
    cases sp with
    | none => rfl
    | some s => split at h00 <;> simp at h00
   subst hsp
   have hadd : ∀ j, Addr.add ⟨bk, o, none⟩ j = ⟨bk, o + j, none⟩ := fun j => by unfold Addr.add; split <;> simp_all
   refine (Tryz.strings_Join bk o c0 l0 a1 w (fun j x hj => by rw [← hadd]; exact hcell j x hj) ?_ hb.2 hc0 hb.1).mono ?_
   ·have := World.block_lt_of_cell? w _ h00
    rwa [Addr.add_zero'] at this
   ·rintro e w' ⟨rfl, hb'⟩
    exact ⟨rfl, hb'⟩
 ·rw [if_neg hb] at h
  cases h
end Go.Proofs.YtgklofginkafgaaGreatDoor.PS
end
section
namespace Go.Proofs.YtgklofginkafgaaGreatDoor.PS
open Go.RowKit Go.Proofs.YtgklofginkafgaaGreatDoorW.PrintWords Go.Proofs.YtgklofginkafgaaGreatDoorW.PrintLast Go.Proofs.YtgklofginkafgaaGreatDoorW.PrintMore
attribute [local go_sem] max2_int min2_int max_two min_two max_three min_three max_four min_four
set_option linter.unusedVariables false
set_option linter.unusedSimpArgs false
def impl_notesIn.l0 : Nat → Int → Int → List ByteArray → List (S70) → Int → Int → Option (ByteArray)
 | 0, _, _, _, _, _, _ => none
 | k + 1, x0, x1, x7, x10, x11, x12 => if x12 < x11 then (if 0 ≤ x12 then (if x12 < (x10.length : Int) then ((impl_pitchIn.f x0 x1 ((rd_T70 x10 x12).f0)).bind fun t191 => (if t191.size + 1 ≤ 9223372036854775807 then ((impl_Decimal.f ((rd_T70 x10 x12).f1)).bind fun t192 => (if (t191 ++ (⟨#[58]⟩ : ByteArray)).size + t192.size ≤ 9223372036854775807 then (if x7.length < 8796093022208 then (impl_notesIn.l0 k x0 x1 (x7 ++ [(t191 ++ (⟨#[58]⟩ : ByteArray)) ++ t192]) x10 x11 (wrap64 (x12 + 1))) else (none)) else (none))) else (none))) else (none)) else (none)) else ((strings_Join.f x7 (⟨#[32]⟩ : ByteArray)).bind fun t196 => (some t196))
def impl_notesIn.f (k : Nat) (a0 : Int) (a1 : Int) (l2 : List (S70)) : Option (ByteArray) := impl_notesIn.l0 k a0 a1 ([] : List ByteArray) l2 (l2.length : Int) 0
theorem impl_notesIn.mono_l : ∀ k, (∀ y0 y1 y2 y3 y4 y5, LeO (impl_notesIn.l0 k y0 y1 y2 y3 y4 y5) (impl_notesIn.l0 (k + 1) y0 y1 y2 y3 y4 y5))
 | 0 => fun _ _ _ _ _ _ r h => by simp [impl_notesIn.l0] at h
 | k + 1 => by
  have ih0 := impl_notesIn.mono_l k
  ·intro y0 y1 y2 y3 y4 y5
   unfold impl_notesIn.l0
   repeat' first
   | (with_reducible exact ih0 _ _ _ _ _ _)
   | (with_reducible exact LeO.refl _)
   | (with_reducible exact LeO.none _)
   | (with_reducible refine LeO.ite ?_ ?_)
   | (with_reducible refine LeO.bind ?_ (fun _ => ?_))
theorem impl_notesIn.mono : ∀ a0 a1 a2 k, LeO (impl_notesIn.f k a0 a1 a2) (impl_notesIn.f (k + 1) a0 a1 a2) := by
 intro a0 a1 a2 k
 have ih0 := impl_notesIn.mono_l k
 unfold impl_notesIn.f
 repeat' first
   | (with_reducible exact ih0 _ _ _ _ _ _)
   | (with_reducible exact LeO.refl _)
   | (with_reducible exact LeO.none _)
   | (with_reducible refine LeO.ite ?_ ?_)
   | (with_reducible refine LeO.bind ?_ (fun _ => ?_))
def impl_notesIn.T5 : Bool × List (List Nat × List Nat) := (true, [([], []), ([], []), ([], []), ([], []), ([3], [3]), ([1, 2, 4], [1, 2, 4]), ([5], [5]), ([], []), ([7], [7]), ([8, 5], [8]), ([6, 9], [6, 9]), ([10], [10]), ([0, 11, 9], [0, 11]), ([12, 12, 0, 1, 2, 3, 4, 5, 6, 7, 8, 9, 10, 11, 12], [0, 12])])
def impl_notesIn.B5 : List Nat := [0, 0, 0, 0, 8, 30, 62, 0, 128, 446, 1022, 2046, 4095, 8191]
theorem impl_notesIn.tab5 : rtab .any (opsOf Tryz.f39 5) = impl_notesIn.T5 := by kernel_rfl
theorem impl_notesIn.bits5 : waitsOk impl_notesIn.T5.2 impl_notesIn.B5 = true := by kernel_rfl
set_option maxHeartbeats 8000000 in
set_option maxRecDepth 100000 in
theorem impl_notesIn.calls (k : Nat) (a0 : Int) (a1 : Int) (A2 : Option Addr) (c2 : Nat) (l2 : List (S70)) (r : ByteArray) (w : World) (hr2 : Kd.C k70 w A2 l2.length l2) (hc2 : l2.length ≤ c2) (hL : Lv w) (h : impl_notesIn.f k a0 a1 l2 = some r) :
  Calls Tryz.prog 39 #[.int .i64 a0, .int .i64 a1, .slice A2 l2.length c2] w fun e w' => e = .returned (.string r) ∧ Below w.heap.size w w' := by
 have hu70 := Tryz.underlying70
 have HR2 := Aside0.mk hr2
 have HC2 := Aside0.mk hc2
 clear hr2 hc2
 have HB := Aside0.mk (Below.refl w.heap.size w)
 have H : (impl_notesIn.l0 k a0 a1 ([] : List ByteArray) l2 (l2.length : Int) 0) = some r := h
 clear h
 have H' := Aside0.mk H
 clear H
 go_enter Tryz.func39, Tryz.ntmps39
 go_wp2
 go_loopg [7, 12] k (fun kq v7 v12 w' => ∃ (x7_1 : List ByteArray) (x12_1 : Int), v12 = .int .i64 x12_1 ∧ Aside0 (impl_notesIn.l0 kq a0 a1 x7_1 l2 (l2.length : Int) x12_1 = some r) ∧ Aside0 (kq ≤ k) ∧ Aside0 (Kd.R Kd.string 9 w' w.heap.size (fun _ => True) v7 x7_1) ∧ Aside0 (Below w.heap.size w w'))
 case atStart => exact ⟨(([] : List ByteArray)), (0), rs_, H', ⟨Nat.le_refl _⟩, ⟨rn_⟩, ⟨bw_⟩⟩
 case round =>
  clear H'
  try clear c2
  try clear p2
  try clear c3
  obtain ⟨x7_1, x12_1, rfl, HA, HK1, HO_7, HB⟩ := hrel
  cases gk with
  | zero => exact absurd HA.out (by simp [impl_notesIn.l0])
  | succ k1 =>
   have H := HA.out
   clear HA
   simp only [impl_notesIn.l0] at H
   by_cases c4 : x12_1 < (l2.length : Int)
   ·rw [if_pos c4] at H
    have c4b0 : decide (x12_1 < (l2.length : Int)) = true := decide_eq_true c4
    clear c4
    by_cases c5 : 0 ≤ x12_1
    ·rw [if_pos c5] at H
     have c5b0 : decide (0 ≤ x12_1) = true := decide_eq_true c5
     clear c5
     by_cases c6 : x12_1 < (l2.length : Int)
     ·rw [if_pos c6] at H
      have c6b0 : decide (x12_1 < (l2.length : Int)) = true := decide_eq_true c6
      clear c6
      replace H := Option.bind_eq_some_iff.mp H
      obtain ⟨t191, A70, H⟩ := H
      replace H : (if t191.size + 1 ≤ 9223372036854775807 then ((impl_Decimal.f ((rd_T70 l2 x12_1).f1)).bind fun t192 => (if (t191 ++ (⟨#[58]⟩ : ByteArray)).size + t192.size ≤ 9223372036854775807 then (if x7_1.length < 8796093022208 then (impl_notesIn.l0 k1 a0 a1 (x7_1 ++ [(t191 ++ (⟨#[58]⟩ : ByteArray)) ++ t192]) l2 (l2.length : Int) (wrap64 (x12_1 + 1))) else (none)) else (none))) else (none)) = some r := H
      have A7 := Aside0.mk A70
      clear A70
      by_cases c8 : t191.size + 1 ≤ 9223372036854775807
      ·rw [if_pos c8] at H
       have c8b0 := eq_true c8
       have c8b1 : decide (t191.size + 1 ≤ 9223372036854775807) = true := decide_eq_true c8
       try have c8b2 : (9223372036854775807 < t191.size + 1) = False := eq_false (Nat.not_lt.2 c8)
       replace H := Option.bind_eq_some_iff.mp H
       obtain ⟨t192, A90, H⟩ := H
       replace H : (if (t191 ++ (⟨#[58]⟩ : ByteArray)).size + t192.size ≤ 9223372036854775807 then (if x7_1.length < 8796093022208 then (impl_notesIn.l0 k1 a0 a1 (x7_1 ++ [(t191 ++ (⟨#[58]⟩ : ByteArray)) ++ t192]) l2 (l2.length : Int) (wrap64 (x12_1 + 1))) else (none)) else (none)) = some r := H
       have A9 := Aside0.mk A90
       clear A90
       by_cases c10 : (t191 ++ (⟨#[58]⟩ : ByteArray)).size + t192.size ≤ 9223372036854775807
       ·rw [if_pos c10] at H
        have c10b0 := eq_true c10
        have c10b1 : decide ((t191 ++ (⟨#[58]⟩ : ByteArray)).size + t192.size ≤ 9223372036854775807) = true := decide_eq_true c10
        try have c10b2 : (9223372036854775807 < (t191 ++ (⟨#[58]⟩ : ByteArray)).size + t192.size) = False := eq_false (Nat.not_lt.2 c10)
        have c10b3 := c10
        (try simp only [ByteArray.size_append] at c10b3)
        (try simp only [show (⟨#[58]⟩ : ByteArray).size = 1 from rfl] at c10b3)
        (try have c10b4 := eq_false (Nat.not_lt.2 c10b3))
        by_cases c11 : x7_1.length < 8796093022208
        ·rw [if_pos c11] at H
         have LMc11 := Aside0.mk c11
         clear c11
         obtain ⟨y193, hy193⟩ : ∃ y_ : List ByteArray, y_ = (x7_1 ++ [(t191 ++ (⟨#[58]⟩ : ByteArray)) ++ t192]) := ⟨_, rfl⟩
         replace H : (impl_notesIn.l0 k1 a0 a1 y193 l2 (l2.length : Int) (wrap64 (x12_1 + 1))) = some r := by first | (rw [hy193]; with_reducible exact H) | (have H2_ := (Option.bind_some _ _).symm.trans H; rw [hy193]; with_reducible exact H2_) | (have H2_ := (Option.bind_some _ _).symm.trans H; with_reducible exact H2_) | with_reducible exact H | (rw [hy193]; exact H) | exact H
         have Ny193 := Aside0.mk hy193
         clear hy193
         have H' := Aside0.mk H
         clear H
         have p189 : 0 ≤ (x12_1 : Int) := of_decide_eq_true as_
         have q189 : x12_1 < (l2.length : Int) := of_decide_eq_true as_
         obtain ⟨ad189, e189, hx189_0, hx189_1⟩ := at_T70 HR2.out x12_1 p189 q189
         cases e189
         replace hx189_0 := (HB.out.cell (World.block_lt_of_cell? w _ hx189_0)).trans hx189_0
         replace hx189_1 := (HB.out.cell (World.block_lt_of_cell? w _ hx189_1)).trans hx189_1
         replace p189 := eq_true p189
         replace q189 := eq_true q189
         try go_wp2_with (first | ((with_reducible refine gate_dst (N := 9) rfl ?_); refine box_event ?hg (N := 9) ?hd (cs := #[.int .i64 0, .int .i64 0]) (t := 70) ?hr ?_; (case hd => rfl); (case hg => rfl); (case hr => first | (go_simp; done) | (go_simp; rfl)); intro gb190 hg w12 hbox hb; have n0_ := Aside0.mk (Kd.R_below (kr_ HO_7.out) hb); have n1_ := Aside0.mk (below_step bw_ hb); have n2_ := Aside0.mk (hbox); have n3_ := Aside0.mk ((by rw [hg]; exact (below_size bw_) : w.heap.size ≤ gb190)); have n4_ := Aside0.mk ((by rw [hg]; exact (below_size bw_) : w.heap.size ≤ gb190)); clear HO_7; clear HB; have HO_7 := n0_; have HB := n1_; have BK190 := n2_; have GW190 := n3_; have GE190 := n4_; clear n0_ n1_ n2_ n3_ n4_; clear hb hbox hg; have hcz13_0 : w12.cell? ⟨gb190, 0, none⟩ = some (.int .i64 0) := (blk_cell BK190.out 0).trans rfl; have hcz13_1 : w12.cell? ⟨gb190, 1, none⟩ = some (.int .i64 0) := (blk_cell BK190.out 1).trans rfl; have hfz13_0 := blk_frozen BK190.out 0; have hfz13_1 := blk_frozen BK190.out 1))
         have n0_ : Aside0 (Kd.R Kd.string 9 ((w12.setCell ⟨gb190, 0, none⟩ (.int .i64 ((rd_T70 l2 x12_1).f0))).setCell ⟨gb190, 1, none⟩ (.int .i64 ((rd_T70 l2 x12_1).f1))) w.heap.size (fun _ => True) u7 x7_1) := ⟨by (with_reducible repeat (first | apply Kd.R_alloc | apply Kd.R_drewN | apply Kd.R_drew)); exact Kd.R_mono (Kd.R_far (p := ⟨gb190, 1, none⟩) (Kd.R_far (p := ⟨gb190, 0, none⟩) (Kd.R_types HO_7.out BK190.out (by decide)) (fun _ hk => hk.2) (.int .i64 ((rd_T70 l2 x12_1).f0))) (fun _ hk => hk.2) (.int .i64 ((rd_T70 l2 x12_1).f1))) (fun _ hk => trivial)⟩
         have n1_ : Aside0 (((w12.setCell ⟨gb190, 0, none⟩ (.int .i64 ((rd_T70 l2 x12_1).f0))).setCell ⟨gb190, 1, none⟩ (.int .i64 ((rd_T70 l2 x12_1).f1))).heap[gb190]? = some (.cells #[.int .i64 ((rd_T70 l2 x12_1).f0), .int .i64 ((rd_T70 l2 x12_1).f1)] 70 (0, 0))) := ⟨by (with_reducible repeat (first | refine blk_drewN ?_ _ | refine blk_drew ?_ | refine blk_alloc ?_ _)); refine blk_put (cs := #[.int .i64 ((rd_T70 l2 x12_1).f0), .int .i64 0]) ?_ 1 _ rfl; (with_reducible repeat (first | refine blk_drewN ?_ _ | refine blk_drew ?_ | refine blk_alloc ?_ _)); refine blk_put (cs := #[.int .i64 0, .int .i64 0]) ?_ 0 _ rfl; (with_reducible repeat (first | refine blk_drewN ?_ _ | refine blk_drew ?_ | refine blk_alloc ?_ _)); exact BK190.out⟩
         have n2_ : Aside0 (Below w.heap.size w ((w12.setCell ⟨gb190, 0, none⟩ (.int .i64 ((rd_T70 l2 x12_1).f0))).setCell ⟨gb190, 1, none⟩ (.int .i64 ((rd_T70 l2 x12_1).f1)))) := ⟨bw_⟩
         (try clear HO_7)
         (try clear BK190)
         (try clear HB)
         generalize ((w12.setCell ⟨gb190, 0, none⟩ (.int .i64 ((rd_T70 l2 x12_1).f0))).setCell ⟨gb190, 1, none⟩ (.int .i64 ((rd_T70 l2 x12_1).f1))) = w14 at n0_ n1_ n2_ ⊢
         have HO_7 := n0_
         have BK190 := n1_
         have HB := n2_
         clear n0_ n1_ n2_
         have n0_ := Aside0.mk (Kd.R_drew HO_7.out)
         have n1_ := Aside0.mk (blk_drew BK190.out)
         have n2_ := Aside0.mk (below_drew1 HB.out)
         clear HO_7
         clear BK190
         clear HB
         have HO_7 := n0_
         have BK190 := n1_
         have HB := n2_
         clear n0_ n1_ n2_
         refine start_ (n := 14) (S := fun w' => w'.cell? ⟨gb190, 0, none⟩ = some (.int .i64 ((rd_T70 l2 x12_1).f0)) ∧ w'.cell? ⟨gb190, 1, none⟩ = some (.int .i64 ((rd_T70 l2 x12_1).f1))) (ds := []) #[false, false, false, false, false, false, false, false, false, false, false, false, false, false] (by kernel_rfl) rfl rfl ⟨(blk_cell BK190.out 0).trans rfl, (blk_cell BK190.out 1).trans rfl⟩ (fun hHeld => ?_); refine with_tabW impl_notesIn.tab5 impl_notesIn.bits5 (fun HT_ HW_ => ?_)
         generalize w14.drew = w15 at HO_7 BK190 HB hHeld ⊢
         refine pure_ (i := 0) (N := some 16) (v := ?_) (a' := ?_) #[true, false, false, false, false, false, false, false, false, false, false, false, false, false] rfl rfl (any_of HT_.out (by kernel_rfl)) (fun _ _ _ h => h) (Or.inl ⟨by rfl, ?_⟩) ?_ ?_
         rotate_left
         ·intro w'
          go_simp
          with_reducible rfl
         rotate_left
         ·simp only [Act.put, List.setIfInBounds_toArray, List.set_cons_zero, List.set_cons_succ, i64_w, i32_w]
          rfl
         refine pure_ (i := 1) (N := some 17) (v := ?_) (a' := ?_) #[true, true, false, false, false, false, false, false, false, false, false, false, false, false] rfl rfl (any_of HT_.out (by kernel_rfl)) (fun _ _ _ h => h) (Or.inl ⟨by rfl, ?_⟩) ?_ ?_
         rotate_left
         ·intro w'
          go_simp
          with_reducible rfl
         rotate_left
         ·simp only [Act.put, List.setIfInBounds_toArray, List.set_cons_zero, List.set_cons_succ, i64_w, i32_w]
          rfl
         refine pure_ (i := 2) (N := some 18) (v := ?_) (a' := ?_) #[true, true, true, false, false, false, false, false, false, false, false, false, false, false] rfl rfl (any_of HT_.out (by kernel_rfl)) (fun _ _ _ h => h) (Or.inl ⟨by rfl, ?_⟩) ?_ ?_
         rotate_left
         ·intro w'
          go_simp
          with_reducible rfl
         rotate_left
         ·simp only [Act.put, List.setIfInBounds_toArray, List.set_cons_zero, List.set_cons_succ, i64_w, i32_w]
          rfl
         refine pure_ (i := 3) (N := some 19) (v := ?_) (a' := ?_) #[true, true, true, true, false, false, false, false, false, false, false, false, false, false] rfl rfl (any_of HT_.out (by kernel_rfl)) (fun _ _ _ h => h) (Or.inl ⟨by rfl, ?_⟩) ?_ ?_
         rotate_left
         ·intro w'
          go_simp
          with_reducible rfl
         rotate_left
         ·simp only [Act.put, List.setIfInBounds_toArray, List.set_cons_zero, List.set_cons_succ, i64_w, i32_w]
          rfl
         refine pure_ (i := 7) (N := some 23) (v := ?_) (a' := ?_) #[true, true, true, true, false, false, false, true, false, false, false, false, false, false] rfl rfl (any_of HT_.out (by kernel_rfl)) (fun _ _ _ h => h) (Or.inl ⟨by rfl, ?_⟩) ?_ ?_
         rotate_left
         ·intro w'
          go_simp
          with_reducible rfl
         rotate_left
         ·simp only [Act.put, List.setIfInBounds_toArray, List.set_cons_zero, List.set_cons_succ, i64_w, i32_w]
          rfl
         refine take_ (i := 4) (N := some 20) (v := ?_) (a' := ?_) #[true, true, true, true, true, false, false, true, false, false, false, false, false, false] rfl rfl (take_ofW HT_.out HW_.out (by kernel_rfl)) (fun _ _ _ h => h) (Or.inl ⟨by rfl, ?_⟩) hHeld ?_ ?_
         rotate_left
         ·rintro w' ⟨s0, s1⟩
          go_simp
          with_reducible rfl
         rotate_left
         ·simp only [Act.put, List.setIfInBounds_toArray, List.set_cons_zero, List.set_cons_succ, i64_w, i32_w]
          rfl
         refine take_ (i := 8) (N := some 24) (v := ?_) (a' := ?_) #[true, true, true, true, true, false, false, true, true, false, false, false, false, false] rfl rfl (take_ofW HT_.out HW_.out (by kernel_rfl)) (fun _ _ _ h => h) (Or.inl ⟨by rfl, ?_⟩) hHeld ?_ ?_
         rotate_left
         ·rintro w' ⟨s0, s1⟩
          go_simp
          with_reducible rfl
         rotate_left
         ·simp only [Act.put, List.setIfInBounds_toArray, List.set_cons_zero, List.set_cons_succ, i64_w, i32_w]
          rfl
         refine one_ (i := 5) (N := some 21) #[true, true, true, true, true, true, false, true, true, false, false, false, false, false] rfl rfl (one_of HT_.out (by kernel_rfl)) (by decide) (fun K hK => ?_)
         refine goes_ Tryz.func32 (by kernel_rfl) rfl #[.int .i64 a0, .int .i64 a1, .int .i64 ((rd_T70 l2 x12_1).f0)] (by rfl) rfl rfl ma_ ?_
         with_reducible refine (impl_pitchIn.calls a0 a1 ((rd_T70 l2 x12_1).f0) t191 _ ?side1 A7.out).mono ?_
         (case side1 => exact Lv.below hL bw_)
         rintro e w16 ⟨rfl, hb⟩
         refine ⟨_, rfl, ?_⟩
         have n0_ := Aside0.mk (Kd.R_below (kr_ HO_7.out) hb)
         have n1_ := Aside0.mk (blk_below (g := gb190) (o := .cells #[.int .i64 ((rd_T70 l2 x12_1).f0), .int .i64 ((rd_T70 l2 x12_1).f1)] 70 (0, 0)) (bk_ BK190.out) hb)
         have n2_ := Aside0.mk (below_step bw_ hb)
         clear HO_7
         clear BK190
         clear HB
         have HO_7 := n0_
         have BK190 := n1_
         have HB := n2_
         clear n0_ n1_ n2_
         (try clear hb)
         (try clear hb2)
         (try clear hk)
         (try clear hi)
         refine hK.out _ _ ⟨(blk_cell BK190.out 0).trans rfl, (blk_cell BK190.out 1).trans rfl⟩ (fun hHeld => ?_)
         clear hK K
         refine norm_ (a' := ?_) ?_ ?_
         rotate_left
         ·show Act.put _ (some 21) _ = _
          simp only [Act.put, List.setIfInBounds_toArray, List.set_cons_zero, List.set_cons_succ, i64_w, i32_w]
          rfl
         refine pure_ (i := 6) (N := some 22) (v := ?_) (a' := ?_) #[true, true, true, true, true, true, true, true, true, false, false, false, false, false] rfl rfl (any_of HT_.out (by kernel_rfl)) (fun _ _ _ h => h) (Or.inl ⟨by rfl, ?_⟩) ?_ ?_
         rotate_left
         ·intro w'
          go_simp
          with_reducible rfl
         rotate_left
         ·simp only [Act.put, List.setIfInBounds_toArray, List.set_cons_zero, List.set_cons_succ, i64_w, i32_w]
          rfl
         refine one_ (i := 9) (N := some 25) #[true, true, true, true, true, true, true, true, true, true, false, false, false, false] rfl rfl (one_of HT_.out (by kernel_rfl)) (by decide) (fun K hK => ?_)
         refine goes_ Tryz.func56 (by kernel_rfl) rfl #[.int .i64 ((rd_T70 l2 x12_1).f1)] (by rfl) rfl rfl ma_ ?_
         with_reducible refine (impl_Decimal.calls ((rd_T70 l2 x12_1).f1) t192 _ ?side1 A9.out).mono ?_
         (case side1 => exact Lv.below hL bw_)
         rintro e w17 ⟨rfl, hb⟩
         refine ⟨_, rfl, ?_⟩
         have n0_ := Aside0.mk (Kd.R_below (kr_ HO_7.out) hb)
         have n1_ := Aside0.mk (blk_below (g := gb190) (o := .cells #[.int .i64 ((rd_T70 l2 x12_1).f0), .int .i64 ((rd_T70 l2 x12_1).f1)] 70 (0, 0)) (bk_ BK190.out) hb)
         have n2_ := Aside0.mk (below_step bw_ hb)
         clear HO_7
         clear BK190
         clear HB
         have HO_7 := n0_
         have BK190 := n1_
         have HB := n2_
         clear n0_ n1_ n2_
         (try clear hb)
         (try clear hb2)
         (try clear hk)
         (try clear hi)
         refine hK.out _ _ ⟨(blk_cell BK190.out 0).trans rfl, (blk_cell BK190.out 1).trans rfl⟩ (fun hHeld => ?_)
         clear hK K
         refine norm_ (a' := ?_) ?_ ?_
         rotate_left
         ·show Act.put _ (some 25) _ = _
          simp only [Act.put, List.setIfInBounds_toArray, List.set_cons_zero, List.set_cons_succ, i64_w, i32_w]
          rfl
         refine pure_ (i := 10) (N := some 26) (v := ?_) (a' := ?_) #[true, true, true, true, true, true, true, true, true, true, true, false, false, false] rfl rfl (any_of HT_.out (by kernel_rfl)) (fun _ _ _ h => h) (Or.inl ⟨by rfl, ?_⟩) ?_ ?_
         rotate_left
         ·intro w'
          go_simp
          with_reducible rfl
         rotate_left
         ·simp only [Act.put, List.setIfInBounds_toArray, List.set_cons_zero, List.set_cons_succ, i64_w, i32_w]
          rfl
         refine one_ (i := 11) (N := some 27) #[true, true, true, true, true, true, true, true, true, true, true, true, false, false] rfl rfl (one_of HT_.out (by kernel_rfl)) (by decide) (fun K hK => ?_)
         refine value_ (w1 := ?_) (v := ?_) (by rfl) rfl ?_ ?_
         rotate_left 2
         ·go_simp
          constructor
          ·rfl
          ·rfl
         refine hK.out _ _ ⟨(blk_cell (blk_alloc BK190.out _) 0).trans rfl, (blk_cell (blk_alloc BK190.out _) 1).trans rfl⟩ (fun hHeld => ?_)
         clear hK K
         refine norm_ (a' := ?_) ?_ ?_
         rotate_left
         ·show Act.put _ (some 27) _ = _
          simp only [Act.put, List.setIfInBounds_toArray, List.set_cons_zero, List.set_cons_succ, i64_w, i32_w]
          rfl
         refine one_ (i := 12) (N := some 28) #[true, true, true, true, true, true, true, true, true, true, true, true, true, false] rfl rfl (one_of HT_.out (by kernel_rfl)) (by decide) (fun K hK => ?_)
         refine Kd.R_append_step Kd.string (w0 := w) w.heap.size (by rfl) (.tmp 16) (.tmp 27) 84 9 (.string ⟨#[]⟩) 16 rfl Tryz.underlying84 info9 rfl (by decide) (by omega) u7 x7_1 ((t191 ++ (⟨#[58]⟩ : ByteArray)) ++ t192) [.string ((t191 ++ (⟨#[58]⟩ : ByteArray)) ++ t192)] (fun _ => True) (fun _ => False) rfl rfl ?aP (fun _ hk => hk.elim) ?aF ?aO ?aB ?aS ?aL ?_
         (case aP => exact rfl)
         (case aB => exact bw_)
         (case aF => exact (fun _ _ => trivial))
         (case aO => exact (kr_ HO_7.out))
         (case aS => exact (below_size bw_))
         (case aL => have := LMc11.out; omega)
         intro v194 w18 ho hb hg hat
         rw [← Ny193.out] at ho
         have n0_ := Aside0.mk (blk_grown (g := gb190) (o := .cells #[.int .i64 ((rd_T70 l2 x12_1).f0), .int .i64 ((rd_T70 l2 x12_1).f1)] 70 (0, 0)) (bk_ BK190.out) hg (Kd.R_ne HO_7.out BK190.out (by decide)))
         have n1_ := Aside0.mk (hb)
         have n2_ := Aside0.mk (ho)
         clear BK190
         clear HB
         clear HO_7
         have BK190 := n0_
         have HB := n1_
         have HO195 := n2_
         clear n0_ n1_ n2_
         clear ho hb hg hat
         refine hK.out _ _ ⟨(blk_cell BK190.out 0).trans rfl, (blk_cell BK190.out 1).trans rfl⟩ (fun hHeld => ?_)
         clear hK K
         refine norm_ (a' := ?_) ?_ ?_
         rotate_left
         ·show Act.put _ (some 28) _ = _
          simp only [Act.put, List.setIfInBounds_toArray, List.set_cons_zero, List.set_cons_succ, i64_w, i32_w]
          rfl
         refine pure_ (i := 13) (N := some 7) (v := ?_) (a' := ?_) #[true, true, true, true, true, true, true, true, true, true, true, true, true, true] rfl rfl (any_of HT_.out (by kernel_rfl)) (fun _ _ _ h => h) (Or.inl ⟨by rfl, ?_⟩) ?_ ?_
         rotate_left
         ·intro w'
          go_simp
          with_reducible rfl
         rotate_left
         ·simp only [Act.put, List.setIfInBounds_toArray, List.set_cons_zero, List.set_cons_succ, i64_w, i32_w]
          rfl
         refine done_ (done_of HT_.out (by kernel_rfl)) ?_
         try go_wp2
         go_roundg k1
         case measure => have := HK1.out; omega
         case rel => exact ⟨(y193), (wrap64 (x12_1 + 1)), rs_, H', ⟨by have := HK1.out; omega⟩, ⟨kr_ HO195.out⟩, ⟨bw_⟩⟩
        ·rw [if_neg c11] at H
         exact absurd H (by simp)
       ·rw [if_neg c10] at H
        exact absurd H (by simp)
      ·rw [if_neg c8] at H
       exact absurd H (by simp)
     ·rw [if_neg c6] at H
      exact absurd H (by simp)
    ·rw [if_neg c5] at H
     exact absurd H (by simp)
   ·rw [if_neg c4] at H
    have c4b0 : decide (x12_1 < (l2.length : Int)) = false := decide_eq_false c4
    clear c4
    replace H := Option.bind_eq_some_iff.mp H
    obtain ⟨t196, A190, H⟩ := H
    replace H : (some t196) = some r := H
    have A19 := Aside0.mk A190
    clear A190
    obtain rfl := Option.some.inj H
    obtain ⟨Ao20, co20, eo20⟩ := Kd.R_slice HO_7.out
    subst eo20
    go_wp2_with (first | ((with_reducible refine gate_callee (f := 61) rfl ?_); refine goesL_ (some 31) rfl rfl Tryz.func61 (by kernel_rfl) rfl #[.slice Ao20 x7_1.length co20, .string (⟨#[32]⟩ : ByteArray)] rfl ma_ ?_; (with_reducible refine (strings_Join.calls _ _ x7_1 (⟨#[32]⟩ : ByteArray) t196 _ ?side1 ?side2 A19.out).mono ?_); (case side1 => repeat (first | exact (Kd.R_reads' HO_7.out).2.2 | (with_reducible refine Kd.C_alloc ?_ _) | (with_reducible refine Kd.C_drewN ?_ _) | (with_reducible refine Kd.C_drew ?_))); (case side2 => exact (Kd.R_reads' HO_7.out).2.1); rintro e w21 ⟨rfl, hb⟩; refine ⟨_, rfl, ?_⟩; have n0_ := Aside0.mk (Kd.R_below (kr_ HO_7.out) hb); have n1_ := Aside0.mk (below_step bw_ hb); clear HO_7; clear HB; have HO_7 := n0_; have HB := n1_; clear n0_ n1_; (try clear hb); (try clear hb2); (try clear hk); (try clear hi)))
    go_ret
    exact ⟨re_, bw_⟩
def leastP (p : Int → Bool) : Int → Nat → Int × Bool
 | _, 0 => (0, false)
 | lo, n + 1 => if p lo then (lo, true) else leastP p (lo + 1) n
theorem impl_least_w (g : Nat) (lb : Array Value) (p : Int → Bool) (eg : ∀ args w, (callFunc g args).run Tryz.prog w = .ok (.enter g args) w) (lo hi : Int) (n : Nat) (hhi : hi = lo + n - 1) (hlo : -1000 ≤ lo ∧ lo ≤ 1000) (hn : n ≤ 1000) (w : World)
  (hp : ∀ (W : World) (x : Int), Below w.heap.size w W → lo ≤ x → x ≤ hi → Calls Tryz.prog g (#[.int .i64 x] ++ lb) W fun e w' => e = .returned (.bool (p x)) ∧ Below W.heap.size W w') :
  Calls Tryz.prog 34 #[.int .i64 lo, .int .i64 hi, .func (.func g) #[] lb] w fun e w' => e = .returned (.tuple #[.int .i64 (leastP p lo n).1, .bool (leastP p lo n).2]) ∧ Below w.heap.size w w' := by
 obtain ⟨r1, r2, hr⟩ : ∃ r1 r2, leastP p lo n = (r1, r2) := ⟨_, _, rfl⟩
 rw [hr]
 have HR := Aside0.mk (And.intro hhi (And.intro hlo (And.intro hn hr)))
 have HP := Aside0.mk hp
 clear hr hp hhi hlo hn
 go_enter Tryz.func34, Tryz.ntmps34
 go_wp2
 go_loopg [8] n (fun gg s8 wr => ∃ (x : Int) (k : Nat), s8 = .int .i64 x ∧ Below w.heap.size w wr ∧ Aside (k ≤ n ∧ n - k ≤ gg ∧ x = lo + k ∧ leastP p x (n - k) = (r1, r2)))
 case atStart => exact ⟨lo, 0, rfl, Below.refl _ w, ⟨Nat.zero_le _, by omega, by simp, by simpa using HR.out.2.2.2⟩⟩
 case round =>
  obtain ⟨x, k, rfl, hB, A⟩ := hrel
  obtain ⟨b1, b2⟩ : -1000 ≤ x ∧ x ≤ 3000 := by
   have a := A.out
   have b := HR.out
   omega
  by_cases hle : x ≤ hi
  ·obtain ⟨m, hm⟩ : ∃ m, n - k = m + 1 := ⟨n - k - 1, by have a := A.out; have b := HR.out; omega⟩
   have hstep : leastP p x (n - k) = if p x then (x, true) else leastP p (x + 1) m := by rw [hm]; rfl
   have hlox : lo ≤ x := by have a := A.out; omega
   have hcall := fun W hW => HP.out W x hW hlox hle
   have HC := Aside0.mk (And.intro hm (And.intro hstep hlox))
   clear hm hstep hlox
   cases hq : p x with
   | true =>
    rw [hq] at hcall
    go_wp2_with (go_at_fn g; refine (hcall _ (by first | exact hB | exact pw_below_drewN hB _)).mono ?_; rintro e w' ⟨rfl, hb⟩)
    first | go_ret2 | go_ret
    have e1 := A.out.2.2.2
    rw [HC.out.2.1, hq] at e1
    simp only [if_true, Prod.mk.injEq] at e1
    obtain ⟨rfl, rfl⟩ := e1
    exact ⟨rfl, below_then hB hB.size hb⟩
   | false =>
    rw [hq] at hcall
    go_wp2_with (go_at_fn g; refine (hcall _ (by first | exact hB | exact pw_below_drewN hB _)).mono ?_; rintro e w' ⟨rfl, hb⟩)
    go_roundg m
    case measure => have a := A.out; have b := HC.out.1; omega
    case rel =>
     refine ⟨x + 1, k + 1, by go_num, below_then hB hB.size hb, ?_⟩
     have a := A.out
     have c := HC.out
     refine ⟨by omega, by omega, by omega, ?_⟩
     have e1 := a.2.2.2
     rw [c.2.1, hq] at e1
     rw [show n - (k + 1) = m by omega]
     simpa using e1
  ·go_wp2
   first | go_ret2 | go_ret
   have a := A.out
   have b := HR.out
   have e1 := a.2.2.2
   rw [show n - k = 0 by omega] at e1
   injection e1 with e2 e3
   subst e2
   subst e3
   exact ⟨rfl, hB⟩
def readPitchIn1_T : Bool × List (List Nat × List Nat) := (true, [([], []), ([], []), ([], []), ([0, 1, 2], [0, 1, 2]), ([], []), ([3, 4], [3, 4]), ([5, 3, 0, 1, 2, 3, 4, 5], [5])])
def readPitchIn1_B : List Nat := [0, 0, 0, 7, 0, 31, 63]
theorem readPitchIn1_tab : rtab .any (opsOf Tryz.f59 1) = readPitchIn1_T := by kernel_rfl
theorem readPitchIn1_bits : waitsOk readPitchIn1_T.2 readPitchIn1_B = true := by kernel_rfl
def ReadHeld (w : World) (B1 B2 B3 : Nat) (s k : Int) (t : ByteArray) (W : World) : Prop :=
 W.cell? ⟨B1, 0, none⟩ = some (.int .i64 s) ∧ W.cell? ⟨B2, 0, none⟩ = some (.int .i64 k) ∧ W.cell? ⟨B3, 0, none⟩ = some (.string t) ∧ Below w.heap.size w W ∧ Lv W
theorem read_held {w W V : World} {B1 B2 B3 : Nat} {s k : Int} {t : ByteArray} (h : ReadHeld w B1 B2 B3 s k t W) (hb : Below W.heap.size W V) : ReadHeld w B1 B2 B3 s k t V :=
 ⟨(hb.cell (World.block_lt_of_cell? W _ h.1)).trans h.1, (hb.cell (World.block_lt_of_cell? W _ h.2.1)).trans h.2.1, (hb.cell (World.block_lt_of_cell? W _ h.2.2.1)).trans h.2.2.1, below_then h.2.2.2.1 h.2.2.2.1.size hb, h.2.2.2.2.below hb⟩
set_option maxHeartbeats 8000000 in
set_option maxRecDepth 100000 in
theorem impl_readPitchIn1_w (x s k : Int) (t Y : ByteArray) (B1 B2 B3 : Nat) (w : World) (hL : Lv w) (ht : ∀ V, Lv V → Calls Tryz.prog 32 #[.int .i64 s, .int .i64 k, .int .i64 x] V fun e w' => e = .returned (.string Y) ∧ Below V.heap.size V w')
  (c1 : w.cell? ⟨B1, 0, none⟩ = some (.int .i64 s)) (c2 : w.cell? ⟨B2, 0, none⟩ = some (.int .i64 k)) (c3 : w.cell? ⟨B3, 0, none⟩ = some (.string t)) :
  Calls Tryz.prog 59 #[.int .i64 x, .pointer (some ⟨B1, 0, none⟩), .pointer (some ⟨B2, 0, none⟩), .pointer (some ⟨B3, 0, none⟩)] w fun e w' => e = .returned (.bool (Y.toList == t.toList)) ∧ Below w.heap.size w w' := by
 go_enter Tryz.func59, Tryz.ntmps59
 go_wp2
 refine start_ (n := 7) (S := ReadHeld w B1 B2 B3 s k t) (ds := []) #[false, false, false, false, false, false, false] (by kernel_rfl) rfl rfl ⟨by simpa using c1, by simpa using c2, by simpa using c3, below_drew1 (Below.refl _ w), hL.below (below_drew1 (Below.refl _ w))⟩ (fun hHeld => ?_)
 refine with_tabW readPitchIn1_tab readPitchIn1_bits (fun HT_ HW_ => ?_)
 generalize World.drew _ = wS at hHeld ⊢
 refine pure_ (i := 2) (N := some 8) (v := ?_) (a' := ?_) #[false, false, true, false, false, false, false] rfl rfl (any_of HT_.out (by kernel_rfl)) (fun _ _ _ h => h) (Or.inl ⟨by rfl, ?_⟩) ?_ ?_
 rotate_left
 ·intro w'
  go_simp
  with_reducible rfl
 rotate_left
 ·simp only [Act.put, List.setIfInBounds_toArray, List.set_cons_zero, List.set_cons_succ, i64_w, i32_w]
  rfl
 refine take_ (i := 0) (N := some 6) (v := ?_) (a' := ?_) #[true, false, true, false, false, false, false] rfl rfl (take_ofW HT_.out HW_.out (by kernel_rfl)) (fun _ _ _ h => h) (Or.inl ⟨by rfl, ?_⟩) hHeld ?_ ?_
 rotate_left
 ·rintro w' ⟨s0, s1, s2, _⟩
  go_simp
  with_reducible rfl
 rotate_left
 ·simp only [Act.put, List.setIfInBounds_toArray, List.set_cons_zero, List.set_cons_succ, i64_w, i32_w]
  rfl
 refine take_ (i := 1) (N := some 7) (v := ?_) (a' := ?_) #[true, true, true, false, false, false, false] rfl rfl (take_ofW HT_.out HW_.out (by kernel_rfl)) (fun _ _ _ h => h) (Or.inl ⟨by rfl, ?_⟩) hHeld ?_ ?_
 rotate_left
 ·rintro w' ⟨s0, s1, s2, _⟩
  go_simp
  with_reducible rfl
 rotate_left
 ·simp only [Act.put, List.setIfInBounds_toArray, List.set_cons_zero, List.set_cons_succ, i64_w, i32_w]
  rfl
 refine take_ (i := 4) (N := some 10) (v := ?_) (a' := ?_) #[true, true, true, false, true, false, false] rfl rfl (take_ofW HT_.out HW_.out (by kernel_rfl)) (fun _ _ _ h => h) (Or.inl ⟨by rfl, ?_⟩) hHeld ?_ ?_
 rotate_left
 ·rintro w' ⟨s0, s1, s2, _⟩
  go_simp
  with_reducible rfl
 rotate_left
 ·simp only [Act.put, List.setIfInBounds_toArray, List.set_cons_zero, List.set_cons_succ, i64_w, i32_w]
  rfl
 refine one_ (i := 3) (N := some 9) #[true, true, true, true, true, false, false] rfl rfl (one_of HT_.out (by kernel_rfl)) (by decide) (fun K hK => ?_)
 refine goes_ Tryz.func32 (by kernel_rfl) rfl #[.int .i64 s, .int .i64 k, .int .i64 x] (by rfl) rfl rfl (by (try simp only [List.map_toArray, List.map_cons, List.map_nil]); first | done | rfl) ?_
 refine (ht _ hHeld.2.2.2.2).mono ?_
 rintro e w8 ⟨rfl, hB8⟩
 refine ⟨_, rfl, ?_⟩
 refine hK.out _ _ (read_held hHeld hB8) (fun hHeld => ?_)
 clear hK K hB8
 refine norm_ (a' := ?_) ?_ ?_
 rotate_left
 ·show Act.put _ (some 9) _ = _
  simp only [Act.put, List.setIfInBounds_toArray, List.set_cons_zero, List.set_cons_succ, i64_w, i32_w]
  rfl
 refine pure_ (i := 5) (N := some 11) (v := ?_) (a' := ?_) #[true, true, true, true, true, true, false] rfl rfl (any_of HT_.out (by kernel_rfl)) (fun _ _ _ h => h) (Or.inl ⟨by rfl, ?_⟩) ?_ ?_
 rotate_left
 ·intro w'
  go_simp
  with_reducible rfl
 rotate_left
 ·simp only [Act.put, List.setIfInBounds_toArray, List.set_cons_zero, List.set_cons_succ, i64_w, i32_w]
  rfl
 refine pure_ (i := 6) (N := some 5) (v := ?_) (a' := ?_) #[true, true, true, true, true, true, true] rfl rfl (any_of HT_.out (by kernel_rfl)) (fun _ _ _ h => h) (Or.inl ⟨by rfl, ?_⟩) ?_ ?_
 rotate_left
 ·intro w'
  go_simp
  with_reducible rfl
 rotate_left
 ·simp only [Act.put, List.setIfInBounds_toArray, List.set_cons_zero, List.set_cons_succ, i64_w, i32_w]
  rfl
 refine done_ (done_of HT_.out (by kernel_rfl)) ?_
 try go_wp2
 go_ret
 exact ⟨rfl, hHeld.2.2.2.1⟩
theorem box3 (w : World) (va vb vc : Value) (ta tb tc : Nat) :
  (((w.alloc (.cells #[va] ta (0, 0))).alloc (.cells #[vb] tb (0, 0))).alloc (.cells #[vc] tc (0, 0))).cell? ⟨w.heap.size, 0, none⟩ = some va ∧
  (((w.alloc (.cells #[va] ta (0, 0))).alloc (.cells #[vb] tb (0, 0))).alloc (.cells #[vc] tc (0, 0))).cell? ⟨w.heap.size + 1, 0, none⟩ = some vb ∧
  (((w.alloc (.cells #[va] ta (0, 0))).alloc (.cells #[vb] tb (0, 0))).alloc (.cells #[vc] tc (0, 0))).cell? ⟨w.heap.size + 2, 0, none⟩ = some vc := by
 have h2 := blk_new (w.alloc (.cells #[va] ta (0, 0))) (.cells #[vb] tb (0, 0))
 have h3 := blk_new ((w.alloc (.cells #[va] ta (0, 0))).alloc (.cells #[vb] tb (0, 0))) (.cells #[vc] tc (0, 0))
 have e2 : (w.alloc (.cells #[va] ta (0, 0))).heap.size = w.heap.size + 1 := by simp
 have e3 : ((w.alloc (.cells #[va] ta (0, 0))).alloc (.cells #[vb] tb (0, 0))).heap.size = w.heap.size + 2 := by simp
 rw [e2] at h2
 rw [e3] at h3
 exact ⟨(blk_cell (blk_alloc (blk_alloc (blk_new w _) _) _) 0).trans rfl, (blk_cell (blk_alloc h2 _) 0).trans rfl, (blk_cell h3 0).trans rfl⟩
def impl_readPitchIn.f (a0 : Int) (a1 : Int) (a2 : ByteArray) : Option (Int × Bool) := if 0 ≤ a1 ∧ a1 ≤ 11 then some (leastP (fun p => (pitchB a0 a1 p).toList == a2.toList) (-12) 36) else none
set_option maxHeartbeats 8000000 in
set_option maxRecDepth 100000 in
theorem impl_readPitchIn.calls (a0 : Int) (a1 : Int) (a2 : ByteArray) (r1 : Int) (r2 : Bool) (w : World) (hL : Lv w) (h : impl_readPitchIn.f a0 a1 a2 = some (r1, r2)) :
  Calls Tryz.prog 33 #[.int .i64 a0, .int .i64 a1, .string a2] w fun e w' => e = .returned (.tuple #[.int .i64 r1, .bool r2]) ∧ Below w.heap.size w w' := by
 unfold impl_readPitchIn.f at h
 by_cases hb : 0 ≤ a1 ∧ a1 ≤ 11
 ·rw [if_pos hb] at h
  have hr := Option.some.inj h
  clear h
  have eg : ∀ args w, (callFunc 59 args).run Tryz.prog w = .ok (.enter 59 args) w := enters_of Tryz.func59 (by kernel_rfl) rfl
  have hk := fun V hp => impl_least_w 59 #[.pointer (some ⟨w.heap.size, 0, none⟩), .pointer (some ⟨w.heap.size + 1, 0, none⟩), .pointer (some ⟨w.heap.size + 2, 0, none⟩)] (fun p => (pitchB a0 a1 p).toList == a2.toList) eg (-12) 23 36 (by omega) (by omega) (by omega) V hp
  rw [hr] at hk
  have hclo := fun x (x0 : -12 ≤ x) (x1 : x ≤ 23) W hW c1 c2 c3 => impl_readPitchIn1_w x a0 a1 a2 (pitchB a0 a1 x) w.heap.size (w.heap.size + 1) (w.heap.size + 2) W hW (fun V hV => impl_pitchIn.calls a0 a1 x _ V hV (if_pos ⟨hb.1, hb.2, x0, x1⟩)) c1 c2 c3
  have hb0 : ∀ a b c, Below w.heap.size w (((w.alloc a).alloc b).alloc c) := fun a b c => (((Below.refl w.heap.size w).alloc (Nat.le_refl _) a).alloc (o := b) (by simp)).alloc (o := c) (by simp <;> omega)
  have hlv := fun a b c => hL.below (hb0 a b c)
  have HK := Aside0.mk hk
  have HL := Aside0.mk hclo
  have HB0 := Aside0.mk hb0
  have HLV := Aside0.mk hlv
  clear hk hclo hr hb0 hlv
  go_enter Tryz.func33, Tryz.ntmps33
  go_wp2_with (go_at_call 34; go_loud (refine (HK.out _ (fun W x hb h0 h1 => HL.out x h0 h1 W ((HLV.out _ _ _).below hb) ((hb.cell (p := ⟨w.heap.size, 0, none⟩) (by simp <;> omega)).trans (box3 w _ _ _ _ _ _).1) ((hb.cell (p := ⟨w.heap.size + 1, 0, none⟩) (by simp <;> omega)).trans (box3 w _ _ _ _ _ _).2.1) ((hb.cell (p := ⟨w.heap.size + 2, 0, none⟩) (by simp <;> omega)).trans (box3 w _ _ _ _ _ _).2.2))).mono ?_); rintro e w' ⟨rfl, hb'⟩)
  first | go_ret2 | go_ret
  exact ⟨rfl, below_then (HB0.out _ _ _) (HB0.out _ _ _).size hb'⟩
 ·rw [if_neg hb] at h
  cases h
def impl_lengthOk.f (a0 : Int) : Option (Bool) := (impl_within.f a0 1 64).bind fun t197 => (some t197)
set_option maxHeartbeats 8000000 in
set_option maxRecDepth 100000 in
theorem impl_lengthOk.calls (a0 : Int) (r : Bool) (w : World) (h : impl_lengthOk.f a0 = some r) :
  Calls Tryz.prog 60 #[.int .i64 a0] w fun e w' => e = .returned (.bool r) ∧ Drawn0 w w' := by
 have H : ((impl_within.f a0 1 64).bind fun t197 => (some t197)) = some r := h
 clear h
 replace H := Option.bind_eq_some_iff.mp H
 obtain ⟨t197, A20, H⟩ := H
 replace H : (some t197) = some r := H
 have A2 := Aside0.mk A20
 clear A20
 obtain rfl := Option.some.inj H
 go_enter Tryz.func60, Tryz.ntmps60
 go_wp2_with (first | ((with_reducible refine gate_callee (f := 36) rfl ?_); refine goesL_ (some 4) rfl rfl Tryz.func36 (by kernel_rfl) rfl #[.int .i64 a0, .int .i64 1, .int .i64 64] rfl ma_ ?_; (with_reducible refine (impl_within.calls a0 1 64 t197 _ A2.out).mono ?_); rintro e w' ⟨rfl, ⟨nd, rfl⟩⟩; refine ⟨_, rfl, ?_⟩))
 go_ret
 exact ⟨rs_, dr_⟩
def impl_ValidMelody.l0 : Nat → List (S70) → Int → Int → Option (Bool)
 | 0, _, _, _ => none
 | k + 1, x8, x9, x10 => if x10 < x9 then (if 0 ≤ x10 then (if x10 < (x8.length : Int) then ((impl_pitchOk.f ((rd_T70 x8 x10).f0)).bind fun t200 => (if t200 = true then ((impl_lengthOk.f ((rd_T70 x8 x10).f1)).bind fun t201 => (if t201 = true then (impl_ValidMelody.l0 k x8 x9 (wrap64 (x10 + 1))) else (some false))) else (some false))) else (none)) else (none)) else (some true)
def impl_ValidMelody.f (k : Nat) (l0 : List (S70)) : Option (Bool) := if (l0.length : Int) > 48 then (some false) else (impl_ValidMelody.l0 k l0 (l0.length : Int) 0)
theorem impl_ValidMelody.mono_l : ∀ k, (∀ y0 y1 y2, LeO (impl_ValidMelody.l0 k y0 y1 y2) (impl_ValidMelody.l0 (k + 1) y0 y1 y2))
 | 0 => fun _ _ _ r h => by simp [impl_ValidMelody.l0] at h
 | k + 1 => by
  have ih0 := impl_ValidMelody.mono_l k
  ·intro y0 y1 y2
   unfold impl_ValidMelody.l0
   repeat' first
   | (with_reducible exact ih0 _ _ _)
   | (with_reducible exact LeO.refl _)
   | (with_reducible exact LeO.none _)
   | (with_reducible refine LeO.ite ?_ ?_)
   | (with_reducible refine LeO.bind ?_ (fun _ => ?_))
theorem impl_ValidMelody.mono : ∀ a0 k, LeO (impl_ValidMelody.f k a0) (impl_ValidMelody.f (k + 1) a0) := by
 intro a0 k
 have ih0 := impl_ValidMelody.mono_l k
 unfold impl_ValidMelody.f
 repeat' first
   | (with_reducible exact ih0 _ _ _)
   | (with_reducible exact LeO.refl _)
   | (with_reducible exact LeO.none _)
   | (with_reducible refine LeO.ite ?_ ?_)
   | (with_reducible refine LeO.bind ?_ (fun _ => ?_))
set_option maxHeartbeats 8000000 in
set_option maxRecDepth 100000 in
theorem impl_ValidMelody.calls (k : Nat) (A0 : Option Addr) (c0 : Nat) (l0 : List (S70)) (r : Bool) (w : World) (hr0 : Kd.C k70 w A0 l0.length l0) (hc0 : l0.length ≤ c0) (h : impl_ValidMelody.f k l0 = some r) :
  Calls Tryz.prog 38 #[.slice A0 l0.length c0] w fun e w' => e = .returned (.bool r) ∧ Below w.heap.size w w' := by
 have hu70 := Tryz.underlying70
 have HR0 := Aside0.mk hr0
 have HC0 := Aside0.mk hc0
 clear hr0 hc0
 have HB := Aside0.mk (Below.refl w.heap.size w)
 have H : (if (l0.length : Int) > 48 then (some false) else (impl_ValidMelody.l0 k l0 (l0.length : Int) 0)) = some r := h
 clear h
 by_cases c2 : (l0.length : Int) > 48
 ·rw [if_pos c2] at H
  have c2b0 : decide (48 < (l0.length : Int)) = true := decide_eq_true c2
  have c2b1 : decide (48 < l0.length) = true := decide_eq_true (by omega)
  clear c2
  obtain rfl := Option.some.inj H
  go_enter Tryz.func38, Tryz.ntmps38
  go_wp2
  go_ret
  exact ⟨re_, bw_⟩
 ·rw [if_neg c2] at H
  have c2b0 : decide (48 < (l0.length : Int)) = false := decide_eq_false c2
  have c2b1 : decide (48 < l0.length) = false := decide_eq_false (by omega)
  clear c2
  have H' := Aside0.mk H
  clear H
  go_enter Tryz.func38, Tryz.ntmps38
  go_wp2
  go_loopg [10] k (fun kq v10 w' => ∃ (x10_1 : Int), v10 = .int .i64 x10_1 ∧ Aside0 (impl_ValidMelody.l0 kq l0 (l0.length : Int) x10_1 = some r) ∧ Aside0 (kq ≤ k) ∧ Aside0 (Below w.heap.size w w'))
  case atStart => exact ⟨(0), rs_, H', ⟨Nat.le_refl _⟩, ⟨bw_⟩⟩
  case round =>
   clear H'
   try clear c2
   try clear c2b0
   try clear c2b1
   try clear p2
   obtain ⟨x10_1, rfl, HA, HK1, HB⟩ := hrel
   cases gk with
   | zero => exact absurd HA.out (by simp [impl_ValidMelody.l0])
   | succ k1 =>
    have H := HA.out
    clear HA
    simp only [impl_ValidMelody.l0] at H
    by_cases c3 : x10_1 < (l0.length : Int)
    ·rw [if_pos c3] at H
     have c3b0 : decide (x10_1 < (l0.length : Int)) = true := decide_eq_true c3
     clear c3
     by_cases c4 : 0 ≤ x10_1
     ·rw [if_pos c4] at H
      have c4b0 : decide (0 ≤ x10_1) = true := decide_eq_true c4
      clear c4
      by_cases c5 : x10_1 < (l0.length : Int)
      ·rw [if_pos c5] at H
       have c5b0 : decide (x10_1 < (l0.length : Int)) = true := decide_eq_true c5
       clear c5
       replace H := Option.bind_eq_some_iff.mp H
       obtain ⟨t200, A60, H⟩ := H
       replace H : (if t200 = true then ((impl_lengthOk.f ((rd_T70 l0 x10_1).f1)).bind fun t201 => (if t201 = true then (impl_ValidMelody.l0 k1 l0 (l0.length : Int) (wrap64 (x10_1 + 1))) else (some false))) else (some false)) = some r := H
       have A6 := Aside0.mk A60
       clear A60
       by_cases c7 : t200 = true
       ·subst c7
        have H1 : ((impl_lengthOk.f ((rd_T70 l0 x10_1).f1)).bind fun t201 => (if t201 = true then (impl_ValidMelody.l0 k1 l0 (l0.length : Int) (wrap64 (x10_1 + 1))) else (some false))) = some r := by rw [if_pos rfl] at H; exact H
        clear H
        have H := H1
        clear H1
        replace H := Option.bind_eq_some_iff.mp H
        obtain ⟨t201, A80, H⟩ := H
        replace H : (if t201 = true then (impl_ValidMelody.l0 k1 l0 (l0.length : Int) (wrap64 (x10_1 + 1))) else (some false)) = some r := H
        have A8 := Aside0.mk A80
        clear A80
        by_cases c9 : t201 = true
        ·subst c9
         have H1 : (impl_ValidMelody.l0 k1 l0 (l0.length : Int) (wrap64 (x10_1 + 1))) = some r := by rw [if_pos rfl] at H; exact H
         clear H
         have H := H1
         clear H1
         have H' := Aside0.mk H
         clear H
         have p198 : 0 ≤ (x10_1 : Int) := of_decide_eq_true as_
         have q198 : x10_1 < (l0.length : Int) := of_decide_eq_true as_
         obtain ⟨ad198, e198, hx198_0, hx198_1⟩ := at_T70 HR0.out x10_1 p198 q198
         cases e198
         replace hx198_0 := (HB.out.cell (World.block_lt_of_cell? w _ hx198_0)).trans hx198_0
         replace hx198_1 := (HB.out.cell (World.block_lt_of_cell? w _ hx198_1)).trans hx198_1
         replace p198 := eq_true p198
         replace q198 := eq_true q198
         go_wp2_with (first | ((with_reducible refine gate_dst (N := 4) rfl ?_); refine box_event ?hg (N := 4) ?hd (cs := #[.int .i64 0, .int .i64 0]) (t := 70) ?hr ?_; (case hd => rfl); (case hg => rfl); (case hr => first | (go_simp; done) | (go_simp; rfl)); intro gb199 hg w10 hbox hb; have n0_ := Aside0.mk (below_step bw_ hb); have n1_ := Aside0.mk (hbox); have n2_ := Aside0.mk ((by rw [hg]; exact (below_size bw_) : w.heap.size ≤ gb199)); have n3_ := Aside0.mk ((by rw [hg]; exact (below_size bw_) : w.heap.size ≤ gb199)); clear HB; have HB := n0_; have BK199 := n1_; have GW199 := n2_; have GE199 := n3_; clear n0_ n1_ n2_ n3_; clear hb hbox hg; have hcz11_0 : w10.cell? ⟨gb199, 0, none⟩ = some (.int .i64 0) := (blk_cell BK199.out 0).trans rfl; have hcz11_1 : w10.cell? ⟨gb199, 1, none⟩ = some (.int .i64 0) := (blk_cell BK199.out 1).trans rfl; have hfz11_0 := blk_frozen BK199.out 0; have hfz11_1 := blk_frozen BK199.out 1) | ((with_reducible refine gate_callee (f := 31) rfl ?_); refine goesL_ (some 16) rfl rfl Tryz.func31 (by kernel_rfl) rfl #[.int .i64 ((rd_T70 l0 x10_1).f0)] rfl ma_ ?_; (with_reducible refine (impl_pitchOk.calls ((rd_T70 l0 x10_1).f0) true _ A6.out).mono ?_); rintro e w' ⟨rfl, ⟨nd, rfl⟩⟩; refine ⟨_, rfl, ?_⟩) | (go_at_call 60; (with_reducible refine (impl_lengthOk.calls ((rd_T70 l0 x10_1).f1) true _ A8.out).mono ?_); rintro e w' ⟨rfl, ⟨nd, rfl⟩⟩))
         go_roundg k1
         case measure => have := HK1.out; omega
         case rel => exact ⟨(wrap64 (x10_1 + 1)), rs_, H', ⟨by have := HK1.out; omega⟩, ⟨bw_⟩⟩
        ·replace c9 := Bool.eq_false_iff.mpr c9
         subst c9
         have H1 : (some false) = some r := by rw [if_neg (show ¬ (false = true) by decide)] at H; exact H
         clear H
         have H := H1
         clear H1
         obtain rfl := Option.some.inj H
         have p198 : 0 ≤ (x10_1 : Int) := of_decide_eq_true as_
         have q198 : x10_1 < (l0.length : Int) := of_decide_eq_true as_
         obtain ⟨ad198, e198, hx198_0, hx198_1⟩ := at_T70 HR0.out x10_1 p198 q198
         cases e198
         replace hx198_0 := (HB.out.cell (World.block_lt_of_cell? w _ hx198_0)).trans hx198_0
         replace hx198_1 := (HB.out.cell (World.block_lt_of_cell? w _ hx198_1)).trans hx198_1
         replace p198 := eq_true p198
         replace q198 := eq_true q198
         go_wp2_with (first | ((with_reducible refine gate_dst (N := 4) rfl ?_); refine box_event ?hg (N := 4) ?hd (cs := #[.int .i64 0, .int .i64 0]) (t := 70) ?hr ?_; (case hd => rfl); (case hg => rfl); (case hr => first | (go_simp; done) | (go_simp; rfl)); intro gb199 hg w12 hbox hb; have n0_ := Aside0.mk (below_step bw_ hb); have n1_ := Aside0.mk (hbox); have n2_ := Aside0.mk ((by rw [hg]; exact (below_size bw_) : w.heap.size ≤ gb199)); have n3_ := Aside0.mk ((by rw [hg]; exact (below_size bw_) : w.heap.size ≤ gb199)); clear HB; have HB := n0_; have BK199 := n1_; have GW199 := n2_; have GE199 := n3_; clear n0_ n1_ n2_ n3_; clear hb hbox hg; have hcz13_0 : w12.cell? ⟨gb199, 0, none⟩ = some (.int .i64 0) := (blk_cell BK199.out 0).trans rfl; have hcz13_1 : w12.cell? ⟨gb199, 1, none⟩ = some (.int .i64 0) := (blk_cell BK199.out 1).trans rfl; have hfz13_0 := blk_frozen BK199.out 0; have hfz13_1 := blk_frozen BK199.out 1) | ((with_reducible refine gate_callee (f := 31) rfl ?_); refine goesL_ (some 16) rfl rfl Tryz.func31 (by kernel_rfl) rfl #[.int .i64 ((rd_T70 l0 x10_1).f0)] rfl ma_ ?_; (with_reducible refine (impl_pitchOk.calls ((rd_T70 l0 x10_1).f0) true _ A6.out).mono ?_); rintro e w' ⟨rfl, ⟨nd, rfl⟩⟩; refine ⟨_, rfl, ?_⟩) | (go_at_call 60; (with_reducible refine (impl_lengthOk.calls ((rd_T70 l0 x10_1).f1) false _ A8.out).mono ?_); rintro e w' ⟨rfl, ⟨nd, rfl⟩⟩))
         go_ret
         exact ⟨re_, bw_⟩
       ·replace c7 := Bool.eq_false_iff.mpr c7
        subst c7
        have H1 : (some false) = some r := by rw [if_neg (show ¬ (false = true) by decide)] at H; exact H
        clear H
        have H := H1
        clear H1
        obtain rfl := Option.some.inj H
        have p198 : 0 ≤ (x10_1 : Int) := of_decide_eq_true as_
        have q198 : x10_1 < (l0.length : Int) := of_decide_eq_true as_
        obtain ⟨ad198, e198, hx198_0, hx198_1⟩ := at_T70 HR0.out x10_1 p198 q198
        cases e198
        replace hx198_0 := (HB.out.cell (World.block_lt_of_cell? w _ hx198_0)).trans hx198_0
        replace hx198_1 := (HB.out.cell (World.block_lt_of_cell? w _ hx198_1)).trans hx198_1
        replace p198 := eq_true p198
        replace q198 := eq_true q198
        go_wp2_with (first | ((with_reducible refine gate_dst (N := 4) rfl ?_); refine box_event ?hg (N := 4) ?hd (cs := #[.int .i64 0, .int .i64 0]) (t := 70) ?hr ?_; (case hd => rfl); (case hg => rfl); (case hr => first | (go_simp; done) | (go_simp; rfl)); intro gb199 hg w14 hbox hb; have n0_ := Aside0.mk (below_step bw_ hb); have n1_ := Aside0.mk (hbox); have n2_ := Aside0.mk ((by rw [hg]; exact (below_size bw_) : w.heap.size ≤ gb199)); have n3_ := Aside0.mk ((by rw [hg]; exact (below_size bw_) : w.heap.size ≤ gb199)); clear HB; have HB := n0_; have BK199 := n1_; have GW199 := n2_; have GE199 := n3_; clear n0_ n1_ n2_ n3_; clear hb hbox hg; have hcz15_0 : w14.cell? ⟨gb199, 0, none⟩ = some (.int .i64 0) := (blk_cell BK199.out 0).trans rfl; have hcz15_1 : w14.cell? ⟨gb199, 1, none⟩ = some (.int .i64 0) := (blk_cell BK199.out 1).trans rfl; have hfz15_0 := blk_frozen BK199.out 0; have hfz15_1 := blk_frozen BK199.out 1) | ((with_reducible refine gate_callee (f := 31) rfl ?_); refine goesL_ (some 16) rfl rfl Tryz.func31 (by kernel_rfl) rfl #[.int .i64 ((rd_T70 l0 x10_1).f0)] rfl ma_ ?_; (with_reducible refine (impl_pitchOk.calls ((rd_T70 l0 x10_1).f0) false _ A6.out).mono ?_); rintro e w' ⟨rfl, ⟨nd, rfl⟩⟩; refine ⟨_, rfl, ?_⟩))
        go_ret
        exact ⟨re_, bw_⟩
      ·rw [if_neg c5] at H
       exact absurd H (by simp)
     ·rw [if_neg c4] at H
      exact absurd H (by simp)
    ·rw [if_neg c3] at H
     have c3b0 : decide (x10_1 < (l0.length : Int)) = false := decide_eq_false c3
     clear c3
     obtain rfl := Option.some.inj H
     go_wp2
     go_ret
     exact ⟨re_, bw_⟩
def strings_SplitN.f (a0 : ByteArray) (a1 : ByteArray) (a2 : Int) : Option (List ByteArray) := if a0.size < 4294967281 ∧ 1 ≤ a1.size ∧ 1 ≤ a2 ∧ a2 ≤ 1000000 then some (Lib.splitB a1 0 (min a2.toNat (a0.size + 1) - 1) a0) else none
theorem strings_SplitN.calls (a0 : ByteArray) (a1 : ByteArray) (a2 : Int) (r : List ByteArray) (w : World) (hL : Lv w) (h : strings_SplitN.f a0 a1 a2 = some r) :
  Calls Tryz.prog 62 #[.string a0, .string a1, .int .i64 a2] w fun e w' => ∃ v0_ : Value, e = .returned (v0_) ∧ Kd.R Kd.string 9 w' w.heap.size (fun _ => True) v0_ r ∧ Below w.heap.size w w' := by
 unfold strings_SplitN.f at h
 by_cases hb : a0.size < 4294967281 ∧ 1 ≤ a1.size ∧ 1 ≤ a2 ∧ a2 ≤ 1000000
 ·rw [if_pos hb] at h
  obtain rfl := Option.some.inj h
  obtain ⟨b1, b2, b3, b4⟩ := hb
  obtain ⟨n, rfl⟩ : ∃ n : Nat, a2 = (n : Int) := ⟨a2.toNat, by omega⟩
  obtain ⟨m, hm⟩ := hL.ml
  rw [Int.toNat_natCast]
  have hle := Lib.splitB_length_le a1 0 (min n (a0.size + 1) - 1) a0
  refine (Tryz.strings_SplitN a0 a1 n m w b1 hm b2 (by omega) (by omega)).mono ?_
  rintro e w' ⟨rfl, rfl⟩
  refine ⟨_, rfl, Kd.R_of_own ⟨by rw [encs_length, Nat.mul_one], .inr ⟨w.heap.size, _, _, rfl, Nat.le_refl _, blk_new w _, by omega, by simp only [maxLen]; omega, ?_, ?_⟩⟩ (fun k _ => trivial), below_alloc (Below.refl _ w) _⟩
  ·rw [Lib.cellsOf_size (by omega), Nat.mul_one]
  ·rw [Nat.mul_one]
   unfold Lib.cellsOf
   rw [List.take_left' (by rw [List.length_map])]
   rfl
 ·rw [if_neg hb] at h
  cases h
def strings_Cut.f (a0 : ByteArray) (a1 : ByteArray) : Option (ByteArray × ByteArray × Bool) := if a0.size < 4294967281 then some (⟨(Lib.cut a0.data.toList a1.data.toList).1.toArray⟩, ⟨(Lib.cut a0.data.toList a1.data.toList).2.1.toArray⟩, (Lib.cut a0.data.toList a1.data.toList).2.2) else none
theorem strings_Cut.calls (a0 : ByteArray) (a1 : ByteArray) (r1 : ByteArray) (r2 : ByteArray) (r3 : Bool) (w : World) (hL : Lv w) (h : strings_Cut.f a0 a1 = some (r1, r2, r3)) :
  Calls Tryz.prog 63 #[.string a0, .string a1] w fun e w' => e = .returned (.tuple #[.string r1, .string r2, .bool r3]) ∧ Below w.heap.size w w' := by
 unfold strings_Cut.f at h
 by_cases hb : a0.size < 4294967281
 ·rw [if_pos hb] at h
  obtain ⟨rfl, h2⟩ := Prod.mk.inj (Option.some.inj h)
  obtain ⟨rfl, rfl⟩ := Prod.mk.inj h2
  obtain ⟨m, hm⟩ := hL.ml
  refine (Tryz.strings_Cut a0 a1 m w hb hm).mono ?_
  rintro e w' ⟨rfl, n, rfl⟩
  exact ⟨rfl, pw_below_drewN (Below.refl _ w) n⟩
 ·rw [if_neg hb] at h
  cases h
def readDecB (a0 : ByteArray) : Int × Bool :=
 match Lib.parseIntB 64 a0.data.toList with
 | .ok n => if 18 < (Lib.trimPrefix a0.data.toList [45]).length then (0, false) else if (Lib.itoa n) = a0.data.toList then (n, true) else (0, false)
 | _ => (0, false)
theorem parseIntB_range (s : List UInt8) (v : Int) (h : Lib.parseIntB 64 s = .ok v) : -9223372036854775808 ≤ v ∧ v ≤ 9223372036854775807 := by
 unfold Lib.parseIntB at h
 cases s with
 | nil => cases h
 | cons c r =>
  simp only at h
  split at h
  ·cases h
  ·cases h
  ·rename_i u _
   split at h
   ·cases h
   ·split at h
    ·cases h
    ·injection h with h
     subst h
     simp only [Nat.reducePow, Nat.reduceSub] at *
     split <;> omega
def impl_ReadDecimal.f (a0 : ByteArray) : Option (Int × Bool) := if a0.size ≤ 281474976710656 then some (readDecB a0) else none
set_option maxHeartbeats 8000000 in
set_option maxRecDepth 100000 in
theorem impl_ReadDecimal.calls (a0 : ByteArray) (r1 : Int) (r2 : Bool) (w : World) (hL : Lv w) (h : impl_ReadDecimal.f a0 = some (r1, r2)) :
  Calls Tryz.prog 64 #[.string a0] w fun e w' => e = .returned (.tuple #[.int .i64 r1, .bool r2]) ∧ Below w.heap.size w w' := by
 unfold impl_ReadDecimal.f at h
 by_cases hb : a0.size ≤ 281474976710656
 ·rw [if_pos hb] at h
  have hr := Option.some.inj h
  clear h
  unfold readDecB at hr
  cases hp : Lib.parseIntB 64 a0.data.toList with
  | ok v =>
   rw [hp] at hr
   obtain ⟨v0, v1⟩ := parseIntB_range _ v hp
   have hP : ∀ V, Calls Tryz.prog 85 #[.string a0, .int .i64 10, .int .i64 64] V fun e w' => e = .returned (.tuple #[.int .i64 v, .nilIface]) ∧ Below V.heap.size V w' := fun V => by
    refine (Tryz.strconv_ParseInt_10_at64_ok a0 (by omega) v hp V).mono ?_
    rintro e w' ⟨rfl, rfl | ⟨t, rfl⟩⟩
    ·exact ⟨rfl, Below.refl _ _⟩
    ·exact ⟨rfl, rfl, rfl, rfl, by rw [Lib.bytesWorld_size]; omega, fun k hk => Lib.bytesWorld_at_old _ _ _ k (by omega)⟩
   have hT := fun V => Tryz.strings_TrimPrefix a0 ⟨#[45]⟩ V
   have hD : ∀ V, Lv V → Calls Tryz.prog 56 #[.int .i64 v] V fun e w' => e = .returned (.string ⟨(Lib.itoa v).toArray⟩) ∧ Below V.heap.size V w' := fun V hV => impl_Decimal.calls v _ V hV (if_pos ⟨v0, v1⟩)
   rw [show (⟨#[45]⟩ : ByteArray).data.toList = [45] from rfl] at hT
   have hLT : (⟨(Lib.trimPrefix a0.data.toList [45]).toArray⟩ : ByteArray).size = (Lib.trimPrefix a0.data.toList [45]).length := by simp [ByteArray.size]
   simp only at hr
   generalize Lib.trimPrefix a0.data.toList [45] = T at hr hT hLT
   generalize hTB : (⟨T.toArray⟩ : ByteArray) = TB at hT hLT
   clear hTB
   generalize hI : (⟨(Lib.itoa v).toArray⟩ : ByteArray) = I at hD
   have hIl : I.toList = Lib.itoa v := by rw [← hI, ByteArray.toList_eq]
   have ha0 : a0.toList = a0.data.toList := ByteArray.toList_eq a0
   clear hI hp
   by_cases h18 : 18 < T.length
   ·rw [if_pos h18] at hr
    obtain ⟨rfl, rfl⟩ := Prod.mk.inj hr
    have f1 : decide (18 < TB.size) = true := decide_eq_true (by omega)
    have f2 : decide ((18 : Int) < (TB.size : Int)) = true := decide_eq_true (by omega)
    go_enter Tryz.func64, Tryz.ntmps64
    go_wp2_with (first | (go_at_call 85; refine (hP _).mono ?_; rintro e w1 ⟨rfl, hb1⟩) | (go_at_call 86; refine (hT _).mono ?_; rintro e w2 ⟨rfl, rfl⟩))
    go_ret2
    exact ⟨rfl, hb1⟩
   ·rw [if_neg h18] at hr
    have f1 : decide (18 < TB.size) = false := decide_eq_false (by omega)
    have f2 : decide ((18 : Int) < (TB.size : Int)) = false := decide_eq_false (by omega)
    by_cases hE : Lib.itoa v = a0.data.toList
    ·rw [if_pos hE] at hr
     obtain ⟨rfl, rfl⟩ := Prod.mk.inj hr
     have g1 : I.toList = a0.toList := by rw [hIl, ha0, hE]
     have g2 : (I.toList == a0.toList) = true := beq_iff_eq.mpr g1
     have g3 : (I.toList != a0.toList) = false := bne_eq_false_iff_eq.mpr g1
     have g5 : (Lib.itoa v == a0.data.toList) = true := beq_iff_eq.mpr hE
     have g6 : (Lib.itoa v != a0.data.toList) = false := bne_eq_false_iff_eq.mpr hE
     go_enter Tryz.func64, Tryz.ntmps64
     go_wp2_with (first | (go_at_call 85; refine (hP _).mono ?_; rintro e w1 ⟨rfl, hb1⟩) | (go_at_call 86; refine (hT _).mono ?_; rintro e w2 ⟨rfl, rfl⟩) | (go_at_call 56; refine (hD _ (hL.below hb1)).mono ?_; rintro e w2 ⟨rfl, hb2⟩))
     go_ret2
     exact ⟨rfl, below_then hb1 hb1.size hb2⟩
    ·rw [if_neg hE] at hr
     obtain ⟨rfl, rfl⟩ := Prod.mk.inj hr
     have g1 : ¬ I.toList = a0.toList := by rw [hIl, ha0]; exact hE
     have g2 : (I.toList == a0.toList) = false := beq_eq_false_iff_ne.mpr g1
     have g3 : (I.toList != a0.toList) = true := bne_iff_ne.mpr g1
     have g5 : (Lib.itoa v == a0.data.toList) = false := beq_eq_false_iff_ne.mpr hE
     have g6 : (Lib.itoa v != a0.data.toList) = true := bne_iff_ne.mpr hE
     go_enter Tryz.func64, Tryz.ntmps64
     go_wp2_with (first | (go_at_call 85; refine (hP _).mono ?_; rintro e w1 ⟨rfl, hb1⟩) | (go_at_call 86; refine (hT _).mono ?_; rintro e w2 ⟨rfl, rfl⟩) | (go_at_call 56; refine (hD _ (hL.below hb1)).mono ?_; rintro e w2 ⟨rfl, hb2⟩))
     go_ret2
     exact ⟨rfl, below_then hb1 hb1.size hb2⟩
  | _ =>
   rw [hp] at hr
   obtain ⟨rfl, rfl⟩ := Prod.mk.inj hr
   have hP : ∀ V, Lv V → Calls Tryz.prog 85 #[.string a0, .int .i64 10, .int .i64 64] V fun e w' => (∃ (n : Int) (tp : TypeId) (p : Value), e = .returned (.tuple #[.int .i64 n, .iface tp p])) ∧ Below V.heap.size V w' := fun V hV => by
    obtain ⟨_, _, ⟨t3, p3, h3⟩, ⟨t4, p4, h4⟩⟩ := hV
    first
     | (refine (Tryz.strconv_ParseInt_10_at64_syntax_var a0 hb hp t3 p3 V h3).mono ?_; rintro e w' ⟨N, rfl, _, _, hbw⟩; exact ⟨⟨_, _, _, rfl⟩, hbw⟩)
     | (refine (Tryz.strconv_ParseInt_10_at64_range_var a0 hb hp t4 p4 V h4).mono ?_; rintro e w' ⟨N, rfl, _, _, hbw⟩; exact ⟨⟨_, _, _, rfl⟩, hbw⟩)
   clear hp
   go_enter Tryz.func64, Tryz.ntmps64
   go_wp2_with (go_at_call 85; refine (hP _ (by first | exact hL | exact hL.drewN _)).mono ?_; rintro e w1 ⟨⟨n, tp, p, rfl⟩, hb1⟩)
   go_ret2
   exact ⟨rfl, hb1⟩
 ·rw [if_neg hb] at h
  cases h
end Go.Proofs.YtgklofginkafgaaGreatDoor.PS
end
section
namespace Go.Proofs.YtgklofginkafgaaGreatDoor.PS
open Go.RowKit Go.Proofs.YtgklofginkafgaaGreatDoorW.PrintWords Go.Proofs.YtgklofginkafgaaGreatDoorW.PrintLast Go.Proofs.YtgklofginkafgaaGreatDoorW.PrintMore
attribute [local go_sem] max2_int min2_int max_two min_two max_three min_three max_four min_four
set_option linter.unusedVariables false
set_option linter.unusedSimpArgs false
def impl_readNotesIn.l0 : Nat → Int → Int → List (S70) → List ByteArray → Int → Int → Option ((List (S70)) × Bool)
 | 0, _, _, _, _, _, _ => none
 | k + 1, x0, x1, x8, x21, x22, x23 => if x23 < x22 then (if 0 ≤ x23 then (if x23 < (x21.length : Int) then ((strings_Cut.f (rdOf ByteArray.empty x21 x23) (⟨#[58]⟩ : ByteArray)).bind fun bt207 => ((impl_readPitchIn.f x0 x1 bt207.1).bind fun bt210 => ((impl_ReadDecimal.f bt207.2.1).bind fun bt212 => (if bt210.2 = true then (if bt212.2 = true then (if x8.length < 8796093022208 then (impl_readNotesIn.l0 k x0 x1 (x8 ++ [(⟨bt210.1, bt212.1⟩ : S70)]) x21 x22 (wrap64 (x23 + 1))) else (none)) else (some (([] : List (S70)), false))) else (some (([] : List (S70)), false)))))) else (none)) else (none)) else ((impl_ValidMelody.f k x8).bind fun t205 => (some (x8, t205)))
def impl_readNotesIn.f (k : Nat) (a0 : Int) (a1 : Int) (a2 : ByteArray) : Option ((List (S70)) × Bool) := if a2.toList = ([] : List UInt8) then (some (([] : List (S70)), true)) else ((strings_SplitN.f a2 (⟨#[32]⟩ : ByteArray) 49).bind fun t202 => (impl_readNotesIn.l0 k a0 a1 ([] : List (S70)) t202 (t202.length : Int) 0))
theorem impl_readNotesIn.mono_l : ∀ k, (∀ y0 y1 y2 y3 y4 y5, LeO (impl_readNotesIn.l0 k y0 y1 y2 y3 y4 y5) (impl_readNotesIn.l0 (k + 1) y0 y1 y2 y3 y4 y5))
 | 0 => fun _ _ _ _ _ _ r h => by simp [impl_readNotesIn.l0] at h
 | k + 1 => by
  have ih0 := impl_readNotesIn.mono_l k
  ·intro y0 y1 y2 y3 y4 y5
   unfold impl_readNotesIn.l0
   repeat' first
   | (with_reducible exact ih0 _ _ _ _ _ _)
   | (with_reducible exact impl_ValidMelody.mono _ _)
   | (with_reducible exact LeO.refl _)
   | (with_reducible exact LeO.none _)
   | (with_reducible refine LeO.ite ?_ ?_)
   | (with_reducible refine LeO.bind ?_ (fun _ => ?_))
theorem impl_readNotesIn.mono : ∀ a0 a1 a2 k, LeO (impl_readNotesIn.f k a0 a1 a2) (impl_readNotesIn.f (k + 1) a0 a1 a2) := by
 intro a0 a1 a2 k
 have ih0 := impl_readNotesIn.mono_l k
 unfold impl_readNotesIn.f
 repeat' first
   | (with_reducible exact ih0 _ _ _ _ _ _)
   | (with_reducible exact impl_ValidMelody.mono _ _)
   | (with_reducible exact LeO.refl _)
   | (with_reducible exact LeO.none _)
   | (with_reducible refine LeO.ite ?_ ?_)
   | (with_reducible refine LeO.bind ?_ (fun _ => ?_))
set_option maxHeartbeats 8000000 in
set_option maxRecDepth 100000 in
theorem impl_readNotesIn.calls (k : Nat) (a0 : Int) (a1 : Int) (a2 : ByteArray) (r1 : List (S70)) (r2 : Bool) (w : World) (hL : Lv w) (h : impl_readNotesIn.f k a0 a1 a2 = some (r1, r2)) :
  Calls Tryz.prog 40 #[.int .i64 a0, .int .i64 a1, .string a2] w fun e w' => ∃ v0_ : Value, e = .returned (.tuple #[v0_, .bool r2]) ∧ Kd.R k70 70 w' w.heap.size (fun _ => True) v0_ r1 ∧ Below w.heap.size w w' := by
 have hu70 := Tryz.underlying70
 have HB := Aside0.mk (Below.refl w.heap.size w)
 have H : (if a2.toList = ([] : List UInt8) then (some (([] : List (S70)), true)) else ((strings_SplitN.f a2 (⟨#[32]⟩ : ByteArray) 49).bind fun t202 => (impl_readNotesIn.l0 k a0 a1 ([] : List (S70)) t202 (t202.length : Int) 0))) = some (r1, r2) := h
 clear h
 by_cases c4 : a2.toList = ([] : List UInt8)
 ·rw [if_pos c4] at H
  have c4b0 : (a2.toList == ([] : List UInt8)) = true := beq_iff_eq.mpr c4
  have c4b1 : (a2.toList != ([] : List UInt8)) = false := bne_eq_false_iff_eq.mpr c4
  clear c4
  simp only [Option.some.injEq, Prod.mk.injEq] at H
  obtain ⟨rfl, rfl⟩ := H
  go_enter Tryz.func40, Tryz.ntmps40
  go_wp2
  go_ret2
  exact ⟨_, re_, rn_, bw_⟩
 ·rw [if_neg c4] at H
  have c4b0 : (a2.toList == ([] : List UInt8)) = false := beq_eq_false_iff_ne.mpr c4
  have c4b1 : (a2.toList != ([] : List UInt8)) = true := bne_iff_ne.mpr c4
  replace H := Option.bind_eq_some_iff.mp H
  obtain ⟨t202, A50, H⟩ := H
  replace H : (impl_readNotesIn.l0 k a0 a1 ([] : List (S70)) t202 (t202.length : Int) 0) = some (r1, r2) := H
  have A5 := Aside0.mk A50
  clear A50
  have H' := Aside0.mk H
  clear H
  go_enter Tryz.func40, Tryz.ntmps40
  go_wp2_with (first | ((with_reducible refine gate_callee (f := 62) rfl ?_); refine goesL_ (some 21) rfl rfl Tryz.func62 (by kernel_rfl) rfl #[.string a2, .string (⟨#[32]⟩ : ByteArray), .int .i64 49] rfl ma_ ?_; (with_reducible refine (strings_SplitN.calls a2 (⟨#[32]⟩ : ByteArray) 49 t202 _ ?side1 A5.out).mono ?_); (case side1 => exact Lv.below hL bw_); rintro e w6 ⟨v203, rfl, ho0, hb⟩; refine ⟨_, rfl, ?_⟩; have n0_ := Aside0.mk (Kd.R_lower ho0 (below_size bw_)); have n1_ := Aside0.mk (below_step bw_ hb); clear HB; have HO204 := n0_; have HB := n1_; clear n0_ n1_; (try clear hb); (try clear hb2); (try clear hk); (try clear hi); (try clear ho0); obtain ⟨Ao7, co7, eo7⟩ := Kd.R_slice HO204.out; subst eo7))
  go_loopg [8, 23] k (fun kq v8 v23 w' => ∃ (x8_1 : List (S70)) (x23_1 : Int), v23 = .int .i64 x23_1 ∧ Aside0 (impl_readNotesIn.l0 kq a0 a1 x8_1 t202 (t202.length : Int) x23_1 = some (r1, r2)) ∧ Aside0 (kq ≤ k) ∧ Aside0 (Kd.R k70 70 w' w.heap.size (fun _ => True) v8 x8_1) ∧ Aside0 (Kd.R Kd.string 9 w' w.heap.size (fun _ => True) (.slice Ao7 t202.length co7) t202) ∧ Aside0 (Below w.heap.size w w'))
  case atStart => exact ⟨(([] : List (S70))), (0), rs_, H', ⟨Nat.le_refl _⟩, ⟨rn_⟩, ⟨kr_ HO204.out⟩, ⟨bw_⟩⟩
  case round =>
   clear H'
   try clear p2
   try clear c4
   try clear c4b0
   try clear c4b1
   try clear c6
   obtain ⟨x8_1, x23_1, rfl, HA, HK1, HO_8, HO_21, HB⟩ := hrel
   cases gk with
   | zero => exact absurd HA.out (by simp [impl_readNotesIn.l0])
   | succ k1 =>
    have H := HA.out
    clear HA
    simp only [impl_readNotesIn.l0] at H
    by_cases c8 : x23_1 < (t202.length : Int)
    ·rw [if_pos c8] at H
     have c8b0 : decide (x23_1 < (t202.length : Int)) = true := decide_eq_true c8
     clear c8
     by_cases c9 : 0 ≤ x23_1
     ·rw [if_pos c9] at H
      have c9b0 : decide (0 ≤ x23_1) = true := decide_eq_true c9
      clear c9
      by_cases c10 : x23_1 < (t202.length : Int)
      ·rw [if_pos c10] at H
       have c10b0 : decide (x23_1 < (t202.length : Int)) = true := decide_eq_true c10
       clear c10
       replace H := Option.bind_eq_some_iff.mp H
       obtain ⟨⟨t207, t208, t209⟩, A110, H⟩ := H
       replace H : ((impl_readPitchIn.f a0 a1 t207).bind fun bt210 => ((impl_ReadDecimal.f t208).bind fun bt212 => (if bt210.2 = true then (if bt212.2 = true then (if x8_1.length < 8796093022208 then (impl_readNotesIn.l0 k1 a0 a1 (x8_1 ++ [(⟨bt210.1, bt212.1⟩ : S70)]) t202 (t202.length : Int) (wrap64 (x23_1 + 1))) else (none)) else (some (([] : List (S70)), false))) else (some (([] : List (S70)), false))))) = some (r1, r2) := H
       have A11 := Aside0.mk A110
       clear A110
       replace H := Option.bind_eq_some_iff.mp H
       obtain ⟨⟨t210, t211⟩, A120, H⟩ := H
       replace H : ((impl_ReadDecimal.f t208).bind fun bt212 => (if t211 = true then (if bt212.2 = true then (if x8_1.length < 8796093022208 then (impl_readNotesIn.l0 k1 a0 a1 (x8_1 ++ [(⟨t210, bt212.1⟩ : S70)]) t202 (t202.length : Int) (wrap64 (x23_1 + 1))) else (none)) else (some (([] : List (S70)), false))) else (some (([] : List (S70)), false)))) = some (r1, r2) := H
       have A12 := Aside0.mk A120
       clear A120
       replace H := Option.bind_eq_some_iff.mp H
       obtain ⟨⟨t212, t213⟩, A130, H⟩ := H
       replace H : (if t211 = true then (if t213 = true then (if x8_1.length < 8796093022208 then (impl_readNotesIn.l0 k1 a0 a1 (x8_1 ++ [(⟨t210, t212⟩ : S70)]) t202 (t202.length : Int) (wrap64 (x23_1 + 1))) else (none)) else (some (([] : List (S70)), false))) else (some (([] : List (S70)), false))) = some (r1, r2) := H
       have A13 := Aside0.mk A130
       clear A130
       by_cases c14 : t211 = true
       ·subst c14
        have H1 : (if t213 = true then (if x8_1.length < 8796093022208 then (impl_readNotesIn.l0 k1 a0 a1 (x8_1 ++ [(⟨t210, t212⟩ : S70)]) t202 (t202.length : Int) (wrap64 (x23_1 + 1))) else (none)) else (some (([] : List (S70)), false))) = some (r1, r2) := by rw [if_pos rfl] at H; exact H
        clear H
        have H := H1
        clear H1
        by_cases c15 : t213 = true
        ·subst c15
         have H1 : (if x8_1.length < 8796093022208 then (impl_readNotesIn.l0 k1 a0 a1 (x8_1 ++ [(⟨t210, t212⟩ : S70)]) t202 (t202.length : Int) (wrap64 (x23_1 + 1))) else (none)) = some (r1, r2) := by rw [if_pos rfl] at H; exact H
         clear H
         have H := H1
         clear H1
         by_cases c16 : x8_1.length < 8796093022208
         ·rw [if_pos c16] at H
          have LMc16 := Aside0.mk c16
          clear c16
          obtain ⟨y214, hy214⟩ : ∃ y_ : List (S70), y_ = (x8_1 ++ [(⟨t210, t212⟩ : S70)]) := ⟨_, rfl⟩
          replace H : (impl_readNotesIn.l0 k1 a0 a1 y214 t202 (t202.length : Int) (wrap64 (x23_1 + 1))) = some (r1, r2) := by first | (rw [hy214]; with_reducible exact H) | (have H2_ := (Option.bind_some _ _).symm.trans H; rw [hy214]; with_reducible exact H2_) | (have H2_ := (Option.bind_some _ _).symm.trans H; with_reducible exact H2_) | with_reducible exact H | (rw [hy214]; exact H) | exact H
          have Ny214 := Aside0.mk hy214
          clear hy214
          have H' := Aside0.mk H
          clear H
          have p206 : 0 ≤ (x23_1 : Int) := of_decide_eq_true as_
          have q206 : x23_1 < (t202.length : Int) := of_decide_eq_true as_
          obtain ⟨ad206, e206, hx206_0⟩ := Kd.at_string (Kd.R_reads' HO_21.out).2.2 x23_1 p206 q206
          cases e206
          replace p206 := eq_true p206
          replace q206 := eq_true q206
          go_wp2_with (first | ((with_reducible refine gate_callee (f := 63) rfl ?_); refine goesL_ (some 29) rfl rfl Tryz.func63 (by kernel_rfl) rfl #[.string (rdOf ByteArray.empty t202 x23_1), .string (⟨#[58]⟩ : ByteArray)] rfl ma_ ?_; (with_reducible refine (strings_Cut.calls (rdOf ByteArray.empty t202 x23_1) (⟨#[58]⟩ : ByteArray) t207 t208 t209 _ ?side1 A11.out).mono ?_); (case side1 => exact Lv.below hL bw_); rintro e w17 ⟨rfl, hb⟩; refine ⟨_, rfl, ?_⟩; have n0_ := Aside0.mk (Kd.R_below (kr_ HO_8.out) hb); have n1_ := Aside0.mk (Kd.R_below (kr_ HO_21.out) hb); have n2_ := Aside0.mk (below_step bw_ hb); clear HO_8; clear HO_21; clear HB; have HO_8 := n0_; have HO_21 := n1_; have HB := n2_; clear n0_ n1_ n2_; (try clear hb); (try clear hb2); (try clear hk); (try clear hi)) | ((with_reducible refine gate_callee (f := 33) rfl ?_); refine goesL_ (some 37) rfl rfl Tryz.func33 (by kernel_rfl) rfl #[.int .i64 a0, .int .i64 a1, .string t207] rfl ma_ ?_; (with_reducible refine (impl_readPitchIn.calls a0 a1 t207 t210 true _ ?side1 A12.out).mono ?_); (case side1 => exact Lv.below hL bw_); rintro e w18 ⟨rfl, hb⟩; refine ⟨_, rfl, ?_⟩; have n0_ := Aside0.mk (Kd.R_below (kr_ HO_8.out) hb); have n1_ := Aside0.mk (Kd.R_below (kr_ HO_21.out) hb); have n2_ := Aside0.mk (below_step bw_ hb); clear HO_8; clear HO_21; clear HB; have HO_8 := n0_; have HO_21 := n1_; have HB := n2_; clear n0_ n1_ n2_; (try clear hb); (try clear hb2); (try clear hk); (try clear hi)) | ((with_reducible refine gate_callee (f := 64) rfl ?_); refine goesL_ (some 42) rfl rfl Tryz.func64 (by kernel_rfl) rfl #[.string t208] rfl ma_ ?_; (with_reducible refine (impl_ReadDecimal.calls t208 t212 true _ ?side1 A13.out).mono ?_); (case side1 => exact Lv.below hL bw_); rintro e w19 ⟨rfl, hb⟩; refine ⟨_, rfl, ?_⟩; have n0_ := Aside0.mk (Kd.R_below (kr_ HO_8.out) hb); have n1_ := Aside0.mk (Kd.R_below (kr_ HO_21.out) hb); have n2_ := Aside0.mk (below_step bw_ hb); clear HO_8; clear HO_21; clear HB; have HO_8 := n0_; have HO_21 := n1_; have HB := n2_; clear n0_ n1_ n2_; (try clear hb); (try clear hb2); (try clear hk); (try clear hi)) | ((with_reducible refine gate_builtin (b := .append) (xs := #[.tmp 51, .tmp 55]) rfl ?_); at_builtin; refine Kd.R_append k70 (w0 := w) w.heap.size rfl (.tmp 51) (.tmp 55) 34 70 (.agg #[(.int .i64 0), (.int .i64 0)]) 16 rfl Tryz.underlying34 info70 rfl (by decide) (by omega) u8 x8_1 (⟨t210, t212⟩ : S70) [.int .i64 t210, .int .i64 t212] (fun _ => True) (fun _ => False) rfl rfl ?aP (fun _ hk => hk.elim) ?aF ?aO ?aB ?aS ?aL ?_; (case aP => exact k70_mkM _ _ _ (⟨t210, t212⟩ : S70)); (case aB => exact bw_); (case aF => exact (fun _ _ => trivial)); (case aO => exact (kr_ HO_8.out)); (case aS => exact (below_size bw_)); (case aL => have := LMc16.out; omega); intro v215 w20 ho hb hg hat; rw [← Ny214.out] at ho; have n0_ := Aside0.mk (Kd.R_over' (kr_ HO_21.out) (Kd.R_typed (kr_ HO_8.out)) (by decide) hg); have n1_ := Aside0.mk (hb); have n2_ := Aside0.mk (ho); clear HO_21; clear HB; clear HO_8; have HO_21 := n0_; have HB := n1_; have HO216 := n2_; clear n0_ n1_ n2_; clear ho hb hg hat))
          go_roundg k1
          case measure => have := HK1.out; omega
          case rel => exact ⟨(y214), (wrap64 (x23_1 + 1)), rs_, H', ⟨by have := HK1.out; omega⟩, ⟨kr_ HO216.out⟩, ⟨kr_ HO_21.out⟩, ⟨bw_⟩⟩
         ·rw [if_neg c16] at H
          exact absurd H (by simp)
        ·replace c15 := Bool.eq_false_iff.mpr c15
         subst c15
         have H1 : (some (([] : List (S70)), false)) = some (r1, r2) := by rw [if_neg (show ¬ (false = true) by decide)] at H; exact H
         clear H
         have H := H1
         clear H1
         simp only [Option.some.injEq, Prod.mk.injEq] at H
         obtain ⟨rfl, rfl⟩ := H
         have p206 : 0 ≤ (x23_1 : Int) := of_decide_eq_true as_
         have q206 : x23_1 < (t202.length : Int) := of_decide_eq_true as_
         obtain ⟨ad206, e206, hx206_0⟩ := Kd.at_string (Kd.R_reads' HO_21.out).2.2 x23_1 p206 q206
         cases e206
         replace p206 := eq_true p206
         replace q206 := eq_true q206
         go_wp2_with (first | ((with_reducible refine gate_callee (f := 63) rfl ?_); refine goesL_ (some 29) rfl rfl Tryz.func63 (by kernel_rfl) rfl #[.string (rdOf ByteArray.empty t202 x23_1), .string (⟨#[58]⟩ : ByteArray)] rfl ma_ ?_; (with_reducible refine (strings_Cut.calls (rdOf ByteArray.empty t202 x23_1) (⟨#[58]⟩ : ByteArray) t207 t208 t209 _ ?side1 A11.out).mono ?_); (case side1 => exact Lv.below hL bw_); rintro e w21 ⟨rfl, hb⟩; refine ⟨_, rfl, ?_⟩; have n0_ := Aside0.mk (Kd.R_below (kr_ HO_8.out) hb); have n1_ := Aside0.mk (Kd.R_below (kr_ HO_21.out) hb); have n2_ := Aside0.mk (below_step bw_ hb); clear HO_8; clear HO_21; clear HB; have HO_8 := n0_; have HO_21 := n1_; have HB := n2_; clear n0_ n1_ n2_; (try clear hb); (try clear hb2); (try clear hk); (try clear hi)) | ((with_reducible refine gate_callee (f := 33) rfl ?_); refine goesL_ (some 37) rfl rfl Tryz.func33 (by kernel_rfl) rfl #[.int .i64 a0, .int .i64 a1, .string t207] rfl ma_ ?_; (with_reducible refine (impl_readPitchIn.calls a0 a1 t207 t210 true _ ?side1 A12.out).mono ?_); (case side1 => exact Lv.below hL bw_); rintro e w22 ⟨rfl, hb⟩; refine ⟨_, rfl, ?_⟩; have n0_ := Aside0.mk (Kd.R_below (kr_ HO_8.out) hb); have n1_ := Aside0.mk (Kd.R_below (kr_ HO_21.out) hb); have n2_ := Aside0.mk (below_step bw_ hb); clear HO_8; clear HO_21; clear HB; have HO_8 := n0_; have HO_21 := n1_; have HB := n2_; clear n0_ n1_ n2_; (try clear hb); (try clear hb2); (try clear hk); (try clear hi)) | ((with_reducible refine gate_callee (f := 64) rfl ?_); refine goesL_ (some 42) rfl rfl Tryz.func64 (by kernel_rfl) rfl #[.string t208] rfl ma_ ?_; (with_reducible refine (impl_ReadDecimal.calls t208 t212 false _ ?side1 A13.out).mono ?_); (case side1 => exact Lv.below hL bw_); rintro e w23 ⟨rfl, hb⟩; refine ⟨_, rfl, ?_⟩; have n0_ := Aside0.mk (Kd.R_below (kr_ HO_8.out) hb); have n1_ := Aside0.mk (Kd.R_below (kr_ HO_21.out) hb); have n2_ := Aside0.mk (below_step bw_ hb); clear HO_8; clear HO_21; clear HB; have HO_8 := n0_; have HO_21 := n1_; have HB := n2_; clear n0_ n1_ n2_; (try clear hb); (try clear hb2); (try clear hk); (try clear hi)))
         go_ret2
         exact ⟨_, re_, rn_, bw_⟩
       ·replace c14 := Bool.eq_false_iff.mpr c14
        subst c14
        have H1 : (some (([] : List (S70)), false)) = some (r1, r2) := by rw [if_neg (show ¬ (false = true) by decide)] at H; exact H
        clear H
        have H := H1
        clear H1
        simp only [Option.some.injEq, Prod.mk.injEq] at H
        obtain ⟨rfl, rfl⟩ := H
        have p206 : 0 ≤ (x23_1 : Int) := of_decide_eq_true as_
        have q206 : x23_1 < (t202.length : Int) := of_decide_eq_true as_
        obtain ⟨ad206, e206, hx206_0⟩ := Kd.at_string (Kd.R_reads' HO_21.out).2.2 x23_1 p206 q206
        cases e206
        replace p206 := eq_true p206
        replace q206 := eq_true q206
        go_wp2_with (first | ((with_reducible refine gate_callee (f := 63) rfl ?_); refine goesL_ (some 29) rfl rfl Tryz.func63 (by kernel_rfl) rfl #[.string (rdOf ByteArray.empty t202 x23_1), .string (⟨#[58]⟩ : ByteArray)] rfl ma_ ?_; (with_reducible refine (strings_Cut.calls (rdOf ByteArray.empty t202 x23_1) (⟨#[58]⟩ : ByteArray) t207 t208 t209 _ ?side1 A11.out).mono ?_); (case side1 => exact Lv.below hL bw_); rintro e w24 ⟨rfl, hb⟩; refine ⟨_, rfl, ?_⟩; have n0_ := Aside0.mk (Kd.R_below (kr_ HO_8.out) hb); have n1_ := Aside0.mk (Kd.R_below (kr_ HO_21.out) hb); have n2_ := Aside0.mk (below_step bw_ hb); clear HO_8; clear HO_21; clear HB; have HO_8 := n0_; have HO_21 := n1_; have HB := n2_; clear n0_ n1_ n2_; (try clear hb); (try clear hb2); (try clear hk); (try clear hi)) | ((with_reducible refine gate_callee (f := 33) rfl ?_); refine goesL_ (some 37) rfl rfl Tryz.func33 (by kernel_rfl) rfl #[.int .i64 a0, .int .i64 a1, .string t207] rfl ma_ ?_; (with_reducible refine (impl_readPitchIn.calls a0 a1 t207 t210 false _ ?side1 A12.out).mono ?_); (case side1 => exact Lv.below hL bw_); rintro e w25 ⟨rfl, hb⟩; refine ⟨_, rfl, ?_⟩; have n0_ := Aside0.mk (Kd.R_below (kr_ HO_8.out) hb); have n1_ := Aside0.mk (Kd.R_below (kr_ HO_21.out) hb); have n2_ := Aside0.mk (below_step bw_ hb); clear HO_8; clear HO_21; clear HB; have HO_8 := n0_; have HO_21 := n1_; have HB := n2_; clear n0_ n1_ n2_; (try clear hb); (try clear hb2); (try clear hk); (try clear hi)) | ((with_reducible refine gate_callee (f := 64) rfl ?_); refine goesL_ (some 42) rfl rfl Tryz.func64 (by kernel_rfl) rfl #[.string t208] rfl ma_ ?_; (with_reducible refine (impl_ReadDecimal.calls t208 t212 t213 _ ?side1 A13.out).mono ?_); (case side1 => exact Lv.below hL bw_); rintro e w26 ⟨rfl, hb⟩; refine ⟨_, rfl, ?_⟩; have n0_ := Aside0.mk (Kd.R_below (kr_ HO_8.out) hb); have n1_ := Aside0.mk (Kd.R_below (kr_ HO_21.out) hb); have n2_ := Aside0.mk (below_step bw_ hb); clear HO_8; clear HO_21; clear HB; have HO_8 := n0_; have HO_21 := n1_; have HB := n2_; clear n0_ n1_ n2_; (try clear hb); (try clear hb2); (try clear hk); (try clear hi)))
        go_ret2
        exact ⟨_, re_, rn_, bw_⟩
      ·rw [if_neg c10] at H
       exact absurd H (by simp)
     ·rw [if_neg c9] at H
      exact absurd H (by simp)
    ·rw [if_neg c8] at H
     have c8b0 : decide (x23_1 < (t202.length : Int)) = false := decide_eq_false c8
     clear c8
     replace H := Option.bind_eq_some_iff.mp H
     obtain ⟨t205, A270, H⟩ := H
     replace H : (some (x8_1, t205)) = some (r1, r2) := H
     have A27 := Aside0.mk A270
     clear A270
     simp only [Option.some.injEq, Prod.mk.injEq] at H
     obtain ⟨rfl, rfl⟩ := H
     obtain ⟨Ao28, co28, eo28⟩ := Kd.R_slice HO_8.out
     subst eo28
     go_wp2_with (first | ((with_reducible refine gate_callee (f := 38) rfl ?_); refine goesL_ (some 60) rfl rfl Tryz.func38 (by kernel_rfl) rfl #[.slice Ao28 x8_1.length co28] rfl ma_ ?_; (with_reducible refine (impl_ValidMelody.calls k1 _ _ x8_1 t205 _ ?side1 ?side2 A27.out).mono ?_); (case side1 => repeat (first | exact (Kd.R_reads' HO_8.out).2.2 | (with_reducible refine Kd.C_alloc ?_ _) | (with_reducible refine Kd.C_drewN ?_ _) | (with_reducible refine Kd.C_drew ?_))); (case side2 => exact (Kd.R_reads' HO_8.out).2.1); rintro e w29 ⟨rfl, hb⟩; refine ⟨_, rfl, ?_⟩; have n0_ := Aside0.mk (Kd.R_below (kr_ HO_8.out) hb); have n1_ := Aside0.mk (Kd.R_below (kr_ HO_21.out) hb); have n2_ := Aside0.mk (below_step bw_ hb); clear HO_8; clear HO_21; clear HB; have HO_8 := n0_; have HO_21 := n1_; have HB := n2_; clear n0_ n1_ n2_; (try clear hb); (try clear hb2); (try clear hk); (try clear hi)))
     go_ret2
     exact ⟨_, re_, kr_ HO_8.out, bw_⟩
def moveN (k o : Int) (x : S70) : S70 := ⟨wrap64 (wrap64 (x.f0 + k) - o), x.f1⟩
def okN (x : S70) : Bool := decide (-12 ≤ x.f0 ∧ x.f0 ≤ 23) && decide (1 ≤ x.f1 ∧ x.f1 ≤ 64)
def retuneBody (k : Nat) (a0 a1 a2 : Int) (m : List S70) : Option (ByteArray × Int) :=
 if m.length ≤ 1000 then (if (m.map (moveN a1 a2)).all okN = true then (if ((m.map (moveN a1 a2)).length : Int) > 48 then some (⟨#[]⟩, 5) else (impl_notesIn.f k a0 a2 (m.map (moveN a1 a2))).bind fun t => some (t, 0)) else some (⟨#[]⟩, 6)) else none
theorem retuneBody.mono : ∀ a0 a1 a2 m k, LeO (retuneBody k a0 a1 a2 m) (retuneBody (k + 1) a0 a1 a2 m) := by
 intro a0 a1 a2 m k
 unfold retuneBody
 repeat' first
  | (with_reducible exact impl_notesIn.mono _ _ _ _)
  | (with_reducible exact LeO.refl _)
  | (with_reducible exact LeO.none _)
  | (with_reducible refine LeO.ite ?_ ?_)
  | (with_reducible refine LeO.bind ?_ (fun _ => ?_))
def laws_b10Long.f (l0 : List Int) : Option (Bool) := some (decide ((l0.length : Int) > 1048576))
set_option maxHeartbeats 8000000 in
set_option maxRecDepth 100000 in
theorem laws_b10Long.calls (A0 : Option Addr) (c0 : Nat) (l0 : List Int) (r : Bool) (w : World) (hr0 : Kd.C (Kd.int .u8) w A0 l0.length l0) (hc0 : l0.length ≤ c0) (h : laws_b10Long.f l0 = some r) :
  Calls Tryz.prog 6 #[.slice A0 l0.length c0] w fun e w' => e = .returned (.bool r) ∧ Drawn0 w w' := by
 have HR0 := Aside0.mk hr0
 have HC0 := Aside0.mk hc0
 clear hr0 hc0
 have H : (some (decide ((l0.length : Int) > 1048576))) = some r := h
 clear h
 obtain rfl := Option.some.inj H
 go_enter Tryz.func6, Tryz.ntmps6
 go_wp2
 go_ret
 exact ⟨rs_, dr_⟩
def IsS80 (w0 W : World) (g : Nat) (f0 : List Int) (f1 : Int) (f2 : Int) : Prop := ∃ A0 c0, W.heap[g]? = some (.cells #[.slice A0 f0.length c0, .int .i64 f1, .int .u64 f2] 80 (0, 0)) ∧ w0.heap.size ≤ g ∧ Kd.C (Kd.int .u8) w0 A0 f0.length f0
theorem IsS80.grown {w0 W : World} {g : Nat} {f0 : List Int} {f1 : Int} {f2 : Int} {W1 : World} {row : Option Nat} (h : IsS80 w0 W g f0 f1 f2) (hw : W.grownBy W1 row) (hne : some g ≠ row) : IsS80 w0 W1 g f0 f1 f2 := by
 obtain ⟨A0, c0, hb, hg, hr0⟩ := h
 exact ⟨A0, c0, blk_grown hb hw hne, hg, hr0⟩
theorem IsS80.fresh {w0 W : World} {g : Nat} {f0 : List Int} {f1 : Int} {f2 : Int} (h : IsS80 w0 W g f0 f1 f2) : ∀ k, W.heap.size ≤ k → k ≠ g := by
 obtain ⟨A0, c0, hb, hg, hr0⟩ := h
 exact Kd.freshB hb
theorem IsS80.kept {w0 W : World} {g : Nat} {f0 : List Int} {f1 : Int} {f2 : Int} {W1 : World} {S : Nat → Prop} (h : IsS80 w0 W g f0 f1 f2) (hk : Kept W W1 S) (hne : ¬ S g) : IsS80 w0 W1 g f0 f1 f2 := by
 obtain ⟨A0, c0, hb, hg, hr0⟩ := h
 exact ⟨A0, c0, blk_kept hb hk hne, hg, hr0⟩
theorem IsS80.below {w0 W : World} {g : Nat} {f0 : List Int} {f1 : Int} {f2 : Int} {W1 : World} (h : IsS80 w0 W g f0 f1 f2) (hw : Below W.heap.size W W1) : IsS80 w0 W1 g f0 f1 f2 := h.grown (grown_of_below hw none) (by simp)
theorem IsS80.alloc {w0 W : World} {g : Nat} {f0 : List Int} {f1 : Int} {f2 : Int} (h : IsS80 w0 W g f0 f1 f2) (o : Obj) : IsS80 w0 (W.alloc o) g f0 f1 f2 := h.below (below_alloc (Below.refl _ _) o)
theorem IsS80.drewN {w0 W : World} {g : Nat} {f0 : List Int} {f1 : Int} {f2 : Int} (h : IsS80 w0 W g f0 f1 f2) (m : Nat) : IsS80 w0 (W.drewN m) g f0 f1 f2 := h
theorem IsS80.drew {w0 W : World} {g : Nat} {f0 : List Int} {f1 : Int} {f2 : Int} (h : IsS80 w0 W g f0 f1 f2) : IsS80 w0 W.drew g f0 f1 f2 := h
theorem IsS80.at_ {w0 W : World} {g : Nat} {f0 : List Int} {f1 : Int} {f2 : Int} {w' : World} {m : Nat} (hq : W.drewN m = w') (h : IsS80 w0 W g f0 f1 f2) : IsS80 w0 w' g f0 f1 f2 := by subst hq; exact IsS80.drewN h m
theorem IsS80.apart {w0 W : World} {g : Nat} {f0 : List Int} {f1 : Int} {f2 : Int} {α : Type} {d : Kd α} {e : Nat} {base : Nat} {ok : Nat → Prop} {v : Value} {xs : List α} (h : IsS80 w0 W g f0 f1 f2) (ho : d.R e W base ok v xs) (ht : ∀ q, q ∈ e :: d.E → q ≠ 80) : d.R e W base (fun k => ok k ∧ k ≠ g) v xs := by
 obtain ⟨A0, c0, hb, hg, hr0⟩ := h
 exact Kd.R_types ho hb ht
theorem IsS80.own_ne {w0 W : World} {g : Nat} {f0 : List Int} {f1 : Int} {f2 : Int} {α : Type} {d : Kd α} {e : Nat} {base : Nat} {ok : Nat → Prop} {v : Value} {xs : List α} (h : IsS80 w0 W g f0 f1 f2) (ho : d.R e W base ok v xs) (ht : e ≠ 80) : some g ≠ v.ownBlock := by
 obtain ⟨A0, c0, hb, hg, hr0⟩ := h
 exact Kd.R_ne ho hb ht
theorem IsS80.ge {w0 W : World} {g : Nat} {f0 : List Int} {f1 : Int} {f2 : Int} (h : IsS80 w0 W g f0 f1 f2) : w0.heap.size ≤ g := by
 obtain ⟨A0, c0, hb, hg, hr0⟩ := h
 exact hg
theorem cellS80_0 {W : World} {g : Nat} {A0 : Option Addr} {c0 : Nat} {f0 : List Int} {f1 : Int} {f2 : Int} (h : W.heap[g]? = some (.cells #[.slice A0 f0.length c0, .int .i64 f1, .int .u64 f2] 80 (0, 0))) : W.cell? ⟨g, 0, none⟩ = some (.slice A0 f0.length c0) := (blk_cell h 0).trans rfl
theorem cellS80_1 {W : World} {g : Nat} {A0 : Option Addr} {c0 : Nat} {f0 : List Int} {f1 : Int} {f2 : Int} (h : W.heap[g]? = some (.cells #[.slice A0 f0.length c0, .int .i64 f1, .int .u64 f2] 80 (0, 0))) : W.cell? ⟨g, 1, none⟩ = some (.int .i64 f1) := (blk_cell h 1).trans rfl
theorem IsS80.set_1 {w0 W : World} {g : Nat} {f0 : List Int} {f1 : Int} {f2 : Int} (h : IsS80 w0 W g f0 f1 f2) (x : Int) : IsS80 w0 (W.setCell ⟨g, 1, none⟩ (.int .i64 x)) g f0 x f2 := by
 obtain ⟨A0, c0, hb, hg, hr0⟩ := h
 exact ⟨A0, c0, by simpa using blk_set hb 1 (.int .i64 x), hg, hr0⟩
theorem cellS80_2 {W : World} {g : Nat} {A0 : Option Addr} {c0 : Nat} {f0 : List Int} {f1 : Int} {f2 : Int} (h : W.heap[g]? = some (.cells #[.slice A0 f0.length c0, .int .i64 f1, .int .u64 f2] 80 (0, 0))) : W.cell? ⟨g, 2, none⟩ = some (.int .u64 f2) := (blk_cell h 2).trans rfl
theorem IsS80.set_2 {w0 W : World} {g : Nat} {f0 : List Int} {f1 : Int} {f2 : Int} (h : IsS80 w0 W g f0 f1 f2) (x : Int) : IsS80 w0 (W.setCell ⟨g, 2, none⟩ (.int .u64 x)) g f0 f1 x := by
 obtain ⟨A0, c0, hb, hg, hr0⟩ := h
 exact ⟨A0, c0, by simpa using blk_set hb 2 (.int .u64 x), hg, hr0⟩
def spec_l00From.f (l0 : List Int) : Option (List Int × Int × Int) := some (l0, 0, 0)
set_option maxHeartbeats 8000000 in
set_option maxRecDepth 100000 in
theorem spec_l00From.calls (A0 : Option Addr) (c0 : Nat) (l0 : List Int) (r1 : List Int) (r2 : Int) (r3 : Int) (w0 w : World) (hB : Below w0.heap.size w0 w) (hr0 : Kd.C (Kd.int .u8) w0 A0 l0.length l0) (hc0 : l0.length ≤ c0) (h : spec_l00From.f l0 = some (r1, r2, r3)) :
  Calls Tryz.prog 26 #[.slice A0 l0.length c0] w fun e w' => ∃ g_ : Nat, e = .returned (.pointer (some ⟨g_, 0, none⟩)) ∧ IsS80 w0 w' g_ r1 r2 r3 ∧ Below w0.heap.size w0 w' ∧ Below w.heap.size w w' := by
 have hu80 := Tryz.underlying80
 have HR0 := Aside0.mk hr0
 have HC0 := Aside0.mk hc0
 clear hr0 hc0
 have HBW := Aside0.mk (Below.refl w.heap.size w)
 have HW0 := Aside0.mk hB.size
 have HB := Aside0.mk hB
 clear hB
 have H : (some (l0, 0, 0)) = some (r1, r2, r3) := h
 clear h
 simp only [Option.some.injEq, Prod.mk.injEq] at H
 obtain ⟨rfl, rfl, rfl⟩ := H
 go_enter Tryz.func26, Tryz.ntmps26
 go_wp2_with (first | ((with_reducible refine gate_dst (N := 5) rfl ?_); refine box_event ?hg (N := 5) ?hd (cs := #[.slice A0 l0.length c0, .int .i64 0, .int .u64 0]) (t := 80) ?hr ?_; (case hd => rfl); (case hg => rfl); (case hr => first | (go_simp; done) | (go_simp; rfl)); intro gb221 hg w2 hbox hb; have n0_ := Aside0.mk (below_step HBW.out hb); have n1_ := Aside0.mk (below_step bw_ hb); have n2_ := Aside0.mk (hbox); have n3_ := Aside0.mk ((by rw [hg]; exact (below_size (by repeat (first | (with_reducible first | exact HBW.out | apply below_alloc | apply pw_below_drewN | apply below_drew1) | exact HBW.out))) : w.heap.size ≤ gb221)); have n4_ := Aside0.mk ((Nat.le_trans HW0.out (by rw [hg]; exact (below_size (by repeat (first | (with_reducible first | exact HBW.out | apply below_alloc | apply pw_below_drewN | apply below_drew1) | exact HBW.out))) : w.heap.size ≤ gb221) : w0.heap.size ≤ gb221)); clear HBW; clear HB; have HBW := n0_; have HB := n1_; have BK221 := n2_; have GW221 := n3_; have GE221 := n4_; clear n0_ n1_ n2_ n3_ n4_; clear hb hbox hg))
 go_ret
 exact ⟨_, rfl, (show IsS80 w0 _ gb221 l0 0 0 from ⟨_, _, bk_ BK221.out, GE221.out, HR0.out⟩), bw_, by repeat (first | (with_reducible first | exact HBW.out | apply below_alloc | apply pw_below_drewN | apply below_drew1 | refine below_set ?_ GW221.out) | exact HBW.out)⟩
def spec_l00Src_next.f (s0_0 : List Int) (s0_1 : Int) (s0_2 : Int) : Option (Int × Int × Int) := if s0_1 < (s0_0.length : Int) then (if 0 ≤ s0_1 then (if (wrap64 (s0_1 + 1)) ≤ (s0_0.length : Int) then (some (wrap64 (rd s0_0 s0_1), wrap64 (s0_1 + 1), IntKind.u64.wrap ((IntKind.u64.wrap ((IntKind.u64.wrap (s0_2 * 6364136223846793005)) + (IntKind.u64.wrap (wrap64 (rd s0_0 s0_1))))) + 1442695040888963407))) else (some (wrap64 (Go.bits .and .u64 ((IntKind.u64.wrap ((IntKind.u64.wrap ((IntKind.u64.wrap (s0_2 * 6364136223846793005)) + (IntKind.u64.wrap (wrap64 (rd s0_0 s0_1))))) + 1442695040888963407)) / 1099511627776) 255), wrap64 (s0_1 + 1), IntKind.u64.wrap ((IntKind.u64.wrap ((IntKind.u64.wrap (s0_2 * 6364136223846793005)) + (IntKind.u64.wrap (wrap64 (rd s0_0 s0_1))))) + 1442695040888963407)))) else (none)) else (if (wrap64 (s0_1 + 1)) ≤ (s0_0.length : Int) then (some (0, wrap64 (s0_1 + 1), IntKind.u64.wrap ((IntKind.u64.wrap ((IntKind.u64.wrap (s0_2 * 6364136223846793005)) + 0)) + 1442695040888963407))) else (some (wrap64 (Go.bits .and .u64 ((IntKind.u64.wrap ((IntKind.u64.wrap ((IntKind.u64.wrap (s0_2 * 6364136223846793005)) + 0)) + 1442695040888963407)) / 1099511627776) 255), wrap64 (s0_1 + 1), IntKind.u64.wrap ((IntKind.u64.wrap ((IntKind.u64.wrap (s0_2 * 6364136223846793005)) + 0)) + 1442695040888963407))))
set_option maxHeartbeats 8000000 in
set_option maxRecDepth 100000 in
theorem spec_l00Src_next.calls (g : Nat) (s0_0 : List Int) (s0_1 : Int) (s0_2 : Int) (r1 : Int) (r2 : Int) (r3 : Int) (w0 w : World) (hI : IsS80 w0 w g s0_0 s0_1 s0_2) (hB : Below w0.heap.size w0 w) (h : spec_l00Src_next.f s0_0 s0_1 s0_2 = some (r1, r2, r3)) :
  Calls Tryz.prog 74 #[.pointer (some ⟨g, 0, none⟩)] w fun e w' => e = .returned (.int .i64 r1) ∧ IsS80 w0 w' g s0_0 r2 r3 ∧ Below w0.heap.size w0 w' ∧ KeepBut w w' g none := by
 have HI0 := Aside0.mk hI
 have HK := Aside0.mk (KeepBut.refl w g none)
 have HL := Aside0.mk hB.size
 clear hI
 have HW0 := Aside0.mk hB.size
 have HB := Aside0.mk hB
 clear hB
 have H : (if s0_1 < (s0_0.length : Int) then (if 0 ≤ s0_1 then (if (wrap64 (s0_1 + 1)) ≤ (s0_0.length : Int) then (some (wrap64 (rd s0_0 s0_1), wrap64 (s0_1 + 1), IntKind.u64.wrap ((IntKind.u64.wrap ((IntKind.u64.wrap (s0_2 * 6364136223846793005)) + (IntKind.u64.wrap (wrap64 (rd s0_0 s0_1))))) + 1442695040888963407))) else (some (wrap64 (Go.bits .and .u64 ((IntKind.u64.wrap ((IntKind.u64.wrap ((IntKind.u64.wrap (s0_2 * 6364136223846793005)) + (IntKind.u64.wrap (wrap64 (rd s0_0 s0_1))))) + 1442695040888963407)) / 1099511627776) 255), wrap64 (s0_1 + 1), IntKind.u64.wrap ((IntKind.u64.wrap ((IntKind.u64.wrap (s0_2 * 6364136223846793005)) + (IntKind.u64.wrap (wrap64 (rd s0_0 s0_1))))) + 1442695040888963407)))) else (none)) else (if (wrap64 (s0_1 + 1)) ≤ (s0_0.length : Int) then (some (0, wrap64 (s0_1 + 1), IntKind.u64.wrap ((IntKind.u64.wrap ((IntKind.u64.wrap (s0_2 * 6364136223846793005)) + 0)) + 1442695040888963407))) else (some (wrap64 (Go.bits .and .u64 ((IntKind.u64.wrap ((IntKind.u64.wrap ((IntKind.u64.wrap (s0_2 * 6364136223846793005)) + 0)) + 1442695040888963407)) / 1099511627776) 255), wrap64 (s0_1 + 1), IntKind.u64.wrap ((IntKind.u64.wrap ((IntKind.u64.wrap (s0_2 * 6364136223846793005)) + 0)) + 1442695040888963407))))) = some (r1, r2, r3) := h
 clear h
 by_cases c2 : s0_1 < (s0_0.length : Int)
 ·rw [if_pos c2] at H
  have c2b0 : decide (s0_1 < (s0_0.length : Int)) = true := decide_eq_true c2
  clear c2
  by_cases c3 : 0 ≤ s0_1
  ·rw [if_pos c3] at H
   have c3b0 : decide (0 ≤ s0_1) = true := decide_eq_true c3
   clear c3
   by_cases c4 : (wrap64 (s0_1 + 1)) ≤ (s0_0.length : Int)
   ·rw [if_pos c4] at H
    have c4b0 : decide ((wrap64 (s0_1 + 1)) ≤ (s0_0.length : Int)) = true := decide_eq_true c4
    clear c4
    simp only [Option.some.injEq, Prod.mk.injEq] at H
    obtain ⟨rfl, rfl, rfl⟩ := H
    obtain ⟨ASz5_0, cSz5_0, HGz5, hgz5, HSz5_0⟩ := HI0.out
    have hcz5_0 := cellS80_0 HGz5
    have hcz5_1 := cellS80_1 HGz5
    have hcz5_2 := cellS80_2 HGz5
    have hfz5_1 := blk_frozen HGz5 1
    have hfz5_2 := blk_frozen HGz5 2
    clear HGz5 hgz5
    have p222 : 0 ≤ (s0_1 : Int) := of_decide_eq_true as_
    have q222 : s0_1 < (s0_0.length : Int) := of_decide_eq_true as_
    obtain ⟨ad222, e222, hx222_0⟩ := Kd.at_int HSz5_0 s0_1 p222 q222
    cases e222
    replace hx222_0 := pw_cell_below HB.out hx222_0
    replace p222 := eq_true p222
    replace q222 := eq_true q222
    go_enter Tryz.func74, Tryz.ntmps74
    go_wp2
    repeat (go_quiet (fail); try go_wp2)
    go_ret
    try simp only [Int.add_zero]
    exact ⟨re_, by repeat (first | (with_reducible first | exact HI0.out | apply IsS80.alloc | apply IsS80.drewN | apply IsS80.drew | apply IsS80.set_1 | apply IsS80.set_2) | exact HI0.out), by repeat (first | (with_reducible first | exact HB.out | apply below_alloc | apply pw_below_drewN | apply below_drew1 | refine below_set ?_ (IsS80.ge HI0.out)) | exact HB.out), by repeat (first | (with_reducible first | exact HK.out | apply KeepBut.set_ | apply keep_drewN | apply keep_drew | apply keep_alloc) | exact HK.out)⟩
   ·rw [if_neg c4] at H
    have c4b0 : decide ((wrap64 (s0_1 + 1)) ≤ (s0_0.length : Int)) = false := decide_eq_false c4
    clear c4
    simp only [Option.some.injEq, Prod.mk.injEq] at H
    obtain ⟨rfl, rfl, rfl⟩ := H
    obtain ⟨ASz6_0, cSz6_0, HGz6, hgz6, HSz6_0⟩ := HI0.out
    have hcz6_0 := cellS80_0 HGz6
    have hcz6_1 := cellS80_1 HGz6
    have hcz6_2 := cellS80_2 HGz6
    have hfz6_1 := blk_frozen HGz6 1
    have hfz6_2 := blk_frozen HGz6 2
    clear HGz6 hgz6
    have p222 : 0 ≤ (s0_1 : Int) := of_decide_eq_true as_
    have q222 : s0_1 < (s0_0.length : Int) := of_decide_eq_true as_
    obtain ⟨ad222, e222, hx222_0⟩ := Kd.at_int HSz6_0 s0_1 p222 q222
    cases e222
    replace hx222_0 := pw_cell_below HB.out hx222_0
    replace p222 := eq_true p222
    replace q222 := eq_true q222
    go_enter Tryz.func74, Tryz.ntmps74
    go_wp2
    repeat (go_quiet (fail); try go_wp2)
    go_ret
    try simp only [Int.add_zero]
    exact ⟨re_, by repeat (first | (with_reducible first | exact HI0.out | apply IsS80.alloc | apply IsS80.drewN | apply IsS80.drew | apply IsS80.set_1 | apply IsS80.set_2) | exact HI0.out), by repeat (first | (with_reducible first | exact HB.out | apply below_alloc | apply pw_below_drewN | apply below_drew1 | refine below_set ?_ (IsS80.ge HI0.out)) | exact HB.out), by repeat (first | (with_reducible first | exact HK.out | apply KeepBut.set_ | apply keep_drewN | apply keep_drew | apply keep_alloc) | exact HK.out)⟩
  ·rw [if_neg c3] at H
   exact absurd H (by simp)
 ·rw [if_neg c2] at H
  have c2b0 : decide (s0_1 < (s0_0.length : Int)) = false := decide_eq_false c2
  clear c2
  by_cases c7 : (wrap64 (s0_1 + 1)) ≤ (s0_0.length : Int)
  ·rw [if_pos c7] at H
   have c7b0 : decide ((wrap64 (s0_1 + 1)) ≤ (s0_0.length : Int)) = true := decide_eq_true c7
   clear c7
   simp only [Option.some.injEq, Prod.mk.injEq] at H
   obtain ⟨rfl, rfl, rfl⟩ := H
   obtain ⟨ASz8_0, cSz8_0, HGz8, hgz8, HSz8_0⟩ := HI0.out
   have hcz8_0 := cellS80_0 HGz8
   have hcz8_1 := cellS80_1 HGz8
   have hcz8_2 := cellS80_2 HGz8
   have hfz8_1 := blk_frozen HGz8 1
   have hfz8_2 := blk_frozen HGz8 2
   clear HGz8 hgz8
   go_enter Tryz.func74, Tryz.ntmps74
   go_wp2
   repeat (go_quiet (fail); try go_wp2)
   go_ret
   try simp only [Int.add_zero]
   exact ⟨re_, by repeat (first | (with_reducible first | exact HI0.out | apply IsS80.alloc | apply IsS80.drewN | apply IsS80.drew | apply IsS80.set_1 | apply IsS80.set_2) | exact HI0.out), by repeat (first | (with_reducible first | exact HB.out | apply below_alloc | apply pw_below_drewN | apply below_drew1 | refine below_set ?_ (IsS80.ge HI0.out)) | exact HB.out), by repeat (first | (with_reducible first | exact HK.out | apply KeepBut.set_ | apply keep_drewN | apply keep_drew | apply keep_alloc) | exact HK.out)⟩
  ·rw [if_neg c7] at H
   have c7b0 : decide ((wrap64 (s0_1 + 1)) ≤ (s0_0.length : Int)) = false := decide_eq_false c7
   clear c7
   simp only [Option.some.injEq, Prod.mk.injEq] at H
   obtain ⟨rfl, rfl, rfl⟩ := H
   obtain ⟨ASz9_0, cSz9_0, HGz9, hgz9, HSz9_0⟩ := HI0.out
   have hcz9_0 := cellS80_0 HGz9
   have hcz9_1 := cellS80_1 HGz9
   have hcz9_2 := cellS80_2 HGz9
   have hfz9_1 := blk_frozen HGz9 1
   have hfz9_2 := blk_frozen HGz9 2
   clear HGz9 hgz9
   go_enter Tryz.func74, Tryz.ntmps74
   go_wp2
   repeat (go_quiet (fail); try go_wp2)
   go_ret
   try simp only [Int.add_zero]
   exact ⟨re_, by repeat (first | (with_reducible first | exact HI0.out | apply IsS80.alloc | apply IsS80.drewN | apply IsS80.drew | apply IsS80.set_1 | apply IsS80.set_2) | exact HI0.out), by repeat (first | (with_reducible first | exact HB.out | apply below_alloc | apply pw_below_drewN | apply below_drew1 | refine below_set ?_ (IsS80.ge HI0.out)) | exact HB.out), by repeat (first | (with_reducible first | exact HK.out | apply KeepBut.set_ | apply keep_drewN | apply keep_drew | apply keep_alloc) | exact HK.out)⟩
end Go.Proofs.YtgklofginkafgaaGreatDoor.PS
end
section
namespace Go.Proofs.YtgklofginkafgaaGreatDoor.PS
open Go.RowKit Go.Proofs.YtgklofginkafgaaGreatDoorW.PrintWords Go.Proofs.YtgklofginkafgaaGreatDoorW.PrintLast Go.Proofs.YtgklofginkafgaaGreatDoorW.PrintMore
attribute [local go_sem] max2_int min2_int max_two min_two max_three min_three max_four min_four
set_option linter.unusedVariables false
set_option linter.unusedSimpArgs false
def spec_l00Src_pick.f (s0_0 : List Int) (s0_1 : Int) (s0_2 : Int) (a1 : Int) : Option (Int × Int × Int) := if a1 ≤ 1 then (some (0, s0_1, s0_2)) else ((spec_l00Src_next.f s0_0 s0_1 s0_2).bind fun bt223 => (if a1 > 200 then ((spec_l00Src_next.f s0_0 bt223.2.1 bt223.2.2).bind fun bt226 => (if a1 = 0 then (none) else (some (Int.tmod (wrap64 ((wrap64 (bt223.1 * 256)) + bt226.1)) a1, bt226.2.1, bt226.2.2)))) else (if a1 = 0 then (none) else (some (Int.tmod bt223.1 a1, bt223.2.1, bt223.2.2)))))
set_option maxHeartbeats 8000000 in
set_option maxRecDepth 100000 in
theorem spec_l00Src_pick.calls (g : Nat) (s0_0 : List Int) (s0_1 : Int) (s0_2 : Int) (a1 : Int) (r1 : Int) (r2 : Int) (r3 : Int) (w0 w : World) (hI : IsS80 w0 w g s0_0 s0_1 s0_2) (hB : Below w0.heap.size w0 w) (h : spec_l00Src_pick.f s0_0 s0_1 s0_2 a1 = some (r1, r2, r3)) :
  Calls Tryz.prog 50 #[.pointer (some ⟨g, 0, none⟩), .int .i64 a1] w fun e w' => e = .returned (.int .i64 r1) ∧ IsS80 w0 w' g s0_0 r2 r3 ∧ Below w0.heap.size w0 w' ∧ KeepBut w w' g none := by
 have HI0 := Aside0.mk hI
 have HK := Aside0.mk (KeepBut.refl w g none)
 have HL := Aside0.mk hB.size
 clear hI
 have HW0 := Aside0.mk hB.size
 have HB := Aside0.mk hB
 clear hB
 have H : (if a1 ≤ 1 then (some (0, s0_1, s0_2)) else ((spec_l00Src_next.f s0_0 s0_1 s0_2).bind fun bt223 => (if a1 > 200 then ((spec_l00Src_next.f s0_0 bt223.2.1 bt223.2.2).bind fun bt226 => (if a1 = 0 then (none) else (some (Int.tmod (wrap64 ((wrap64 (bt223.1 * 256)) + bt226.1)) a1, bt226.2.1, bt226.2.2)))) else (if a1 = 0 then (none) else (some (Int.tmod bt223.1 a1, bt223.2.1, bt223.2.2)))))) = some (r1, r2, r3) := h
 clear h
 by_cases c3 : a1 ≤ 1
 ·rw [if_pos c3] at H
  have c3b0 : decide (a1 ≤ 1) = true := decide_eq_true c3
  clear c3
  simp only [Option.some.injEq, Prod.mk.injEq] at H
  obtain ⟨rfl, rfl, rfl⟩ := H
  go_enter Tryz.func50, Tryz.ntmps50
  go_wp2
  go_ret
  exact ⟨re_, by repeat (first | (with_reducible first | exact HI0.out | apply IsS80.alloc | apply IsS80.drewN | apply IsS80.drew | apply IsS80.set_1 | apply IsS80.set_2) | exact HI0.out), by repeat (first | (with_reducible first | exact HB.out | apply below_alloc | apply pw_below_drewN | apply below_drew1 | refine below_set ?_ (IsS80.ge HI0.out)) | exact HB.out), by repeat (first | (with_reducible first | exact HK.out | apply KeepBut.set_ | apply keep_drewN | apply keep_drew | apply keep_alloc) | exact HK.out)⟩
 ·rw [if_neg c3] at H
  have c3b0 : decide (a1 ≤ 1) = false := decide_eq_false c3
  clear c3
  replace H := Option.bind_eq_some_iff.mp H
  obtain ⟨⟨t223, t224, t225⟩, A40, H⟩ := H
  replace H : (if a1 > 200 then ((spec_l00Src_next.f s0_0 t224 t225).bind fun bt226 => (if a1 = 0 then (none) else (some (Int.tmod (wrap64 ((wrap64 (t223 * 256)) + bt226.1)) a1, bt226.2.1, bt226.2.2)))) else (if a1 = 0 then (none) else (some (Int.tmod t223 a1, t224, t225)))) = some (r1, r2, r3) := H
  have A4 := Aside0.mk A40
  clear A40
  by_cases c5 : a1 > 200
  ·rw [if_pos c5] at H
   have c5b0 : decide (200 < a1) = true := decide_eq_true c5
   clear c5
   replace H := Option.bind_eq_some_iff.mp H
   obtain ⟨⟨t226, t227, t228⟩, A60, H⟩ := H
   replace H : (if a1 = 0 then (none) else (some (Int.tmod (wrap64 ((wrap64 (t223 * 256)) + t226)) a1, t227, t228))) = some (r1, r2, r3) := H
   have A6 := Aside0.mk A60
   clear A60
   by_cases c7 : a1 = 0
   ·rw [if_pos c7] at H
    exact absurd H (by simp)
   ·rw [if_neg c7] at H
    have c7b0 : (a1 == 0) = false := beq_eq_false_iff_ne.mpr c7
    have c7b1 : (a1 != 0) = true := bne_iff_ne.mpr c7
    simp only [Option.some.injEq, Prod.mk.injEq] at H
    obtain ⟨rfl, rfl, rfl⟩ := H
    go_enter Tryz.func50, Tryz.ntmps50
    go_wp2_with (first | ((with_reducible refine gate_callee (f := 74) rfl ?_); refine goesL_ (some 9) rfl rfl Tryz.func74 (by kernel_rfl) rfl #[.pointer (some ⟨g, 0, none⟩)] rfl ma_ ?_; (with_reducible refine (spec_l00Src_next.calls g s0_0 s0_1 s0_2 t223 t224 t225 w0 _ ?side1 ?side2 A4.out).mono ?_); (case side1 => repeat (first | (with_reducible first | exact HI0.out | apply IsS80.alloc | apply IsS80.drewN | apply IsS80.drew | apply IsS80.set_1 | apply IsS80.set_2) | exact HI0.out)); (case side2 => repeat (first | (with_reducible first | exact HB.out | apply below_alloc | apply pw_below_drewN | apply below_drew1 | refine below_set ?_ (IsS80.ge HI0.out)) | exact HB.out)); rintro e w8 ⟨rfl, hi, hb, hk⟩; refine ⟨_, rfl, ?_⟩; have n0_ := Aside0.mk (KeepBut.trans (by repeat (first | (with_reducible first | exact HK.out | apply KeepBut.set_ | apply keep_drewN | apply keep_drew | apply keep_alloc) | exact HK.out)) hk (.inl rfl)); have n1_ := Aside0.mk (hb); have n2_ := Aside0.mk (hi); clear HK; clear HB; clear HI0; have HK := n0_; have HB := n1_; have HI0 := n2_; clear n0_ n1_ n2_; (try clear hb); (try clear hb2); (try clear hk); (try clear hi)) | ((with_reducible refine gate_callee (f := 74) rfl ?_); refine goesL_ (some 15) rfl rfl Tryz.func74 (by kernel_rfl) rfl #[.pointer (some ⟨g, 0, none⟩)] rfl ma_ ?_; (with_reducible refine (spec_l00Src_next.calls g s0_0 t224 t225 t226 t227 t228 w0 _ ?side1 ?side2 A6.out).mono ?_); (case side1 => repeat (first | (with_reducible first | exact HI0.out | apply IsS80.alloc | apply IsS80.drewN | apply IsS80.drew | apply IsS80.set_1 | apply IsS80.set_2) | exact HI0.out)); (case side2 => repeat (first | (with_reducible first | exact HB.out | apply below_alloc | apply pw_below_drewN | apply below_drew1 | refine below_set ?_ (IsS80.ge HI0.out)) | exact HB.out)); rintro e w9 ⟨rfl, hi, hb, hk⟩; refine ⟨_, rfl, ?_⟩; have n0_ := Aside0.mk (KeepBut.trans (by repeat (first | (with_reducible first | exact HK.out | apply KeepBut.set_ | apply keep_drewN | apply keep_drew | apply keep_alloc) | exact HK.out)) hk (.inl rfl)); have n1_ := Aside0.mk (hb); have n2_ := Aside0.mk (hi); clear HK; clear HB; clear HI0; have HK := n0_; have HB := n1_; have HI0 := n2_; clear n0_ n1_ n2_; (try clear hb); (try clear hb2); (try clear hk); (try clear hi)))
    go_ret
    exact ⟨re_, by repeat (first | (with_reducible first | exact HI0.out | apply IsS80.alloc | apply IsS80.drewN | apply IsS80.drew | apply IsS80.set_1 | apply IsS80.set_2) | exact HI0.out), by repeat (first | (with_reducible first | exact HB.out | apply below_alloc | apply pw_below_drewN | apply below_drew1 | refine below_set ?_ (IsS80.ge HI0.out)) | exact HB.out), by repeat (first | (with_reducible first | exact HK.out | apply KeepBut.set_ | apply keep_drewN | apply keep_drew | apply keep_alloc) | exact HK.out)⟩
  ·rw [if_neg c5] at H
   have c5b0 : decide (200 < a1) = false := decide_eq_false c5
   clear c5
   by_cases c10 : a1 = 0
   ·rw [if_pos c10] at H
    exact absurd H (by simp)
   ·rw [if_neg c10] at H
    have c10b0 : (a1 == 0) = false := beq_eq_false_iff_ne.mpr c10
    have c10b1 : (a1 != 0) = true := bne_iff_ne.mpr c10
    simp only [Option.some.injEq, Prod.mk.injEq] at H
    obtain ⟨rfl, rfl, rfl⟩ := H
    go_enter Tryz.func50, Tryz.ntmps50
    go_wp2_with (first | ((with_reducible refine gate_callee (f := 74) rfl ?_); refine goesL_ (some 9) rfl rfl Tryz.func74 (by kernel_rfl) rfl #[.pointer (some ⟨g, 0, none⟩)] rfl ma_ ?_; (with_reducible refine (spec_l00Src_next.calls g s0_0 s0_1 s0_2 t223 t224 t225 w0 _ ?side1 ?side2 A4.out).mono ?_); (case side1 => repeat (first | (with_reducible first | exact HI0.out | apply IsS80.alloc | apply IsS80.drewN | apply IsS80.drew | apply IsS80.set_1 | apply IsS80.set_2) | exact HI0.out)); (case side2 => repeat (first | (with_reducible first | exact HB.out | apply below_alloc | apply pw_below_drewN | apply below_drew1 | refine below_set ?_ (IsS80.ge HI0.out)) | exact HB.out)); rintro e w11 ⟨rfl, hi, hb, hk⟩; refine ⟨_, rfl, ?_⟩; have n0_ := Aside0.mk (KeepBut.trans (by repeat (first | (with_reducible first | exact HK.out | apply KeepBut.set_ | apply keep_drewN | apply keep_drew | apply keep_alloc) | exact HK.out)) hk (.inl rfl)); have n1_ := Aside0.mk (hb); have n2_ := Aside0.mk (hi); clear HK; clear HB; clear HI0; have HK := n0_; have HB := n1_; have HI0 := n2_; clear n0_ n1_ n2_; (try clear hb); (try clear hb2); (try clear hk); (try clear hi)))
    go_ret
    exact ⟨re_, by repeat (first | (with_reducible first | exact HI0.out | apply IsS80.alloc | apply IsS80.drewN | apply IsS80.drew | apply IsS80.set_1 | apply IsS80.set_2) | exact HI0.out), by repeat (first | (with_reducible first | exact HB.out | apply below_alloc | apply pw_below_drewN | apply below_drew1 | refine below_set ?_ (IsS80.ge HI0.out)) | exact HB.out), by repeat (first | (with_reducible first | exact HK.out | apply KeepBut.set_ | apply keep_drewN | apply keep_drew | apply keep_alloc) | exact HK.out)⟩
def spec_l00Src_among.f (s0_0 : List Int) (s0_1 : Int) (s0_2 : Int) (l1 : List Int) : Option (Int × Int × Int) := (spec_l00Src_pick.f s0_0 s0_1 s0_2 (l1.length : Int)).bind fun bt229 => (if 0 ≤ bt229.1 then (if bt229.1 < (l1.length : Int) then (some (rd l1 bt229.1, bt229.2.1, bt229.2.2)) else (none)) else (none))
set_option maxHeartbeats 8000000 in
set_option maxRecDepth 100000 in
theorem spec_l00Src_among.calls (g : Nat) (s0_0 : List Int) (s0_1 : Int) (s0_2 : Int) (A1 : Option Addr) (c1 : Nat) (l1 : List Int) (r1 : Int) (r2 : Int) (r3 : Int) (w0 w : World) (hI : IsS80 w0 w g s0_0 s0_1 s0_2) (hB : Below w0.heap.size w0 w) (hr1 : Kd.C (Kd.int .i64) w A1 l1.length l1) (hc1 : l1.length ≤ c1) (hf1 : ∀ ad, A1 = some ad → 0 < l1.length → ad.block ≠ g) (h : spec_l00Src_among.f s0_0 s0_1 s0_2 l1 = some (r1, r2, r3)) :
  Calls Tryz.prog 54 #[.pointer (some ⟨g, 0, none⟩), .slice A1 l1.length c1] w fun e w' => e = .returned (.int .i64 r1) ∧ IsS80 w0 w' g s0_0 r2 r3 ∧ Below w0.heap.size w0 w' ∧ KeepBut w w' g none := by
 have HR1 := Aside0.mk hr1
 have HC1 := Aside0.mk hc1
 clear hr1 hc1
 have HI0 := Aside0.mk hI
 have HK := Aside0.mk (KeepBut.refl w g none)
 have HL := Aside0.mk hB.size
 clear hI
 have HW0 := Aside0.mk hB.size
 have HB := Aside0.mk hB
 clear hB
 have H : ((spec_l00Src_pick.f s0_0 s0_1 s0_2 (l1.length : Int)).bind fun bt229 => (if 0 ≤ bt229.1 then (if bt229.1 < (l1.length : Int) then (some (rd l1 bt229.1, bt229.2.1, bt229.2.2)) else (none)) else (none))) = some (r1, r2, r3) := h
 clear h
 replace H := Option.bind_eq_some_iff.mp H
 obtain ⟨⟨t229, t230, t231⟩, A30, H⟩ := H
 replace H : (if 0 ≤ t229 then (if t229 < (l1.length : Int) then (some (rd l1 t229, t230, t231)) else (none)) else (none)) = some (r1, r2, r3) := H
 have A3 := Aside0.mk A30
 clear A30
 by_cases c4 : 0 ≤ t229
 ·rw [if_pos c4] at H
  have c4b0 : decide (0 ≤ t229) = true := decide_eq_true c4
  clear c4
  by_cases c5 : t229 < (l1.length : Int)
  ·rw [if_pos c5] at H
   have c5b0 : decide (t229 < (l1.length : Int)) = true := decide_eq_true c5
   clear c5
   simp only [Option.some.injEq, Prod.mk.injEq] at H
   obtain ⟨rfl, rfl, rfl⟩ := H
   go_enter Tryz.func54, Tryz.ntmps54
   go_wp2_with (first | ((with_reducible refine gate_callee (f := 50) rfl ?_); refine goesL_ (some 9) rfl rfl Tryz.func50 (by kernel_rfl) rfl #[.pointer (some ⟨g, 0, none⟩), .int .i64 (l1.length : Int)] rfl ma_ ?_; (with_reducible refine (spec_l00Src_pick.calls g s0_0 s0_1 s0_2 (l1.length : Int) t229 t230 t231 w0 _ ?side1 ?side2 A3.out).mono ?_); (case side1 => repeat (first | (with_reducible first | exact HI0.out | apply IsS80.alloc | apply IsS80.drewN | apply IsS80.drew | apply IsS80.set_1 | apply IsS80.set_2) | exact HI0.out)); (case side2 => repeat (first | (with_reducible first | exact HB.out | apply below_alloc | apply pw_below_drewN | apply below_drew1 | refine below_set ?_ (IsS80.ge HI0.out)) | exact HB.out)); rintro e w6 ⟨rfl, hi, hb, hk⟩; refine ⟨_, rfl, ?_⟩; have n0_ := Aside0.mk (KeepBut.trans (by repeat (first | (with_reducible first | exact HK.out | apply KeepBut.set_ | apply keep_drewN | apply keep_drew | apply keep_alloc) | exact HK.out)) hk (.inl rfl)); have n1_ := Aside0.mk (hb); have n2_ := Aside0.mk (hi); clear HK; clear HB; clear HI0; have HK := n0_; have HB := n1_; have HI0 := n2_; clear n0_ n1_ n2_; (try clear hb); (try clear hb2); (try clear hk); (try clear hi); have p232 : 0 ≤ (t229 : Int) := of_decide_eq_true as_; have q232 : t229 < (l1.length : Int) := of_decide_eq_true as_; obtain ⟨ad232, e232, hx232_0⟩ := Kd.at_int HR1.out t229 p232 q232; cases e232; replace hx232_0 := keep_cell HK.out hx232_0 (by first | (rw [add_block]; exact hf1 _ rfl (by omega)) | exact hf1 _ rfl (by omega) | exact hf1 ad232 rfl (by omega)); replace p232 := eq_true p232; replace q232 := eq_true q232))
   go_ret
   exact ⟨re_, by repeat (first | (with_reducible first | exact HI0.out | apply IsS80.alloc | apply IsS80.drewN | apply IsS80.drew | apply IsS80.set_1 | apply IsS80.set_2) | exact HI0.out), by repeat (first | (with_reducible first | exact HB.out | apply below_alloc | apply pw_below_drewN | apply below_drew1 | refine below_set ?_ (IsS80.ge HI0.out)) | exact HB.out), by repeat (first | (with_reducible first | exact HK.out | apply KeepBut.set_ | apply keep_drewN | apply keep_drew | apply keep_alloc) | exact HK.out)⟩
  ·rw [if_neg c5] at H
   exact absurd H (by simp)
 ·rw [if_neg c4] at H
  exact absurd H (by simp)
def spec_l26DrawScript.f (s0_0 : List Int) (s0_1 : Int) (s0_2 : Int) : Option (Int × Int × Int) := (spec_l00Src_among.f s0_0 s0_1 s0_2 (([1, 2, 3, 4, 1, 2, 3, 4, 0, 5] : List Int))).bind fun bt236 => (some (bt236.1, bt236.2.1, bt236.2.2))
set_option maxHeartbeats 8000000 in
set_option maxRecDepth 100000 in
theorem spec_l26DrawScript.calls (g : Nat) (s0_0 : List Int) (s0_1 : Int) (s0_2 : Int) (r1 : Int) (r2 : Int) (r3 : Int) (w0 w : World) (hI : IsS80 w0 w g s0_0 s0_1 s0_2) (hB : Below w0.heap.size w0 w) (h : spec_l26DrawScript.f s0_0 s0_1 s0_2 = some (r1, r2, r3)) :
  Calls Tryz.prog 27 #[.pointer (some ⟨g, 0, none⟩)] w fun e w' => e = .returned (.int .i64 r1) ∧ IsS80 w0 w' g s0_0 r2 r3 ∧ Below w0.heap.size w0 w' ∧ KeepBut w w' g none := by
 have HI0 := Aside0.mk hI
 have HK := Aside0.mk (KeepBut.refl w g none)
 have HL := Aside0.mk hB.size
 clear hI
 have HW0 := Aside0.mk hB.size
 have HB := Aside0.mk hB
 clear hB
 have H : ((spec_l00Src_among.f s0_0 s0_1 s0_2 (([1, 2, 3, 4, 1, 2, 3, 4, 0, 5] : List Int))).bind fun bt236 => (some (bt236.1, bt236.2.1, bt236.2.2))) = some (r1, r2, r3) := h
 clear h
 obtain ⟨y233, hy233⟩ : ∃ y_ : List Int, y_ = (([1, 2, 3, 4, 1, 2, 3, 4, 0, 5] : List Int)) := ⟨_, rfl⟩
 replace H : ((spec_l00Src_among.f s0_0 s0_1 s0_2 y233).bind fun bt236 => (some (bt236.1, bt236.2.1, bt236.2.2))) = some (r1, r2, r3) := by first | (rw [hy233]; with_reducible exact H) | (have H2_ := (Option.bind_some _ _).symm.trans H; rw [hy233]; with_reducible exact H2_) | (have H2_ := (Option.bind_some _ _).symm.trans H; with_reducible exact H2_) | with_reducible exact H | (rw [hy233]; exact H) | exact H
 have Ny233 := Aside0.mk hy233
 clear hy233
 replace H := Option.bind_eq_some_iff.mp H
 obtain ⟨⟨t236, t237, t238⟩, A20, H⟩ := H
 replace H : (some (t236, t237, t238)) = some (r1, r2, r3) := H
 have A2 := Aside0.mk A20
 clear A20
 simp only [Option.some.injEq, Prod.mk.injEq] at H
 obtain ⟨rfl, rfl, rfl⟩ := H
 go_enter Tryz.func27, Tryz.ntmps27
 go_wp2_with (first | ((with_reducible refine gate_dst (N := 4) rfl ?_); refine Kd.R_lit (Kd.int .i64) _ 2 ?hg (N := 4) ?hd (xs := ([1, 2, 3, 4, 1, 2, 3, 4, 0, 5] : List Int)) (inner := [.int .i64 1, .int .i64 2, .int .i64 3, .int .i64 4, .int .i64 1, .int .i64 2, .int .i64 3, .int .i64 4, .int .i64 0, .int .i64 5]) (ok := fun _ => True) (okp := fun _ => True) ?hr ?hp (fun _ hk => hk) trivial (Below.refl _ _) (Nat.le_refl _) (by simp) ?_; (case hd => rfl); (case hg => rfl); (case hr => first | (go_simp; done) | (go_simp; rfl)); (case hp => exact (Reps.one (show Kd.M (Kd.int .i64) _ _ _ 1 [.int .i64 1] from rfl) (Reps.one (show Kd.M (Kd.int .i64) _ _ _ 2 [.int .i64 2] from rfl) (Reps.one (show Kd.M (Kd.int .i64) _ _ _ 3 [.int .i64 3] from rfl) (Reps.one (show Kd.M (Kd.int .i64) _ _ _ 4 [.int .i64 4] from rfl) (Reps.one (show Kd.M (Kd.int .i64) _ _ _ 1 [.int .i64 1] from rfl) (Reps.one (show Kd.M (Kd.int .i64) _ _ _ 2 [.int .i64 2] from rfl) (Reps.one (show Kd.M (Kd.int .i64) _ _ _ 3 [.int .i64 3] from rfl) (Reps.one (show Kd.M (Kd.int .i64) _ _ _ 4 [.int .i64 4] from rfl) (Reps.one (show Kd.M (Kd.int .i64) _ _ _ 0 [.int .i64 0] from rfl) (Reps.one (show Kd.M (Kd.int .i64) _ _ _ 5 [.int .i64 5] from rfl) (Reps.none _ _)))))))))))); intro v234 w3 ho4 hb hg_ hnew_; clear hg_ hnew_; (first | rw [← Ny233.out] at ho4 | (simp only [Int.reduceToNat] at ho4; rw [← Ny233.out] at ho4)); have n0_ := Aside0.mk (Kd.R_lower ho4 (keep_size (w := w) (g := g) (row := none) (by repeat (first | (with_reducible first | exact HK.out | apply KeepBut.set_ | apply keep_drewN | apply keep_drew | apply keep_alloc) | exact HK.out)))); have n1_ := Aside0.mk (IsS80.below (by repeat (first | (with_reducible first | exact HI0.out | apply IsS80.alloc | apply IsS80.drewN | apply IsS80.drew | apply IsS80.set_1 | apply IsS80.set_2) | exact HI0.out)) hb); have n2_ := Aside0.mk (KeepBut.trans (by repeat (first | (with_reducible first | exact HK.out | apply KeepBut.set_ | apply keep_drewN | apply keep_drew | apply keep_alloc) | exact HK.out)) (KeepBut.of_below hb g none) (.inl rfl)); have n3_ := Aside0.mk (below_step (by repeat (first | (with_reducible first | exact HB.out | apply below_alloc | apply pw_below_drewN | apply below_drew1 | refine below_set ?_ (IsS80.ge HI0.out)) | exact HB.out)) hb); clear HI0; clear HK; clear HB; have HO235 := n0_; have HI0 := n1_; have HK := n2_; have HB := n3_; clear n0_ n1_ n2_ n3_; clear hb ho4; obtain ⟨Ao5, co5, eo5⟩ := Kd.R_slice HO235.out; subst eo5) | ((with_reducible refine gate_callee (f := 54) rfl ?_); refine goesL_ (some 5) rfl rfl Tryz.func54 (by kernel_rfl) rfl #[.pointer (some ⟨g, 0, none⟩), .slice Ao5 y233.length co5] rfl ma_ ?_; (with_reducible refine (spec_l00Src_among.calls g s0_0 s0_1 s0_2 _ _ y233 t236 t237 t238 w0 _ ?side1 ?side2 ?side3 ?side4 ?side5 A2.out).mono ?_); (case side1 => repeat (first | (with_reducible first | exact HI0.out | apply IsS80.alloc | apply IsS80.drewN | apply IsS80.drew | apply IsS80.set_1 | apply IsS80.set_2) | exact HI0.out)); (case side2 => repeat (first | (with_reducible first | exact HB.out | apply below_alloc | apply pw_below_drewN | apply below_drew1 | refine below_set ?_ (IsS80.ge HI0.out)) | exact HB.out)); (case side3 => repeat (first | exact (Kd.R_reads' HO235.out).2.2 | (with_reducible refine Kd.C_alloc ?_ _) | (with_reducible refine Kd.C_drewN ?_ _) | (with_reducible refine Kd.C_drew ?_))); (case side4 => exact (Kd.R_reads' HO235.out).2.1); (case side5 => exact far_slice (IsS80.own_ne HI0.out HO235.out (by decide))); rintro e w6 ⟨rfl, hi, hb, hk⟩; refine ⟨_, rfl, ?_⟩; have n0_ := Aside0.mk (Kd.R_mono (Kd.R_keep (IsS80.apart (show IsS80 w0 _ g s0_0 s0_1 s0_2 from by repeat (first | (with_reducible first | exact HI0.out | apply IsS80.alloc | apply IsS80.drewN | apply IsS80.drew | apply IsS80.set_1 | apply IsS80.set_2) | exact HI0.out)) (kr_ HO235.out) (by decide)) hk (fun _ h => h.2)) (fun _ h => h.1)); have n1_ := Aside0.mk (KeepBut.trans (by repeat (first | (with_reducible first | exact HK.out | apply KeepBut.set_ | apply keep_drewN | apply keep_drew | apply keep_alloc) | exact HK.out)) hk (.inl rfl)); have n2_ := Aside0.mk (hb); have n3_ := Aside0.mk (hi); clear HO235; clear HK; clear HB; clear HI0; have HO235 := n0_; have HK := n1_; have HB := n2_; have HI0 := n3_; clear n0_ n1_ n2_ n3_; (try clear hb); (try clear hb2); (try clear hk); (try clear hi)))
 go_ret
 exact ⟨re_, by repeat (first | (with_reducible first | exact HI0.out | apply IsS80.alloc | apply IsS80.drewN | apply IsS80.drew | apply IsS80.set_1 | apply IsS80.set_2) | exact HI0.out), by repeat (first | (with_reducible first | exact HB.out | apply below_alloc | apply pw_below_drewN | apply below_drew1 | refine below_set ?_ (IsS80.ge HI0.out)) | exact HB.out), by repeat (first | (with_reducible first | exact HK.out | apply KeepBut.set_ | apply keep_drewN | apply keep_drew | apply keep_alloc) | exact HK.out)⟩
def spec_l26DrawKey.f (s0_0 : List Int) (s0_1 : Int) (s0_2 : Int) : Option (Int × Int × Int) := (spec_l00Src_among.f s0_0 s0_1 s0_2 (([0, 2, 5, 7, 11, 0, 12, (-1), 1] : List Int))).bind fun bt242 => (some (bt242.1, bt242.2.1, bt242.2.2))
set_option maxHeartbeats 8000000 in
set_option maxRecDepth 100000 in
theorem spec_l26DrawKey.calls (g : Nat) (s0_0 : List Int) (s0_1 : Int) (s0_2 : Int) (r1 : Int) (r2 : Int) (r3 : Int) (w0 w : World) (hI : IsS80 w0 w g s0_0 s0_1 s0_2) (hB : Below w0.heap.size w0 w) (h : spec_l26DrawKey.f s0_0 s0_1 s0_2 = some (r1, r2, r3)) :
  Calls Tryz.prog 28 #[.pointer (some ⟨g, 0, none⟩)] w fun e w' => e = .returned (.int .i64 r1) ∧ IsS80 w0 w' g s0_0 r2 r3 ∧ Below w0.heap.size w0 w' ∧ KeepBut w w' g none := by
 have HI0 := Aside0.mk hI
 have HK := Aside0.mk (KeepBut.refl w g none)
 have HL := Aside0.mk hB.size
 clear hI
 have HW0 := Aside0.mk hB.size
 have HB := Aside0.mk hB
 clear hB
 have H : ((spec_l00Src_among.f s0_0 s0_1 s0_2 (([0, 2, 5, 7, 11, 0, 12, (-1), 1] : List Int))).bind fun bt242 => (some (bt242.1, bt242.2.1, bt242.2.2))) = some (r1, r2, r3) := h
 clear h
 obtain ⟨y239, hy239⟩ : ∃ y_ : List Int, y_ = (([0, 2, 5, 7, 11, 0, 12, (-1), 1] : List Int)) := ⟨_, rfl⟩
 replace H : ((spec_l00Src_among.f s0_0 s0_1 s0_2 y239).bind fun bt242 => (some (bt242.1, bt242.2.1, bt242.2.2))) = some (r1, r2, r3) := by first | (rw [hy239]; with_reducible exact H) | (have H2_ := (Option.bind_some _ _).symm.trans H; rw [hy239]; with_reducible exact H2_) | (have H2_ := (Option.bind_some _ _).symm.trans H; with_reducible exact H2_) | with_reducible exact H | (rw [hy239]; exact H) | exact H
 have Ny239 := Aside0.mk hy239
 clear hy239
 replace H := Option.bind_eq_some_iff.mp H
 obtain ⟨⟨t242, t243, t244⟩, A20, H⟩ := H
 replace H : (some (t242, t243, t244)) = some (r1, r2, r3) := H
 have A2 := Aside0.mk A20
 clear A20
 simp only [Option.some.injEq, Prod.mk.injEq] at H
 obtain ⟨rfl, rfl, rfl⟩ := H
 go_enter Tryz.func28, Tryz.ntmps28
 go_wp2_with (first | ((with_reducible refine gate_dst (N := 4) rfl ?_); refine Kd.R_lit (Kd.int .i64) _ 2 ?hg (N := 4) ?hd (xs := ([0, 2, 5, 7, 11, 0, 12, (-1), 1] : List Int)) (inner := [.int .i64 0, .int .i64 2, .int .i64 5, .int .i64 7, .int .i64 11, .int .i64 0, .int .i64 12, .int .i64 (-1), .int .i64 1]) (ok := fun _ => True) (okp := fun _ => True) ?hr ?hp (fun _ hk => hk) trivial (Below.refl _ _) (Nat.le_refl _) (by simp) ?_; (case hd => rfl); (case hg => rfl); (case hr => first | (go_simp; done) | (go_simp; rfl)); (case hp => exact (Reps.one (show Kd.M (Kd.int .i64) _ _ _ 0 [.int .i64 0] from rfl) (Reps.one (show Kd.M (Kd.int .i64) _ _ _ 2 [.int .i64 2] from rfl) (Reps.one (show Kd.M (Kd.int .i64) _ _ _ 5 [.int .i64 5] from rfl) (Reps.one (show Kd.M (Kd.int .i64) _ _ _ 7 [.int .i64 7] from rfl) (Reps.one (show Kd.M (Kd.int .i64) _ _ _ 11 [.int .i64 11] from rfl) (Reps.one (show Kd.M (Kd.int .i64) _ _ _ 0 [.int .i64 0] from rfl) (Reps.one (show Kd.M (Kd.int .i64) _ _ _ 12 [.int .i64 12] from rfl) (Reps.one (show Kd.M (Kd.int .i64) _ _ _ (-1) [.int .i64 (-1)] from rfl) (Reps.one (show Kd.M (Kd.int .i64) _ _ _ 1 [.int .i64 1] from rfl) (Reps.none _ _))))))))))); intro v240 w3 ho4 hb hg_ hnew_; clear hg_ hnew_; (first | rw [← Ny239.out] at ho4 | (simp only [Int.reduceToNat] at ho4; rw [← Ny239.out] at ho4)); have n0_ := Aside0.mk (Kd.R_lower ho4 (keep_size (w := w) (g := g) (row := none) (by repeat (first | (with_reducible first | exact HK.out | apply KeepBut.set_ | apply keep_drewN | apply keep_drew | apply keep_alloc) | exact HK.out)))); have n1_ := Aside0.mk (IsS80.below (by repeat (first | (with_reducible first | exact HI0.out | apply IsS80.alloc | apply IsS80.drewN | apply IsS80.drew | apply IsS80.set_1 | apply IsS80.set_2) | exact HI0.out)) hb); have n2_ := Aside0.mk (KeepBut.trans (by repeat (first | (with_reducible first | exact HK.out | apply KeepBut.set_ | apply keep_drewN | apply keep_drew | apply keep_alloc) | exact HK.out)) (KeepBut.of_below hb g none) (.inl rfl)); have n3_ := Aside0.mk (below_step (by repeat (first | (with_reducible first | exact HB.out | apply below_alloc | apply pw_below_drewN | apply below_drew1 | refine below_set ?_ (IsS80.ge HI0.out)) | exact HB.out)) hb); clear HI0; clear HK; clear HB; have HO241 := n0_; have HI0 := n1_; have HK := n2_; have HB := n3_; clear n0_ n1_ n2_ n3_; clear hb ho4; obtain ⟨Ao5, co5, eo5⟩ := Kd.R_slice HO241.out; subst eo5) | ((with_reducible refine gate_callee (f := 54) rfl ?_); refine goesL_ (some 5) rfl rfl Tryz.func54 (by kernel_rfl) rfl #[.pointer (some ⟨g, 0, none⟩), .slice Ao5 y239.length co5] rfl ma_ ?_; (with_reducible refine (spec_l00Src_among.calls g s0_0 s0_1 s0_2 _ _ y239 t242 t243 t244 w0 _ ?side1 ?side2 ?side3 ?side4 ?side5 A2.out).mono ?_); (case side1 => repeat (first | (with_reducible first | exact HI0.out | apply IsS80.alloc | apply IsS80.drewN | apply IsS80.drew | apply IsS80.set_1 | apply IsS80.set_2) | exact HI0.out)); (case side2 => repeat (first | (with_reducible first | exact HB.out | apply below_alloc | apply pw_below_drewN | apply below_drew1 | refine below_set ?_ (IsS80.ge HI0.out)) | exact HB.out)); (case side3 => repeat (first | exact (Kd.R_reads' HO241.out).2.2 | (with_reducible refine Kd.C_alloc ?_ _) | (with_reducible refine Kd.C_drewN ?_ _) | (with_reducible refine Kd.C_drew ?_))); (case side4 => exact (Kd.R_reads' HO241.out).2.1); (case side5 => exact far_slice (IsS80.own_ne HI0.out HO241.out (by decide))); rintro e w6 ⟨rfl, hi, hb, hk⟩; refine ⟨_, rfl, ?_⟩; have n0_ := Aside0.mk (Kd.R_mono (Kd.R_keep (IsS80.apart (show IsS80 w0 _ g s0_0 s0_1 s0_2 from by repeat (first | (with_reducible first | exact HI0.out | apply IsS80.alloc | apply IsS80.drewN | apply IsS80.drew | apply IsS80.set_1 | apply IsS80.set_2) | exact HI0.out)) (kr_ HO241.out) (by decide)) hk (fun _ h => h.2)) (fun _ h => h.1)); have n1_ := Aside0.mk (KeepBut.trans (by repeat (first | (with_reducible first | exact HK.out | apply KeepBut.set_ | apply keep_drewN | apply keep_drew | apply keep_alloc) | exact HK.out)) hk (.inl rfl)); have n2_ := Aside0.mk (hb); have n3_ := Aside0.mk (hi); clear HO241; clear HK; clear HB; clear HI0; have HO241 := n0_; have HK := n1_; have HB := n2_; have HI0 := n3_; clear n0_ n1_ n2_ n3_; (try clear hb); (try clear hb2); (try clear hk); (try clear hi)))
 go_ret
 exact ⟨re_, by repeat (first | (with_reducible first | exact HI0.out | apply IsS80.alloc | apply IsS80.drewN | apply IsS80.drew | apply IsS80.set_1 | apply IsS80.set_2) | exact HI0.out), by repeat (first | (with_reducible first | exact HB.out | apply below_alloc | apply pw_below_drewN | apply below_drew1 | refine below_set ?_ (IsS80.ge HI0.out)) | exact HB.out), by repeat (first | (with_reducible first | exact HK.out | apply KeepBut.set_ | apply keep_drewN | apply keep_drew | apply keep_alloc) | exact HK.out)⟩
def spec_l00Src_one.f (s0_0 : List Int) (s0_1 : Int) (s0_2 : Int) (a1 : Int) : Option (Bool × Int × Int) := (spec_l00Src_pick.f s0_0 s0_1 s0_2 a1).bind fun bt245 => (some ((bt245.1 == 0), bt245.2.1, bt245.2.2))
set_option maxHeartbeats 8000000 in
set_option maxRecDepth 100000 in
theorem spec_l00Src_one.calls (g : Nat) (s0_0 : List Int) (s0_1 : Int) (s0_2 : Int) (a1 : Int) (r1 : Bool) (r2 : Int) (r3 : Int) (w0 w : World) (hI : IsS80 w0 w g s0_0 s0_1 s0_2) (hB : Below w0.heap.size w0 w) (h : spec_l00Src_one.f s0_0 s0_1 s0_2 a1 = some (r1, r2, r3)) :
  Calls Tryz.prog 52 #[.pointer (some ⟨g, 0, none⟩), .int .i64 a1] w fun e w' => e = .returned (.bool r1) ∧ IsS80 w0 w' g s0_0 r2 r3 ∧ Below w0.heap.size w0 w' ∧ KeepBut w w' g none := by
 have HI0 := Aside0.mk hI
 have HK := Aside0.mk (KeepBut.refl w g none)
 have HL := Aside0.mk hB.size
 clear hI
 have HW0 := Aside0.mk hB.size
 have HB := Aside0.mk hB
 clear hB
 have H : ((spec_l00Src_pick.f s0_0 s0_1 s0_2 a1).bind fun bt245 => (some ((bt245.1 == 0), bt245.2.1, bt245.2.2))) = some (r1, r2, r3) := h
 clear h
 replace H := Option.bind_eq_some_iff.mp H
 obtain ⟨⟨t245, t246, t247⟩, A30, H⟩ := H
 replace H : (some ((t245 == 0), t246, t247)) = some (r1, r2, r3) := H
 have A3 := Aside0.mk A30
 clear A30
 simp only [Option.some.injEq, Prod.mk.injEq] at H
 obtain ⟨rfl, rfl, rfl⟩ := H
 go_enter Tryz.func52, Tryz.ntmps52
 go_wp2_with (first | ((with_reducible refine gate_callee (f := 50) rfl ?_); refine goesL_ (some 7) rfl rfl Tryz.func50 (by kernel_rfl) rfl #[.pointer (some ⟨g, 0, none⟩), .int .i64 a1] rfl ma_ ?_; (with_reducible refine (spec_l00Src_pick.calls g s0_0 s0_1 s0_2 a1 t245 t246 t247 w0 _ ?side1 ?side2 A3.out).mono ?_); (case side1 => repeat (first | (with_reducible first | exact HI0.out | apply IsS80.alloc | apply IsS80.drewN | apply IsS80.drew | apply IsS80.set_1 | apply IsS80.set_2) | exact HI0.out)); (case side2 => repeat (first | (with_reducible first | exact HB.out | apply below_alloc | apply pw_below_drewN | apply below_drew1 | refine below_set ?_ (IsS80.ge HI0.out)) | exact HB.out)); rintro e w4 ⟨rfl, hi, hb, hk⟩; refine ⟨_, rfl, ?_⟩; have n0_ := Aside0.mk (KeepBut.trans (by repeat (first | (with_reducible first | exact HK.out | apply KeepBut.set_ | apply keep_drewN | apply keep_drew | apply keep_alloc) | exact HK.out)) hk (.inl rfl)); have n1_ := Aside0.mk (hb); have n2_ := Aside0.mk (hi); clear HK; clear HB; clear HI0; have HK := n0_; have HB := n1_; have HI0 := n2_; clear n0_ n1_ n2_; (try clear hb); (try clear hb2); (try clear hk); (try clear hi)))
 go_ret
 exact ⟨re_, by repeat (first | (with_reducible first | exact HI0.out | apply IsS80.alloc | apply IsS80.drewN | apply IsS80.drew | apply IsS80.set_1 | apply IsS80.set_2) | exact HI0.out), by repeat (first | (with_reducible first | exact HB.out | apply below_alloc | apply pw_below_drewN | apply below_drew1 | refine below_set ?_ (IsS80.ge HI0.out)) | exact HB.out), by repeat (first | (with_reducible first | exact HK.out | apply KeepBut.set_ | apply keep_drewN | apply keep_drew | apply keep_alloc) | exact HK.out)⟩
def spec_l03DrawPitch.f (s0_0 : List Int) (s0_1 : Int) (s0_2 : Int) : Option (Int × Int × Int) := (spec_l00Src_pick.f s0_0 s0_1 s0_2 36).bind fun bt248 => ((spec_l00Src_one.f s0_0 bt248.2.1 bt248.2.2 12).bind fun bt251 => (if bt251.1 = true then ((spec_l00Src_among.f s0_0 bt251.2.1 bt251.2.2 (([(-13), (-12), 23, 24] : List Int))).bind fun bt257 => (some (bt257.1, bt257.2.1, bt257.2.2))) else (some (wrap64 (bt248.1 - 12), bt251.2.1, bt251.2.2))))
set_option maxHeartbeats 8000000 in
set_option maxRecDepth 100000 in
theorem spec_l03DrawPitch.calls (g : Nat) (s0_0 : List Int) (s0_1 : Int) (s0_2 : Int) (r1 : Int) (r2 : Int) (r3 : Int) (w0 w : World) (hI : IsS80 w0 w g s0_0 s0_1 s0_2) (hB : Below w0.heap.size w0 w) (h : spec_l03DrawPitch.f s0_0 s0_1 s0_2 = some (r1, r2, r3)) :
  Calls Tryz.prog 29 #[.pointer (some ⟨g, 0, none⟩)] w fun e w' => e = .returned (.int .i64 r1) ∧ IsS80 w0 w' g s0_0 r2 r3 ∧ Below w0.heap.size w0 w' ∧ KeepBut w w' g none := by
 have HI0 := Aside0.mk hI
 have HK := Aside0.mk (KeepBut.refl w g none)
 have HL := Aside0.mk hB.size
 clear hI
 have HW0 := Aside0.mk hB.size
 have HB := Aside0.mk hB
 clear hB
 have H : ((spec_l00Src_pick.f s0_0 s0_1 s0_2 36).bind fun bt248 => ((spec_l00Src_one.f s0_0 bt248.2.1 bt248.2.2 12).bind fun bt251 => (if bt251.1 = true then ((spec_l00Src_among.f s0_0 bt251.2.1 bt251.2.2 (([(-13), (-12), 23, 24] : List Int))).bind fun bt257 => (some (bt257.1, bt257.2.1, bt257.2.2))) else (some (wrap64 (bt248.1 - 12), bt251.2.1, bt251.2.2))))) = some (r1, r2, r3) := h
 clear h
 replace H := Option.bind_eq_some_iff.mp H
 obtain ⟨⟨t248, t249, t250⟩, A20, H⟩ := H
 replace H : ((spec_l00Src_one.f s0_0 t249 t250 12).bind fun bt251 => (if bt251.1 = true then ((spec_l00Src_among.f s0_0 bt251.2.1 bt251.2.2 (([(-13), (-12), 23, 24] : List Int))).bind fun bt257 => (some (bt257.1, bt257.2.1, bt257.2.2))) else (some (wrap64 (t248 - 12), bt251.2.1, bt251.2.2)))) = some (r1, r2, r3) := H
 have A2 := Aside0.mk A20
 clear A20
 replace H := Option.bind_eq_some_iff.mp H
 obtain ⟨⟨t251, t252, t253⟩, A30, H⟩ := H
 replace H : (if t251 = true then ((spec_l00Src_among.f s0_0 t252 t253 (([(-13), (-12), 23, 24] : List Int))).bind fun bt257 => (some (bt257.1, bt257.2.1, bt257.2.2))) else (some (wrap64 (t248 - 12), t252, t253))) = some (r1, r2, r3) := H
 have A3 := Aside0.mk A30
 clear A30
 by_cases c4 : t251 = true
 ·subst c4
  have H1 : ((spec_l00Src_among.f s0_0 t252 t253 (([(-13), (-12), 23, 24] : List Int))).bind fun bt257 => (some (bt257.1, bt257.2.1, bt257.2.2))) = some (r1, r2, r3) := by rw [if_pos rfl] at H; exact H
  clear H
  have H := H1
  clear H1
  obtain ⟨y254, hy254⟩ : ∃ y_ : List Int, y_ = (([(-13), (-12), 23, 24] : List Int)) := ⟨_, rfl⟩
  replace H : ((spec_l00Src_among.f s0_0 t252 t253 y254).bind fun bt257 => (some (bt257.1, bt257.2.1, bt257.2.2))) = some (r1, r2, r3) := by first | (rw [hy254]; with_reducible exact H) | (have H2_ := (Option.bind_some _ _).symm.trans H; rw [hy254]; with_reducible exact H2_) | (have H2_ := (Option.bind_some _ _).symm.trans H; with_reducible exact H2_) | with_reducible exact H | (rw [hy254]; exact H) | exact H
  have Ny254 := Aside0.mk hy254
  clear hy254
  replace H := Option.bind_eq_some_iff.mp H
  obtain ⟨⟨t257, t258, t259⟩, A50, H⟩ := H
  replace H : (some (t257, t258, t259)) = some (r1, r2, r3) := H
  have A5 := Aside0.mk A50
  clear A50
  simp only [Option.some.injEq, Prod.mk.injEq] at H
  obtain ⟨rfl, rfl, rfl⟩ := H
  go_enter Tryz.func29, Tryz.ntmps29
  go_wp2_with (first | ((with_reducible refine gate_callee (f := 50) rfl ?_); refine goesL_ (some 5) rfl rfl Tryz.func50 (by kernel_rfl) rfl #[.pointer (some ⟨g, 0, none⟩), .int .i64 36] rfl ma_ ?_; (with_reducible refine (spec_l00Src_pick.calls g s0_0 s0_1 s0_2 36 t248 t249 t250 w0 _ ?side1 ?side2 A2.out).mono ?_); (case side1 => repeat (first | (with_reducible first | exact HI0.out | apply IsS80.alloc | apply IsS80.drewN | apply IsS80.drew | apply IsS80.set_1 | apply IsS80.set_2) | exact HI0.out)); (case side2 => repeat (first | (with_reducible first | exact HB.out | apply below_alloc | apply pw_below_drewN | apply below_drew1 | refine below_set ?_ (IsS80.ge HI0.out)) | exact HB.out)); rintro e w6 ⟨rfl, hi, hb, hk⟩; refine ⟨_, rfl, ?_⟩; have n0_ := Aside0.mk (KeepBut.trans (by repeat (first | (with_reducible first | exact HK.out | apply KeepBut.set_ | apply keep_drewN | apply keep_drew | apply keep_alloc) | exact HK.out)) hk (.inl rfl)); have n1_ := Aside0.mk (hb); have n2_ := Aside0.mk (hi); clear HK; clear HB; clear HI0; have HK := n0_; have HB := n1_; have HI0 := n2_; clear n0_ n1_ n2_; (try clear hb); (try clear hb2); (try clear hk); (try clear hi)) | ((with_reducible refine gate_callee (f := 52) rfl ?_); refine goesL_ (some 8) rfl rfl Tryz.func52 (by kernel_rfl) rfl #[.pointer (some ⟨g, 0, none⟩), .int .i64 12] rfl ma_ ?_; (with_reducible refine (spec_l00Src_one.calls g s0_0 t249 t250 12 true t252 t253 w0 _ ?side1 ?side2 A3.out).mono ?_); (case side1 => repeat (first | (with_reducible first | exact HI0.out | apply IsS80.alloc | apply IsS80.drewN | apply IsS80.drew | apply IsS80.set_1 | apply IsS80.set_2) | exact HI0.out)); (case side2 => repeat (first | (with_reducible first | exact HB.out | apply below_alloc | apply pw_below_drewN | apply below_drew1 | refine below_set ?_ (IsS80.ge HI0.out)) | exact HB.out)); rintro e w7 ⟨rfl, hi, hb, hk⟩; refine ⟨_, rfl, ?_⟩; have n0_ := Aside0.mk (KeepBut.trans (by repeat (first | (with_reducible first | exact HK.out | apply KeepBut.set_ | apply keep_drewN | apply keep_drew | apply keep_alloc) | exact HK.out)) hk (.inl rfl)); have n1_ := Aside0.mk (hb); have n2_ := Aside0.mk (hi); clear HK; clear HB; clear HI0; have HK := n0_; have HB := n1_; have HI0 := n2_; clear n0_ n1_ n2_; (try clear hb); (try clear hb2); (try clear hk); (try clear hi)) | ((with_reducible refine gate_dst (N := 10) rfl ?_); refine Kd.R_lit (Kd.int .i64) _ 2 ?hg (N := 10) ?hd (xs := ([(-13), (-12), 23, 24] : List Int)) (inner := [.int .i64 (-13), .int .i64 (-12), .int .i64 23, .int .i64 24]) (ok := fun _ => True) (okp := fun _ => True) ?hr ?hp (fun _ hk => hk) trivial (Below.refl _ _) (Nat.le_refl _) (by simp) ?_; (case hd => rfl); (case hg => rfl); (case hr => first | (go_simp; done) | (go_simp; rfl)); (case hp => exact (Reps.one (show Kd.M (Kd.int .i64) _ _ _ (-13) [.int .i64 (-13)] from rfl) (Reps.one (show Kd.M (Kd.int .i64) _ _ _ (-12) [.int .i64 (-12)] from rfl) (Reps.one (show Kd.M (Kd.int .i64) _ _ _ 23 [.int .i64 23] from rfl) (Reps.one (show Kd.M (Kd.int .i64) _ _ _ 24 [.int .i64 24] from rfl) (Reps.none _ _)))))); intro v255 w8 ho9 hb hg_ hnew_; clear hg_ hnew_; (first | rw [← Ny254.out] at ho9 | (simp only [Int.reduceToNat] at ho9; rw [← Ny254.out] at ho9)); have n0_ := Aside0.mk (Kd.R_lower ho9 (keep_size (w := w) (g := g) (row := none) (by repeat (first | (with_reducible first | exact HK.out | apply KeepBut.set_ | apply keep_drewN | apply keep_drew | apply keep_alloc) | exact HK.out)))); have n1_ := Aside0.mk (IsS80.below (by repeat (first | (with_reducible first | exact HI0.out | apply IsS80.alloc | apply IsS80.drewN | apply IsS80.drew | apply IsS80.set_1 | apply IsS80.set_2) | exact HI0.out)) hb); have n2_ := Aside0.mk (KeepBut.trans (by repeat (first | (with_reducible first | exact HK.out | apply KeepBut.set_ | apply keep_drewN | apply keep_drew | apply keep_alloc) | exact HK.out)) (KeepBut.of_below hb g none) (.inl rfl)); have n3_ := Aside0.mk (below_step (by repeat (first | (with_reducible first | exact HB.out | apply below_alloc | apply pw_below_drewN | apply below_drew1 | refine below_set ?_ (IsS80.ge HI0.out)) | exact HB.out)) hb); clear HI0; clear HK; clear HB; have HO256 := n0_; have HI0 := n1_; have HK := n2_; have HB := n3_; clear n0_ n1_ n2_ n3_; clear hb ho9; obtain ⟨Ao10, co10, eo10⟩ := Kd.R_slice HO256.out; subst eo10) | ((with_reducible refine gate_callee (f := 54) rfl ?_); refine goesL_ (some 11) rfl rfl Tryz.func54 (by kernel_rfl) rfl #[.pointer (some ⟨g, 0, none⟩), .slice Ao10 y254.length co10] rfl ma_ ?_; (with_reducible refine (spec_l00Src_among.calls g s0_0 t252 t253 _ _ y254 t257 t258 t259 w0 _ ?side1 ?side2 ?side3 ?side4 ?side5 A5.out).mono ?_); (case side1 => repeat (first | (with_reducible first | exact HI0.out | apply IsS80.alloc | apply IsS80.drewN | apply IsS80.drew | apply IsS80.set_1 | apply IsS80.set_2) | exact HI0.out)); (case side2 => repeat (first | (with_reducible first | exact HB.out | apply below_alloc | apply pw_below_drewN | apply below_drew1 | refine below_set ?_ (IsS80.ge HI0.out)) | exact HB.out)); (case side3 => repeat (first | exact (Kd.R_reads' HO256.out).2.2 | (with_reducible refine Kd.C_alloc ?_ _) | (with_reducible refine Kd.C_drewN ?_ _) | (with_reducible refine Kd.C_drew ?_))); (case side4 => exact (Kd.R_reads' HO256.out).2.1); (case side5 => exact far_slice (IsS80.own_ne HI0.out HO256.out (by decide))); rintro e w11 ⟨rfl, hi, hb, hk⟩; refine ⟨_, rfl, ?_⟩; have n0_ := Aside0.mk (Kd.R_mono (Kd.R_keep (IsS80.apart (show IsS80 w0 _ g s0_0 t252 t253 from by repeat (first | (with_reducible first | exact HI0.out | apply IsS80.alloc | apply IsS80.drewN | apply IsS80.drew | apply IsS80.set_1 | apply IsS80.set_2) | exact HI0.out)) (kr_ HO256.out) (by decide)) hk (fun _ h => h.2)) (fun _ h => h.1)); have n1_ := Aside0.mk (KeepBut.trans (by repeat (first | (with_reducible first | exact HK.out | apply KeepBut.set_ | apply keep_drewN | apply keep_drew | apply keep_alloc) | exact HK.out)) hk (.inl rfl)); have n2_ := Aside0.mk (hb); have n3_ := Aside0.mk (hi); clear HO256; clear HK; clear HB; clear HI0; have HO256 := n0_; have HK := n1_; have HB := n2_; have HI0 := n3_; clear n0_ n1_ n2_ n3_; (try clear hb); (try clear hb2); (try clear hk); (try clear hi)))
  go_ret
  exact ⟨re_, by repeat (first | (with_reducible first | exact HI0.out | apply IsS80.alloc | apply IsS80.drewN | apply IsS80.drew | apply IsS80.set_1 | apply IsS80.set_2) | exact HI0.out), by repeat (first | (with_reducible first | exact HB.out | apply below_alloc | apply pw_below_drewN | apply below_drew1 | refine below_set ?_ (IsS80.ge HI0.out)) | exact HB.out), by repeat (first | (with_reducible first | exact HK.out | apply KeepBut.set_ | apply keep_drewN | apply keep_drew | apply keep_alloc) | exact HK.out)⟩
 ·replace c4 := Bool.eq_false_iff.mpr c4
  subst c4
  have H1 : (some (wrap64 (t248 - 12), t252, t253)) = some (r1, r2, r3) := by rw [if_neg (show ¬ (false = true) by decide)] at H; exact H
  clear H
  have H := H1
  clear H1
  simp only [Option.some.injEq, Prod.mk.injEq] at H
  obtain ⟨rfl, rfl, rfl⟩ := H
  go_enter Tryz.func29, Tryz.ntmps29
  go_wp2_with (first | ((with_reducible refine gate_callee (f := 50) rfl ?_); refine goesL_ (some 5) rfl rfl Tryz.func50 (by kernel_rfl) rfl #[.pointer (some ⟨g, 0, none⟩), .int .i64 36] rfl ma_ ?_; (with_reducible refine (spec_l00Src_pick.calls g s0_0 s0_1 s0_2 36 t248 t249 t250 w0 _ ?side1 ?side2 A2.out).mono ?_); (case side1 => repeat (first | (with_reducible first | exact HI0.out | apply IsS80.alloc | apply IsS80.drewN | apply IsS80.drew | apply IsS80.set_1 | apply IsS80.set_2) | exact HI0.out)); (case side2 => repeat (first | (with_reducible first | exact HB.out | apply below_alloc | apply pw_below_drewN | apply below_drew1 | refine below_set ?_ (IsS80.ge HI0.out)) | exact HB.out)); rintro e w12 ⟨rfl, hi, hb, hk⟩; refine ⟨_, rfl, ?_⟩; have n0_ := Aside0.mk (KeepBut.trans (by repeat (first | (with_reducible first | exact HK.out | apply KeepBut.set_ | apply keep_drewN | apply keep_drew | apply keep_alloc) | exact HK.out)) hk (.inl rfl)); have n1_ := Aside0.mk (hb); have n2_ := Aside0.mk (hi); clear HK; clear HB; clear HI0; have HK := n0_; have HB := n1_; have HI0 := n2_; clear n0_ n1_ n2_; (try clear hb); (try clear hb2); (try clear hk); (try clear hi)) | ((with_reducible refine gate_callee (f := 52) rfl ?_); refine goesL_ (some 8) rfl rfl Tryz.func52 (by kernel_rfl) rfl #[.pointer (some ⟨g, 0, none⟩), .int .i64 12] rfl ma_ ?_; (with_reducible refine (spec_l00Src_one.calls g s0_0 t249 t250 12 false t252 t253 w0 _ ?side1 ?side2 A3.out).mono ?_); (case side1 => repeat (first | (with_reducible first | exact HI0.out | apply IsS80.alloc | apply IsS80.drewN | apply IsS80.drew | apply IsS80.set_1 | apply IsS80.set_2) | exact HI0.out)); (case side2 => repeat (first | (with_reducible first | exact HB.out | apply below_alloc | apply pw_below_drewN | apply below_drew1 | refine below_set ?_ (IsS80.ge HI0.out)) | exact HB.out)); rintro e w13 ⟨rfl, hi, hb, hk⟩; refine ⟨_, rfl, ?_⟩; have n0_ := Aside0.mk (KeepBut.trans (by repeat (first | (with_reducible first | exact HK.out | apply KeepBut.set_ | apply keep_drewN | apply keep_drew | apply keep_alloc) | exact HK.out)) hk (.inl rfl)); have n1_ := Aside0.mk (hb); have n2_ := Aside0.mk (hi); clear HK; clear HB; clear HI0; have HK := n0_; have HB := n1_; have HI0 := n2_; clear n0_ n1_ n2_; (try clear hb); (try clear hb2); (try clear hk); (try clear hi)))
  go_ret
  exact ⟨re_, by repeat (first | (with_reducible first | exact HI0.out | apply IsS80.alloc | apply IsS80.drewN | apply IsS80.drew | apply IsS80.set_1 | apply IsS80.set_2) | exact HI0.out), by repeat (first | (with_reducible first | exact HB.out | apply below_alloc | apply pw_below_drewN | apply below_drew1 | refine below_set ?_ (IsS80.ge HI0.out)) | exact HB.out), by repeat (first | (with_reducible first | exact HK.out | apply KeepBut.set_ | apply keep_drewN | apply keep_drew | apply keep_alloc) | exact HK.out)⟩
def spec_DrawPitchIn.f (l0 : List Int) : Option (Int × Int × Int) := (spec_l00From.f l0).bind fun bt260 => ((spec_l26DrawScript.f bt260.1 bt260.2.1 bt260.2.2).bind fun bt264 => ((spec_l26DrawKey.f bt260.1 bt264.2.1 bt264.2.2).bind fun bt267 => ((spec_l03DrawPitch.f bt260.1 bt267.2.1 bt267.2.2).bind fun bt270 => (some (bt264.1, bt267.1, bt270.1)))))
set_option maxHeartbeats 8000000 in
set_option maxRecDepth 100000 in
theorem spec_DrawPitchIn.calls (A0 : Option Addr) (c0 : Nat) (l0 : List Int) (r1 : Int) (r2 : Int) (r3 : Int) (w : World) (hr0 : Kd.C (Kd.int .u8) w A0 l0.length l0) (hc0 : l0.length ≤ c0) (h : spec_DrawPitchIn.f l0 = some (r1, r2, r3)) :
  Calls Tryz.prog 7 #[.slice A0 l0.length c0] w fun e w' => e = .returned (.tuple #[.int .i64 r1, .int .i64 r2, .int .i64 r3]) ∧ Below w.heap.size w w' := by
 have HR0 := Aside0.mk hr0
 have HC0 := Aside0.mk hc0
 clear hr0 hc0
 have HB := Aside0.mk (Below.refl w.heap.size w)
 have H : ((spec_l00From.f l0).bind fun bt260 => ((spec_l26DrawScript.f bt260.1 bt260.2.1 bt260.2.2).bind fun bt264 => ((spec_l26DrawKey.f bt260.1 bt264.2.1 bt264.2.2).bind fun bt267 => ((spec_l03DrawPitch.f bt260.1 bt267.2.1 bt267.2.2).bind fun bt270 => (some (bt264.1, bt267.1, bt270.1)))))) = some (r1, r2, r3) := h
 clear h
 replace H := Option.bind_eq_some_iff.mp H
 obtain ⟨⟨t260, t261, t262⟩, A20, H⟩ := H
 replace H : ((spec_l26DrawScript.f t260 t261 t262).bind fun bt264 => ((spec_l26DrawKey.f t260 bt264.2.1 bt264.2.2).bind fun bt267 => ((spec_l03DrawPitch.f t260 bt267.2.1 bt267.2.2).bind fun bt270 => (some (bt264.1, bt267.1, bt270.1))))) = some (r1, r2, r3) := H
 have A2 := Aside0.mk A20
 clear A20
 replace H := Option.bind_eq_some_iff.mp H
 obtain ⟨⟨t264, t265, t266⟩, A30, H⟩ := H
 replace H : ((spec_l26DrawKey.f t260 t265 t266).bind fun bt267 => ((spec_l03DrawPitch.f t260 bt267.2.1 bt267.2.2).bind fun bt270 => (some (t264, bt267.1, bt270.1)))) = some (r1, r2, r3) := H
 have A3 := Aside0.mk A30
 clear A30
 replace H := Option.bind_eq_some_iff.mp H
 obtain ⟨⟨t267, t268, t269⟩, A40, H⟩ := H
 replace H : ((spec_l03DrawPitch.f t260 t268 t269).bind fun bt270 => (some (t264, t267, bt270.1))) = some (r1, r2, r3) := H
 have A4 := Aside0.mk A40
 clear A40
 replace H := Option.bind_eq_some_iff.mp H
 obtain ⟨⟨t270, t271, t272⟩, A50, H⟩ := H
 replace H : (some (t264, t267, t270)) = some (r1, r2, r3) := H
 have A5 := Aside0.mk A50
 clear A50
 simp only [Option.some.injEq, Prod.mk.injEq] at H
 obtain ⟨rfl, rfl, rfl⟩ := H
 go_enter Tryz.func7, Tryz.ntmps7
 go_wp2_with (first | ((with_reducible refine gate_callee (f := 26) rfl ?_); refine goesL_ (some 9) rfl rfl Tryz.func26 (by kernel_rfl) rfl #[.slice A0 l0.length c0] rfl ma_ ?_; (with_reducible refine (spec_l00From.calls _ _ l0 t260 t261 t262 w _ ?side1 ?side2 ?side3 A2.out).mono ?_); (case side1 => repeat (first | (with_reducible first | exact HB.out | apply below_alloc | apply pw_below_drewN | apply below_drew1) | exact HB.out)); (case side2 => exact HR0.out); (case side3 => exact HC0.out); rintro e w6 ⟨g263, rfl, hi, hb, hb2⟩; refine ⟨_, rfl, ?_⟩; have n0_ := Aside0.mk (hb); have n1_ := Aside0.mk (hi); clear HB; have HB := n0_; have HI263 := n1_; clear n0_ n1_; (try clear hb); (try clear hb2); (try clear hk); (try clear hi)) | ((with_reducible refine gate_callee (f := 27) rfl ?_); refine goesL_ (some 11) rfl rfl Tryz.func27 (by kernel_rfl) rfl #[.pointer (some ⟨g263, 0, none⟩)] rfl ma_ ?_; (with_reducible refine (spec_l26DrawScript.calls g263 t260 t261 t262 t264 t265 t266 w _ ?side1 ?side2 A3.out).mono ?_); (case side1 => repeat (first | (with_reducible first | exact HI263.out | apply IsS80.alloc | apply IsS80.drewN | apply IsS80.drew | apply IsS80.set_1 | apply IsS80.set_2) | exact HI263.out)); (case side2 => repeat (first | (with_reducible first | exact HB.out | apply below_alloc | apply pw_below_drewN | apply below_drew1 | refine below_set ?_ (IsS80.ge HI263.out)) | exact HB.out)); rintro e w7 ⟨rfl, hi, hb, hk⟩; refine ⟨_, rfl, ?_⟩; have n0_ := Aside0.mk (hb); have n1_ := Aside0.mk (hi); clear HB; clear HI263; have HB := n0_; have HI263 := n1_; clear n0_ n1_; (try clear hb); (try clear hb2); (try clear hk); (try clear hi)) | ((with_reducible refine gate_callee (f := 28) rfl ?_); refine goesL_ (some 13) rfl rfl Tryz.func28 (by kernel_rfl) rfl #[.pointer (some ⟨g263, 0, none⟩)] rfl ma_ ?_; (with_reducible refine (spec_l26DrawKey.calls g263 t260 t265 t266 t267 t268 t269 w _ ?side1 ?side2 A4.out).mono ?_); (case side1 => repeat (first | (with_reducible first | exact HI263.out | apply IsS80.alloc | apply IsS80.drewN | apply IsS80.drew | apply IsS80.set_1 | apply IsS80.set_2) | exact HI263.out)); (case side2 => repeat (first | (with_reducible first | exact HB.out | apply below_alloc | apply pw_below_drewN | apply below_drew1 | refine below_set ?_ (IsS80.ge HI263.out)) | exact HB.out)); rintro e w8 ⟨rfl, hi, hb, hk⟩; refine ⟨_, rfl, ?_⟩; have n0_ := Aside0.mk (hb); have n1_ := Aside0.mk (hi); clear HB; clear HI263; have HB := n0_; have HI263 := n1_; clear n0_ n1_; (try clear hb); (try clear hb2); (try clear hk); (try clear hi)) | ((with_reducible refine gate_callee (f := 29) rfl ?_); refine goesL_ (some 17) rfl rfl Tryz.func29 (by kernel_rfl) rfl #[.pointer (some ⟨g263, 0, none⟩)] rfl ma_ ?_; (with_reducible refine (spec_l03DrawPitch.calls g263 t260 t268 t269 t270 t271 t272 w _ ?side1 ?side2 A5.out).mono ?_); (case side1 => repeat (first | (with_reducible first | exact HI263.out | apply IsS80.alloc | apply IsS80.drewN | apply IsS80.drew | apply IsS80.set_1 | apply IsS80.set_2) | exact HI263.out)); (case side2 => repeat (first | (with_reducible first | exact HB.out | apply below_alloc | apply pw_below_drewN | apply below_drew1 | refine below_set ?_ (IsS80.ge HI263.out)) | exact HB.out)); rintro e w9 ⟨rfl, hi, hb, hk⟩; refine ⟨_, rfl, ?_⟩; have n0_ := Aside0.mk (hb); have n1_ := Aside0.mk (hi); clear HB; clear HI263; have HB := n0_; have HI263 := n1_; clear n0_ n1_; (try clear hb); (try clear hb2); (try clear hk); (try clear hi)))
 go_ret3
 exact ⟨re_, by repeat (first | (with_reducible first | exact HB.out | apply below_alloc | apply pw_below_drewN | apply below_drew1 | refine below_set ?_ (IsS80.ge HI263.out)) | exact HB.out)⟩
def impl_PitchIn.f (a0 : Int) (a1 : Int) (a2 : Int) : Option (ByteArray × Int) := (impl_keyOk.f a0 a1).bind fun t273 => (if t273 = true then ((impl_pitchOk.f a2).bind fun t274 => (if t274 = true then ((impl_pitchIn.f a0 a1 a2).bind fun t275 => (some (t275, 0))) else (some ((⟨#[]⟩ : ByteArray), 2)))) else (some ((⟨#[]⟩ : ByteArray), 2)))
set_option maxHeartbeats 8000000 in
set_option maxRecDepth 100000 in
theorem impl_PitchIn.calls (a0 : Int) (a1 : Int) (a2 : Int) (r1 : ByteArray) (r2 : Int) (w : World) (hL : Lv w) (h : impl_PitchIn.f a0 a1 a2 = some (r1, r2)) :
  Calls Tryz.prog 8 #[.int .i64 a0, .int .i64 a1, .int .i64 a2] w fun e w' => e = .returned (.tuple #[.string r1, .int .i64 r2]) ∧ Below w.heap.size w w' := by
 have HB := Aside0.mk (Below.refl w.heap.size w)
 have H : ((impl_keyOk.f a0 a1).bind fun t273 => (if t273 = true then ((impl_pitchOk.f a2).bind fun t274 => (if t274 = true then ((impl_pitchIn.f a0 a1 a2).bind fun t275 => (some (t275, 0))) else (some ((⟨#[]⟩ : ByteArray), 2)))) else (some ((⟨#[]⟩ : ByteArray), 2)))) = some (r1, r2) := h
 clear h
 replace H := Option.bind_eq_some_iff.mp H
 obtain ⟨t273, A40, H⟩ := H
 replace H : (if t273 = true then ((impl_pitchOk.f a2).bind fun t274 => (if t274 = true then ((impl_pitchIn.f a0 a1 a2).bind fun t275 => (some (t275, 0))) else (some ((⟨#[]⟩ : ByteArray), 2)))) else (some ((⟨#[]⟩ : ByteArray), 2))) = some (r1, r2) := H
 have A4 := Aside0.mk A40
 clear A40
 by_cases c5 : t273 = true
 ·subst c5
  have H1 : ((impl_pitchOk.f a2).bind fun t274 => (if t274 = true then ((impl_pitchIn.f a0 a1 a2).bind fun t275 => (some (t275, 0))) else (some ((⟨#[]⟩ : ByteArray), 2)))) = some (r1, r2) := by rw [if_pos rfl] at H; exact H
  clear H
  have H := H1
  clear H1
  replace H := Option.bind_eq_some_iff.mp H
  obtain ⟨t274, A60, H⟩ := H
  replace H : (if t274 = true then ((impl_pitchIn.f a0 a1 a2).bind fun t275 => (some (t275, 0))) else (some ((⟨#[]⟩ : ByteArray), 2))) = some (r1, r2) := H
  have A6 := Aside0.mk A60
  clear A60
  by_cases c7 : t274 = true
  ·subst c7
   have H1 : ((impl_pitchIn.f a0 a1 a2).bind fun t275 => (some (t275, 0))) = some (r1, r2) := by rw [if_pos rfl] at H; exact H
   clear H
   have H := H1
   clear H1
   replace H := Option.bind_eq_some_iff.mp H
   obtain ⟨t275, A80, H⟩ := H
   replace H : (some (t275, 0)) = some (r1, r2) := H
   have A8 := Aside0.mk A80
   clear A80
   simp only [Option.some.injEq, Prod.mk.injEq] at H
   obtain ⟨rfl, rfl⟩ := H
   go_enter Tryz.func8, Tryz.ntmps8
   go_wp2_with (first | ((with_reducible refine gate_callee (f := 30) rfl ?_); refine goesL_ (some 10) rfl rfl Tryz.func30 (by kernel_rfl) rfl #[.int .i64 a0, .int .i64 a1] rfl ma_ ?_; (with_reducible refine (impl_keyOk.calls a0 a1 true _ A4.out).mono ?_); rintro e w' ⟨rfl, ⟨nd, rfl⟩⟩; refine ⟨_, rfl, ?_⟩) | (go_at_call 31; (with_reducible refine (impl_pitchOk.calls a2 true _ A6.out).mono ?_); rintro e w' ⟨rfl, ⟨nd, rfl⟩⟩) | ((with_reducible refine gate_callee (f := 32) rfl ?_); refine goesL_ (some 20) rfl rfl Tryz.func32 (by kernel_rfl) rfl #[.int .i64 a0, .int .i64 a1, .int .i64 a2] rfl ma_ ?_; (with_reducible refine (impl_pitchIn.calls a0 a1 a2 t275 _ ?side1 A8.out).mono ?_); (case side1 => exact Lv.below hL bw_); rintro e w9 ⟨rfl, hb⟩; refine ⟨_, rfl, ?_⟩; have n0_ := Aside0.mk (below_step bw_ hb); clear HB; have HB := n0_; clear n0_; (try clear hb); (try clear hb2); (try clear hk); (try clear hi)))
   go_ret2
   exact ⟨re_, bw_⟩
  ·replace c7 := Bool.eq_false_iff.mpr c7
   subst c7
   have H1 : (some ((⟨#[]⟩ : ByteArray), 2)) = some (r1, r2) := by rw [if_neg (show ¬ (false = true) by decide)] at H; exact H
   clear H
   have H := H1
   clear H1
   simp only [Option.some.injEq, Prod.mk.injEq] at H
   obtain ⟨rfl, rfl⟩ := H
   go_enter Tryz.func8, Tryz.ntmps8
   go_wp2_with (first | ((with_reducible refine gate_callee (f := 30) rfl ?_); refine goesL_ (some 10) rfl rfl Tryz.func30 (by kernel_rfl) rfl #[.int .i64 a0, .int .i64 a1] rfl ma_ ?_; (with_reducible refine (impl_keyOk.calls a0 a1 true _ A4.out).mono ?_); rintro e w' ⟨rfl, ⟨nd, rfl⟩⟩; refine ⟨_, rfl, ?_⟩) | (go_at_call 31; (with_reducible refine (impl_pitchOk.calls a2 false _ A6.out).mono ?_); rintro e w' ⟨rfl, ⟨nd, rfl⟩⟩))
   go_ret2
   exact ⟨re_, bw_⟩
 ·replace c5 := Bool.eq_false_iff.mpr c5
  subst c5
  have H1 : (some ((⟨#[]⟩ : ByteArray), 2)) = some (r1, r2) := by rw [if_neg (show ¬ (false = true) by decide)] at H; exact H
  clear H
  have H := H1
  clear H1
  simp only [Option.some.injEq, Prod.mk.injEq] at H
  obtain ⟨rfl, rfl⟩ := H
  go_enter Tryz.func8, Tryz.ntmps8
  go_wp2_with (first | ((with_reducible refine gate_callee (f := 30) rfl ?_); refine goesL_ (some 10) rfl rfl Tryz.func30 (by kernel_rfl) rfl #[.int .i64 a0, .int .i64 a1] rfl ma_ ?_; (with_reducible refine (impl_keyOk.calls a0 a1 false _ A4.out).mono ?_); rintro e w' ⟨rfl, ⟨nd, rfl⟩⟩; refine ⟨_, rfl, ?_⟩))
  go_ret2
  exact ⟨re_, bw_⟩
def impl_ReadPitchIn.f (a0 : Int) (a1 : Int) (a2 : ByteArray) : Option (Int × Int) := (impl_keyOk.f a0 a1).bind fun t276 => (if t276 = true then ((impl_readPitchIn.f a0 a1 a2).bind fun bt277 => (if bt277.2 = true then (some (bt277.1, 0)) else (some (0, 8)))) else (some (0, 2)))
set_option maxHeartbeats 8000000 in
set_option maxRecDepth 100000 in
theorem impl_ReadPitchIn.calls (a0 : Int) (a1 : Int) (a2 : ByteArray) (r1 : Int) (r2 : Int) (w : World) (hL : Lv w) (h : impl_ReadPitchIn.f a0 a1 a2 = some (r1, r2)) :
  Calls Tryz.prog 9 #[.int .i64 a0, .int .i64 a1, .string a2] w fun e w' => e = .returned (.tuple #[.int .i64 r1, .int .i64 r2]) ∧ Below w.heap.size w w' := by
 have HB := Aside0.mk (Below.refl w.heap.size w)
 have H : ((impl_keyOk.f a0 a1).bind fun t276 => (if t276 = true then ((impl_readPitchIn.f a0 a1 a2).bind fun bt277 => (if bt277.2 = true then (some (bt277.1, 0)) else (some (0, 8)))) else (some (0, 2)))) = some (r1, r2) := h
 clear h
 replace H := Option.bind_eq_some_iff.mp H
 obtain ⟨t276, A40, H⟩ := H
 replace H : (if t276 = true then ((impl_readPitchIn.f a0 a1 a2).bind fun bt277 => (if bt277.2 = true then (some (bt277.1, 0)) else (some (0, 8)))) else (some (0, 2))) = some (r1, r2) := H
 have A4 := Aside0.mk A40
 clear A40
 by_cases c5 : t276 = true
 ·subst c5
  have H1 : ((impl_readPitchIn.f a0 a1 a2).bind fun bt277 => (if bt277.2 = true then (some (bt277.1, 0)) else (some (0, 8)))) = some (r1, r2) := by rw [if_pos rfl] at H; exact H
  clear H
  have H := H1
  clear H1
  replace H := Option.bind_eq_some_iff.mp H
  obtain ⟨⟨t277, t278⟩, A60, H⟩ := H
  replace H : (if t278 = true then (some (t277, 0)) else (some (0, 8))) = some (r1, r2) := H
  have A6 := Aside0.mk A60
  clear A60
  by_cases c7 : t278 = true
  ·subst c7
   have H1 : (some (t277, 0)) = some (r1, r2) := by rw [if_pos rfl] at H; exact H
   clear H
   have H := H1
   clear H1
   simp only [Option.some.injEq, Prod.mk.injEq] at H
   obtain ⟨rfl, rfl⟩ := H
   go_enter Tryz.func9, Tryz.ntmps9
   go_wp2_with (first | ((with_reducible refine gate_callee (f := 30) rfl ?_); refine goesL_ (some 12) rfl rfl Tryz.func30 (by kernel_rfl) rfl #[.int .i64 a0, .int .i64 a1] rfl ma_ ?_; (with_reducible refine (impl_keyOk.calls a0 a1 true _ A4.out).mono ?_); rintro e w' ⟨rfl, ⟨nd, rfl⟩⟩; refine ⟨_, rfl, ?_⟩) | ((with_reducible refine gate_callee (f := 33) rfl ?_); refine goesL_ (some 18) rfl rfl Tryz.func33 (by kernel_rfl) rfl #[.int .i64 a0, .int .i64 a1, .string a2] rfl ma_ ?_; (with_reducible refine (impl_readPitchIn.calls a0 a1 a2 t277 true _ ?side1 A6.out).mono ?_); (case side1 => exact Lv.below hL bw_); rintro e w8 ⟨rfl, hb⟩; refine ⟨_, rfl, ?_⟩; have n0_ := Aside0.mk (below_step bw_ hb); clear HB; have HB := n0_; clear n0_; (try clear hb); (try clear hb2); (try clear hk); (try clear hi)))
   go_ret2
   exact ⟨re_, bw_⟩
  ·replace c7 := Bool.eq_false_iff.mpr c7
   subst c7
   have H1 : (some (0, 8)) = some (r1, r2) := by rw [if_neg (show ¬ (false = true) by decide)] at H; exact H
   clear H
   have H := H1
   clear H1
   simp only [Option.some.injEq, Prod.mk.injEq] at H
   obtain ⟨rfl, rfl⟩ := H
   go_enter Tryz.func9, Tryz.ntmps9
   go_wp2_with (first | ((with_reducible refine gate_callee (f := 30) rfl ?_); refine goesL_ (some 12) rfl rfl Tryz.func30 (by kernel_rfl) rfl #[.int .i64 a0, .int .i64 a1] rfl ma_ ?_; (with_reducible refine (impl_keyOk.calls a0 a1 true _ A4.out).mono ?_); rintro e w' ⟨rfl, ⟨nd, rfl⟩⟩; refine ⟨_, rfl, ?_⟩) | ((with_reducible refine gate_callee (f := 33) rfl ?_); refine goesL_ (some 18) rfl rfl Tryz.func33 (by kernel_rfl) rfl #[.int .i64 a0, .int .i64 a1, .string a2] rfl ma_ ?_; (with_reducible refine (impl_readPitchIn.calls a0 a1 a2 t277 false _ ?side1 A6.out).mono ?_); (case side1 => exact Lv.below hL bw_); rintro e w9 ⟨rfl, hb⟩; refine ⟨_, rfl, ?_⟩; have n0_ := Aside0.mk (below_step bw_ hb); clear HB; have HB := n0_; clear n0_; (try clear hb); (try clear hb2); (try clear hk); (try clear hi)))
   go_ret2
   exact ⟨re_, bw_⟩
 ·replace c5 := Bool.eq_false_iff.mpr c5
  subst c5
  have H1 : (some (0, 2)) = some (r1, r2) := by rw [if_neg (show ¬ (false = true) by decide)] at H; exact H
  clear H
  have H := H1
  clear H1
  simp only [Option.some.injEq, Prod.mk.injEq] at H
  obtain ⟨rfl, rfl⟩ := H
  go_enter Tryz.func9, Tryz.ntmps9
  go_wp2_with (first | ((with_reducible refine gate_callee (f := 30) rfl ?_); refine goesL_ (some 12) rfl rfl Tryz.func30 (by kernel_rfl) rfl #[.int .i64 a0, .int .i64 a1] rfl ma_ ?_; (with_reducible refine (impl_keyOk.calls a0 a1 false _ A4.out).mono ?_); rintro e w' ⟨rfl, ⟨nd, rfl⟩⟩; refine ⟨_, rfl, ?_⟩))
  go_ret2
  exact ⟨re_, bw_⟩
def laws_b10At.f (l0 : List Int) (a1 : Int) (a2 : Int) : Option (Int) := if a2 ≤ 1 then (some 0) else (if a1 < (l0.length : Int) then (if 0 ≤ a1 then (if a2 = 0 then (none) else (some (Int.tmod (wrap64 (rd l0 a1)) a2))) else (none)) else (if a2 = 0 then (none) else (some (Int.tmod (wrap64 ((wrap64 (a1 * 37)) + 11)) a2))))
set_option maxHeartbeats 8000000 in
set_option maxRecDepth 100000 in
theorem laws_b10At.calls (A0 : Option Addr) (c0 : Nat) (l0 : List Int) (a1 : Int) (a2 : Int) (r : Int) (w : World) (hr0 : Kd.C (Kd.int .u8) w A0 l0.length l0) (hc0 : l0.length ≤ c0) (h : laws_b10At.f l0 a1 a2 = some r) :
  Calls Tryz.prog 10 #[.slice A0 l0.length c0, .int .i64 a1, .int .i64 a2] w fun e w' => e = .returned (.int .i64 r) ∧ Drawn0 w w' := by
 have HR0 := Aside0.mk hr0
 have HC0 := Aside0.mk hc0
 clear hr0 hc0
 have H : (if a2 ≤ 1 then (some 0) else (if a1 < (l0.length : Int) then (if 0 ≤ a1 then (if a2 = 0 then (none) else (some (Int.tmod (wrap64 (rd l0 a1)) a2))) else (none)) else (if a2 = 0 then (none) else (some (Int.tmod (wrap64 ((wrap64 (a1 * 37)) + 11)) a2))))) = some r := h
 clear h
 by_cases c4 : a2 ≤ 1
 ·rw [if_pos c4] at H
  have c4b0 : decide (a2 ≤ 1) = true := decide_eq_true c4
  clear c4
  obtain rfl := Option.some.inj H
  go_enter Tryz.func10, Tryz.ntmps10
  go_wp2
  go_ret
  exact ⟨rs_, dr_⟩
 ·rw [if_neg c4] at H
  have c4b0 : decide (a2 ≤ 1) = false := decide_eq_false c4
  clear c4
  by_cases c5 : a1 < (l0.length : Int)
  ·rw [if_pos c5] at H
   have c5b0 : decide (a1 < (l0.length : Int)) = true := decide_eq_true c5
   clear c5
   by_cases c6 : 0 ≤ a1
   ·rw [if_pos c6] at H
    have c6b0 : decide (0 ≤ a1) = true := decide_eq_true c6
    clear c6
    by_cases c7 : a2 = 0
    ·rw [if_pos c7] at H
     exact absurd H (by simp)
    ·rw [if_neg c7] at H
     have c7b0 : (a2 == 0) = false := beq_eq_false_iff_ne.mpr c7
     have c7b1 : (a2 != 0) = true := bne_iff_ne.mpr c7
     obtain rfl := Option.some.inj H
     have p279 : 0 ≤ (a1 : Int) := of_decide_eq_true as_
     have q279 : a1 < (l0.length : Int) := of_decide_eq_true as_
     obtain ⟨ad279, e279, hx279_0⟩ := Kd.at_int HR0.out a1 p279 q279
     cases e279
     replace p279 := eq_true p279
     replace q279 := eq_true q279
     go_enter Tryz.func10, Tryz.ntmps10
     go_wp2
     go_ret
     exact ⟨rs_, dr_⟩
   ·rw [if_neg c6] at H
    exact absurd H (by simp)
  ·rw [if_neg c5] at H
   have c5b0 : decide (a1 < (l0.length : Int)) = false := decide_eq_false c5
   clear c5
   by_cases c8 : a2 = 0
   ·rw [if_pos c8] at H
    exact absurd H (by simp)
   ·rw [if_neg c8] at H
    have c8b0 : (a2 == 0) = false := beq_eq_false_iff_ne.mpr c8
    have c8b1 : (a2 != 0) = true := bne_iff_ne.mpr c8
    obtain rfl := Option.some.inj H
    go_enter Tryz.func10, Tryz.ntmps10
    go_wp2
    go_ret
    exact ⟨rs_, dr_⟩
def scriptB (n : Int) : ByteArray := if n = 1 then ⟨#[115, 97, 114, 103, 97, 109]⟩ else if n = 2 then ⟨#[108, 101, 116, 116, 101, 114, 115]⟩ else if n = 3 then ⟨#[110, 117, 109, 98, 101, 114, 115]⟩ else if n = 4 then ⟨#[102, 105, 120, 101, 100]⟩ else ⟨#[]⟩
theorem ix5 (x y z u v : ByteArray) (W : World) : (Instr.index 63 (.agg #[.string v, .string x, .string y, .string z, .string u]) (.int .i64 1)).run Tryz.prog W = .ok (.string x) W ∧ (Instr.index 63 (.agg #[.string v, .string x, .string y, .string z, .string u]) (.int .i64 2)).run Tryz.prog W = .ok (.string y) W ∧ (Instr.index 63 (.agg #[.string v, .string x, .string y, .string z, .string u]) (.int .i64 3)).run Tryz.prog W = .ok (.string z) W ∧ (Instr.index 63 (.agg #[.string v, .string x, .string y, .string z, .string u]) (.int .i64 4)).run Tryz.prog W = .ok (.string u) W := ⟨by kernel_rfl, by kernel_rfl, by kernel_rfl, by kernel_rfl⟩
theorem impl_ScriptName_w (n : Int) (w : World) : Calls Tryz.prog 12 #[.int .i64 n] w fun e w' => e = .returned (.string (scriptB n)) ∧ ∃ q, w' = w.drewN q := by
 have hk : ∀ (b : Bool), impl_within.f n 1 4 = some b → ∀ V, Calls Tryz.prog 36 #[.int .i64 n, .int .i64 1, .int .i64 4] V fun e w' => e = .returned (.bool b) ∧ ∃ q, w' = V.drewN q := fun b hb V => (impl_within.calls n 1 4 b V hb).mono fun e w' ⟨he, hd⟩ => ⟨he, hd.out⟩
 have x1 := fun W => (ix5 ⟨#[115, 97, 114, 103, 97, 109]⟩ ⟨#[108, 101, 116, 116, 101, 114, 115]⟩ ⟨#[110, 117, 109, 98, 101, 114, 115]⟩ ⟨#[102, 105, 120, 101, 100]⟩ ⟨#[]⟩ W).1
 have x2 := fun W => (ix5 ⟨#[115, 97, 114, 103, 97, 109]⟩ ⟨#[108, 101, 116, 116, 101, 114, 115]⟩ ⟨#[110, 117, 109, 98, 101, 114, 115]⟩ ⟨#[102, 105, 120, 101, 100]⟩ ⟨#[]⟩ W).2.1
 have x3 := fun W => (ix5 ⟨#[115, 97, 114, 103, 97, 109]⟩ ⟨#[108, 101, 116, 116, 101, 114, 115]⟩ ⟨#[110, 117, 109, 98, 101, 114, 115]⟩ ⟨#[102, 105, 120, 101, 100]⟩ ⟨#[]⟩ W).2.2.1
 have x4 := fun W => (ix5 ⟨#[115, 97, 114, 103, 97, 109]⟩ ⟨#[108, 101, 116, 116, 101, 114, 115]⟩ ⟨#[110, 117, 109, 98, 101, 114, 115]⟩ ⟨#[102, 105, 120, 101, 100]⟩ ⟨#[]⟩ W).2.2.2
 have hc : n = 1 ∨ n = 2 ∨ n = 3 ∨ n = 4 ∨ (¬ (1 ≤ n ∧ n ≤ 4)) := by omega
 rcases hc with rfl | rfl | rfl | rfl | hc
 ·have ht := hk true (by decide)
  go_enter Tryz.func12, Tryz.ntmps12
  go_wp2_with (go_at_call 36; refine (ht _).mono ?_; rintro e w' ⟨rfl, q, rfl⟩)
  go_ret
  exact ⟨rfl, _, rfl⟩
 ·have ht := hk true (by decide)
  go_enter Tryz.func12, Tryz.ntmps12
  go_wp2_with (go_at_call 36; refine (ht _).mono ?_; rintro e w' ⟨rfl, q, rfl⟩)
  go_ret
  exact ⟨rfl, _, rfl⟩
 ·have ht := hk true (by decide)
  go_enter Tryz.func12, Tryz.ntmps12
  go_wp2_with (go_at_call 36; refine (ht _).mono ?_; rintro e w' ⟨rfl, q, rfl⟩)
  go_ret
  exact ⟨rfl, _, rfl⟩
 ·have ht := hk true (by decide)
  go_enter Tryz.func12, Tryz.ntmps12
  go_wp2_with (go_at_call 36; refine (ht _).mono ?_; rintro e w' ⟨rfl, q, rfl⟩)
  go_ret
  exact ⟨rfl, _, rfl⟩
 ·have ht := hk false (by
   unfold impl_within.f
   by_cases h : n ≥ 1
   ·rw [if_pos h]
    simp
    omega
   ·rw [if_neg h])
  have e0 : scriptB n = ⟨#[]⟩ := by
   unfold scriptB
   rw [if_neg (by omega), if_neg (by omega), if_neg (by omega), if_neg (by omega)]
  rw [e0]
  go_enter Tryz.func12, Tryz.ntmps12
  go_wp2_with (go_at_call 36; refine (ht _).mono ?_; rintro e w' ⟨rfl, q, rfl⟩)
  go_ret
  exact ⟨rfl, _, rfl⟩
def impl_ScriptName.f (a0 : Int) : Option (ByteArray) := some (scriptB a0)
theorem impl_ScriptName.calls (a0 : Int) (r : ByteArray) (w : World) (h : impl_ScriptName.f a0 = some r) :
  Calls Tryz.prog 12 #[.int .i64 a0] w fun e w' => e = .returned (.string r) ∧ Below w.heap.size w w' := by
 unfold impl_ScriptName.f at h
 obtain rfl := Option.some.inj h
 refine (impl_ScriptName_w a0 w).mono ?_
 rintro e w' ⟨rfl, q, rfl⟩
 exact ⟨rfl, pw_below_drewN (Below.refl _ w) q⟩
def ScriptNamed1_T : Bool × List (List Nat × List Nat) := (true, [([], []), ([0], [0]), ([], []), ([1, 2], [1, 2]), ([3, 1, 0, 1, 2, 3], [3])])
def ScriptNamed1_B : List Nat := [0, 1, 0, 7, 15]
theorem ScriptNamed1_tab : rtab .any (opsOf Tryz.f35 1) = ScriptNamed1_T := by kernel_rfl
theorem ScriptNamed1_bits : waitsOk ScriptNamed1_T.2 ScriptNamed1_B = true := by kernel_rfl
theorem sname_held {w W V : World} {p : Addr} {v : Value} (h : W.cell? p = some v ∧ Below w.heap.size w W) (hb : Below W.heap.size W V) : V.cell? p = some v ∧ Below w.heap.size w V :=
 ⟨(hb.cell (World.block_lt_of_cell? W _ h.1)).trans h.1, below_then h.2 h.2.size hb⟩
set_option maxHeartbeats 8000000 in
set_option maxRecDepth 100000 in
theorem impl_ScriptNamed1_w (x : Int) (t : ByteArray) (B1 : Nat) (w : World) (c1 : w.cell? ⟨B1, 0, none⟩ = some (.string t)) :
  Calls Tryz.prog 35 #[.int .i64 x, .pointer (some ⟨B1, 0, none⟩)] w fun e w' => e = .returned (.bool ((scriptB x).toList == t.toList)) ∧ Below w.heap.size w w' := by
 have ht := fun V => impl_ScriptName_w x V
 generalize scriptB x = Y at ht ⊢
 go_enter Tryz.func35, Tryz.ntmps35
 go_wp2
 refine start_ (n := 5) (S := fun W => W.cell? ⟨B1, 0, none⟩ = some (.string t) ∧ Below w.heap.size w W) (ds := []) #[false, false, false, false, false] (by kernel_rfl) rfl rfl ⟨by simpa using c1, below_drew1 (Below.refl _ w)⟩ (fun hHeld => ?_)
 refine with_tabW ScriptNamed1_tab ScriptNamed1_bits (fun HT_ HW_ => ?_)
 generalize World.drew _ = wS at hHeld ⊢
 refine pure_ (i := 0) (N := some 4) (v := ?_) (a' := ?_) #[true, false, false, false, false] rfl rfl (any_of HT_.out (by kernel_rfl)) (fun _ _ _ h => h) (Or.inl ⟨by rfl, ?_⟩) ?_ ?_
 rotate_left
 ·intro w'
  go_simp
  with_reducible rfl
 rotate_left
 ·simp only [Act.put, List.setIfInBounds_toArray, List.set_cons_zero, List.set_cons_succ, i64_w, i32_w]
  rfl
 refine take_ (i := 2) (N := some 6) (v := ?_) (a' := ?_) #[true, false, true, false, false] rfl rfl (take_ofW HT_.out HW_.out (by kernel_rfl)) (fun _ _ _ h => h) (Or.inl ⟨by rfl, ?_⟩) hHeld ?_ ?_
 rotate_left
 ·rintro w' ⟨s0, _⟩
  go_simp
  with_reducible rfl
 rotate_left
 ·simp only [Act.put, List.setIfInBounds_toArray, List.set_cons_zero, List.set_cons_succ, i64_w, i32_w]
  rfl
 refine one_ (i := 1) (N := some 5) #[true, true, true, false, false] rfl rfl (one_of HT_.out (by kernel_rfl)) (by decide) (fun K hK => ?_)
 refine goes_ Tryz.func12 (by kernel_rfl) rfl #[.int .i64 x] (by rfl) rfl rfl (by (try simp only [List.map_toArray, List.map_cons, List.map_nil]); first | done | rfl) ?_
 refine (ht _).mono ?_
 rintro e w8 ⟨rfl, nq, rfl⟩
 have hB8 := pw_below_drewN (Below.refl wS.heap.size wS) nq
 refine ⟨_, rfl, ?_⟩
 generalize World.drewN wS nq = w8 at hB8 ⊢
 refine hK.out _ _ (sname_held hHeld hB8) (fun hHeld => ?_)
 clear hK K hB8
 refine norm_ (a' := ?_) ?_ ?_
 rotate_left
 ·show Act.put _ (some 5) _ = _
  simp only [Act.put, List.setIfInBounds_toArray, List.set_cons_zero, List.set_cons_succ, i64_w, i32_w]
  rfl
 refine pure_ (i := 3) (N := some 7) (v := ?_) (a' := ?_) #[true, true, true, true, false] rfl rfl (any_of HT_.out (by kernel_rfl)) (fun _ _ _ h => h) (Or.inl ⟨by rfl, ?_⟩) ?_ ?_
 rotate_left
 ·intro w'
  go_simp
  with_reducible rfl
 rotate_left
 ·simp only [Act.put, List.setIfInBounds_toArray, List.set_cons_zero, List.set_cons_succ, i64_w, i32_w]
  rfl
 refine pure_ (i := 4) (N := some 3) (v := ?_) (a' := ?_) #[true, true, true, true, true] rfl rfl (any_of HT_.out (by kernel_rfl)) (fun _ _ _ h => h) (Or.inl ⟨by rfl, ?_⟩) ?_ ?_
 rotate_left
 ·intro w'
  go_simp
  with_reducible rfl
 rotate_left
 ·simp only [Act.put, List.setIfInBounds_toArray, List.set_cons_zero, List.set_cons_succ, i64_w, i32_w]
  rfl
 refine done_ (done_of HT_.out (by kernel_rfl)) ?_
 try go_wp2
 go_ret
 exact ⟨rfl, hHeld.2⟩
def impl_ScriptNamed.f (a0 : ByteArray) : Option (Int × Bool) := some (leastP (fun p => (scriptB p).toList == a0.toList) 1 4)
set_option maxHeartbeats 8000000 in
set_option maxRecDepth 100000 in
theorem impl_ScriptNamed.calls (a0 : ByteArray) (r1 : Int) (r2 : Bool) (w : World) (h : impl_ScriptNamed.f a0 = some (r1, r2)) :
  Calls Tryz.prog 11 #[.string a0] w fun e w' => e = .returned (.tuple #[.int .i64 r1, .bool r2]) ∧ Below w.heap.size w w' := by
 unfold impl_ScriptNamed.f at h
 have hr := Option.some.inj h
 clear h
 have eg : ∀ args w, (callFunc 35 args).run Tryz.prog w = .ok (.enter 35 args) w := enters_of Tryz.func35 (by kernel_rfl) rfl
 have hk := fun V hp => impl_least_w 35 #[.pointer (some ⟨w.heap.size, 0, none⟩)] (fun p => (scriptB p).toList == a0.toList) eg 1 4 4 (by omega) (by omega) (by omega) V hp
 rw [hr] at hk
 have hclo := fun x W c1 => impl_ScriptNamed1_w x a0 w.heap.size W c1
 have HK := Aside0.mk hk
 have HL := Aside0.mk hclo
 clear hk hclo hr
 go_enter Tryz.func11, Tryz.ntmps11
 go_wp2_with (go_at_call 34; refine (HK.out _ (fun W x hb h0 h1 => HL.out x W ((hb.cell (p := ⟨w.heap.size, 0, none⟩) (by simp)).trans (by simp)))).mono ?_; rintro e w' ⟨rfl, hb'⟩)
 first | go_ret2 | go_ret
 exact ⟨rfl, below_then ((Below.refl _ w).alloc (Nat.le_refl _) _) ((Below.refl _ w).alloc (Nat.le_refl _) _).size hb'⟩
def spec_l00Max.f (a0 : Int) (a1 : Int) : Option (Int) := if a0 > a1 then (some a0) else (some a1)
set_option maxHeartbeats 8000000 in
set_option maxRecDepth 100000 in
theorem spec_l00Max.calls (a0 : Int) (a1 : Int) (r : Int) (w : World) (h : spec_l00Max.f a0 a1 = some r) :
  Calls Tryz.prog 75 #[.int .i64 a0, .int .i64 a1] w fun e w' => e = .returned (.int .i64 r) ∧ Drawn0 w w' := by
 have H : (if a0 > a1 then (some a0) else (some a1)) = some r := h
 clear h
 by_cases c3 : a0 > a1
 ·rw [if_pos c3] at H
  have c3b0 : decide (a1 < a0) = true := decide_eq_true c3
  clear c3
  obtain rfl := Option.some.inj H
  go_enter Tryz.func75, Tryz.ntmps75
  go_wp2
  go_ret
  exact ⟨rs_, dr_⟩
 ·rw [if_neg c3] at H
  have c3b0 : decide (a1 < a0) = false := decide_eq_false c3
  clear c3
  obtain rfl := Option.some.inj H
  go_enter Tryz.func75, Tryz.ntmps75
  go_wp2
  go_ret
  exact ⟨rs_, dr_⟩
def spec_l00Min.f (a0 : Int) (a1 : Int) : Option (Int) := if a0 < a1 then (some a0) else (some a1)
set_option maxHeartbeats 8000000 in
set_option maxRecDepth 100000 in
theorem spec_l00Min.calls (a0 : Int) (a1 : Int) (r : Int) (w : World) (h : spec_l00Min.f a0 a1 = some r) :
  Calls Tryz.prog 76 #[.int .i64 a0, .int .i64 a1] w fun e w' => e = .returned (.int .i64 r) ∧ Drawn0 w w' := by
 have H : (if a0 < a1 then (some a0) else (some a1)) = some r := h
 clear h
 by_cases c3 : a0 < a1
 ·rw [if_pos c3] at H
  have c3b0 : decide (a0 < a1) = true := decide_eq_true c3
  clear c3
  obtain rfl := Option.some.inj H
  go_enter Tryz.func76, Tryz.ntmps76
  go_wp2
  go_ret
  exact ⟨rs_, dr_⟩
 ·rw [if_neg c3] at H
  have c3b0 : decide (a0 < a1) = false := decide_eq_false c3
  clear c3
  obtain rfl := Option.some.inj H
  go_enter Tryz.func76, Tryz.ntmps76
  go_wp2
  go_ret
  exact ⟨rs_, dr_⟩
def spec_l09Draw.l0 : Nat → List (S70) → Int → Int → List Int → Int → Int → Option ((List (S70)) × Int × Int)
 | 0, _, _, _, _, _, _ => none
 | k + 1, x3, x4, x5, x1000, x1001, x1002 => if x5 > 0 then ((spec_l00Src_pick.f x1000 x1001 x1002 9).bind fun bt289 => ((spec_l00Min.f 23 (wrap64 ((wrap64 (x4 + bt289.1)) - 4))).bind fun t292 => ((spec_l00Max.f (-12) t292).bind fun t293 => ((spec_l00Src_among.f x1000 bt289.2.1 bt289.2.2 (([1, 1, 2, 2, 3, 4, 6] : List Int))).bind fun bt297 => (if x3.length < 8796093022208 then (spec_l09Draw.l0 k (x3 ++ [(⟨t293, bt297.1⟩ : S70)]) t293 (wrap64 (x5 - 1)) x1000 bt297.2.1 bt297.2.2) else (none)))))) else (some (x3, x1001, x1002))
def spec_l09Draw.f (k : Nat) (s0_0 : List Int) (s0_1 : Int) (s0_2 : Int) : Option ((List (S70)) × Int × Int) := (spec_l00Src_pick.f s0_0 s0_1 s0_2 12).bind fun bt283 => ((spec_l00Src_pick.f s0_0 bt283.2.1 bt283.2.2 10).bind fun bt286 => (spec_l09Draw.l0 k (([] : List (S70))) bt283.1 bt286.1 s0_0 bt286.2.1 bt286.2.2))
theorem spec_l09Draw.mono_l : ∀ k, (∀ y0 y1 y2 y3 y4 y5, LeO (spec_l09Draw.l0 k y0 y1 y2 y3 y4 y5) (spec_l09Draw.l0 (k + 1) y0 y1 y2 y3 y4 y5))
 | 0 => fun _ _ _ _ _ _ r h => by simp [spec_l09Draw.l0] at h
 | k + 1 => by
  have ih0 := spec_l09Draw.mono_l k
  ·intro y0 y1 y2 y3 y4 y5
   unfold spec_l09Draw.l0
   repeat' first
   | (with_reducible exact ih0 _ _ _ _ _ _)
   | (with_reducible exact LeO.refl _)
   | (with_reducible exact LeO.none _)
   | (with_reducible refine LeO.ite ?_ ?_)
   | (with_reducible refine LeO.bind ?_ (fun _ => ?_))
theorem spec_l09Draw.mono : ∀ a0 a1 a2 k, LeO (spec_l09Draw.f k a0 a1 a2) (spec_l09Draw.f (k + 1) a0 a1 a2) := by
 intro a0 a1 a2 k
 have ih0 := spec_l09Draw.mono_l k
 unfold spec_l09Draw.f
 repeat' first
   | (with_reducible exact ih0 _ _ _ _ _ _)
   | (with_reducible exact LeO.refl _)
   | (with_reducible exact LeO.none _)
   | (with_reducible refine LeO.ite ?_ ?_)
   | (with_reducible refine LeO.bind ?_ (fun _ => ?_))
set_option maxHeartbeats 8000000 in
set_option maxRecDepth 100000 in
theorem spec_l09Draw.calls (k : Nat) (g : Nat) (s0_0 : List Int) (s0_1 : Int) (s0_2 : Int) (r1 : List (S70)) (r2 : Int) (r3 : Int) (w0 w : World) (hI : IsS80 w0 w g s0_0 s0_1 s0_2) (hB : Below w0.heap.size w0 w) (h : spec_l09Draw.f k s0_0 s0_1 s0_2 = some (r1, r2, r3)) :
  Calls Tryz.prog 51 #[.pointer (some ⟨g, 0, none⟩)] w fun e w' => ∃ v0_ : Value, e = .returned (v0_) ∧ Kd.R k70 70 w' w.heap.size (fun _ => True) v0_ r1 ∧ IsS80 w0 w' g s0_0 r2 r3 ∧ Below w0.heap.size w0 w' ∧ KeepBut w w' g none := by
 have hu70 := Tryz.underlying70
 have HI0 := Aside0.mk hI
 have HK := Aside0.mk (KeepBut.refl w g none)
 have HL := Aside0.mk hB.size
 clear hI
 have HW0 := Aside0.mk hB.size
 have HB := Aside0.mk hB
 clear hB
 have H : ((spec_l00Src_pick.f s0_0 s0_1 s0_2 12).bind fun bt283 => ((spec_l00Src_pick.f s0_0 bt283.2.1 bt283.2.2 10).bind fun bt286 => (spec_l09Draw.l0 k (([] : List (S70))) bt283.1 bt286.1 s0_0 bt286.2.1 bt286.2.2))) = some (r1, r2, r3) := h
 clear h
 obtain ⟨y280, hy280⟩ : ∃ y_ : List (S70), y_ = (([] : List (S70))) := ⟨_, rfl⟩
 replace H : ((spec_l00Src_pick.f s0_0 s0_1 s0_2 12).bind fun bt283 => ((spec_l00Src_pick.f s0_0 bt283.2.1 bt283.2.2 10).bind fun bt286 => (spec_l09Draw.l0 k y280 bt283.1 bt286.1 s0_0 bt286.2.1 bt286.2.2))) = some (r1, r2, r3) := by first | (rw [hy280]; with_reducible exact H) | (have H2_ := (Option.bind_some _ _).symm.trans H; rw [hy280]; with_reducible exact H2_) | (have H2_ := (Option.bind_some _ _).symm.trans H; with_reducible exact H2_) | with_reducible exact H | (rw [hy280]; exact H) | exact H
 have Ny280 := Aside0.mk hy280
 clear hy280
 replace H := Option.bind_eq_some_iff.mp H
 obtain ⟨⟨t283, t284, t285⟩, A20, H⟩ := H
 replace H : ((spec_l00Src_pick.f s0_0 t284 t285 10).bind fun bt286 => (spec_l09Draw.l0 k y280 t283 bt286.1 s0_0 bt286.2.1 bt286.2.2)) = some (r1, r2, r3) := H
 have A2 := Aside0.mk A20
 clear A20
 replace H := Option.bind_eq_some_iff.mp H
 obtain ⟨⟨t286, t287, t288⟩, A30, H⟩ := H
 replace H : (spec_l09Draw.l0 k y280 t283 t286 s0_0 t287 t288) = some (r1, r2, r3) := H
 have A3 := Aside0.mk A30
 clear A30
 have H' := Aside0.mk H
 clear H
 go_enter Tryz.func51, Tryz.ntmps51
 go_wp2_with (first | ((with_reducible refine gate_dst (N := 6) rfl ?_); refine Kd.R_lit k70 _ 70 ?hg (N := 6) ?hd (xs := ([] : List (S70))) (inner := []) (ok := fun _ => True) (okp := fun _ => True) ?hr ?hp (fun _ hk => hk) trivial (Below.refl _ _) (Nat.le_refl _) (by simp) ?_; (case hd => rfl); (case hg => rfl); (case hr => first | (go_simp; done) | (go_simp; rfl)); (case hp => exact (Reps.none _ _)); intro v281 w4 ho5 hb hg_ hnew_; clear hg_ hnew_; (first | rw [← Ny280.out] at ho5 | (simp only [Int.reduceToNat] at ho5; rw [← Ny280.out] at ho5)); have n0_ := Aside0.mk (Kd.R_lower ho5 (keep_size (w := w) (g := g) (row := none) (by repeat (first | (with_reducible first | exact HK.out | apply KeepBut.set_ | apply keep_drewN | apply keep_drew | apply keep_alloc) | exact HK.out)))); have n1_ := Aside0.mk (IsS80.below (by repeat (first | (with_reducible first | exact HI0.out | apply IsS80.alloc | apply IsS80.drewN | apply IsS80.drew | apply IsS80.set_1 | apply IsS80.set_2) | exact HI0.out)) hb); have n2_ := Aside0.mk (KeepBut.trans (by repeat (first | (with_reducible first | exact HK.out | apply KeepBut.set_ | apply keep_drewN | apply keep_drew | apply keep_alloc) | exact HK.out)) (KeepBut.of_below hb g none) (.inl rfl)); have n3_ := Aside0.mk (below_step (by repeat (first | (with_reducible first | exact HB.out | apply below_alloc | apply pw_below_drewN | apply below_drew1 | refine below_set ?_ (IsS80.ge HI0.out)) | exact HB.out)) hb); clear HI0; clear HK; clear HB; have HO282 := n0_; have HI0 := n1_; have HK := n2_; have HB := n3_; clear n0_ n1_ n2_ n3_; clear hb ho5) | ((with_reducible refine gate_callee (f := 50) rfl ?_); refine goesL_ (some 8) rfl rfl Tryz.func50 (by kernel_rfl) rfl #[.pointer (some ⟨g, 0, none⟩), .int .i64 12] rfl ma_ ?_; (with_reducible refine (spec_l00Src_pick.calls g s0_0 s0_1 s0_2 12 t283 t284 t285 w0 _ ?side1 ?side2 A2.out).mono ?_); (case side1 => repeat (first | (with_reducible first | exact HI0.out | apply IsS80.alloc | apply IsS80.drewN | apply IsS80.drew | apply IsS80.set_1 | apply IsS80.set_2) | exact HI0.out)); (case side2 => repeat (first | (with_reducible first | exact HB.out | apply below_alloc | apply pw_below_drewN | apply below_drew1 | refine below_set ?_ (IsS80.ge HI0.out)) | exact HB.out)); rintro e w6 ⟨rfl, hi, hb, hk⟩; refine ⟨_, rfl, ?_⟩; have n0_ := Aside0.mk (Kd.R_mono (Kd.R_keep (IsS80.apart (show IsS80 w0 _ g s0_0 s0_1 s0_2 from by repeat (first | (with_reducible first | exact HI0.out | apply IsS80.alloc | apply IsS80.drewN | apply IsS80.drew | apply IsS80.set_1 | apply IsS80.set_2) | exact HI0.out)) (kr_ HO282.out) (by decide)) hk (fun _ h => h.2)) (fun _ h => h.1)); have n1_ := Aside0.mk (KeepBut.trans (by repeat (first | (with_reducible first | exact HK.out | apply KeepBut.set_ | apply keep_drewN | apply keep_drew | apply keep_alloc) | exact HK.out)) hk (.inl rfl)); have n2_ := Aside0.mk (hb); have n3_ := Aside0.mk (hi); clear HO282; clear HK; clear HB; clear HI0; have HO282 := n0_; have HK := n1_; have HB := n2_; have HI0 := n3_; clear n0_ n1_ n2_ n3_; (try clear hb); (try clear hb2); (try clear hk); (try clear hi)) | ((with_reducible refine gate_callee (f := 50) rfl ?_); refine goesL_ (some 10) rfl rfl Tryz.func50 (by kernel_rfl) rfl #[.pointer (some ⟨g, 0, none⟩), .int .i64 10] rfl ma_ ?_; (with_reducible refine (spec_l00Src_pick.calls g s0_0 t284 t285 10 t286 t287 t288 w0 _ ?side1 ?side2 A3.out).mono ?_); (case side1 => repeat (first | (with_reducible first | exact HI0.out | apply IsS80.alloc | apply IsS80.drewN | apply IsS80.drew | apply IsS80.set_1 | apply IsS80.set_2) | exact HI0.out)); (case side2 => repeat (first | (with_reducible first | exact HB.out | apply below_alloc | apply pw_below_drewN | apply below_drew1 | refine below_set ?_ (IsS80.ge HI0.out)) | exact HB.out)); rintro e w7 ⟨rfl, hi, hb, hk⟩; refine ⟨_, rfl, ?_⟩; have n0_ := Aside0.mk (Kd.R_mono (Kd.R_keep (IsS80.apart (show IsS80 w0 _ g s0_0 t284 t285 from by repeat (first | (with_reducible first | exact HI0.out | apply IsS80.alloc | apply IsS80.drewN | apply IsS80.drew | apply IsS80.set_1 | apply IsS80.set_2) | exact HI0.out)) (kr_ HO282.out) (by decide)) hk (fun _ h => h.2)) (fun _ h => h.1)); have n1_ := Aside0.mk (KeepBut.trans (by repeat (first | (with_reducible first | exact HK.out | apply KeepBut.set_ | apply keep_drewN | apply keep_drew | apply keep_alloc) | exact HK.out)) hk (.inl rfl)); have n2_ := Aside0.mk (hb); have n3_ := Aside0.mk (hi); clear HO282; clear HK; clear HB; clear HI0; have HO282 := n0_; have HK := n1_; have HB := n2_; have HI0 := n3_; clear n0_ n1_ n2_ n3_; (try clear hb); (try clear hb2); (try clear hk); (try clear hi)))
 go_loopg [3, 4, 5] k (fun kq v3 v4 v5 w' => ∃ (x3_1 : List (S70)) (x4_1 : Int) (x5_1 : Int) (x1001_1 : Int) (x1002_1 : Int), v4 = .int .i64 x4_1 ∧ v5 = .int .i64 x5_1 ∧ Aside0 (spec_l09Draw.l0 kq x3_1 x4_1 x5_1 s0_0 x1001_1 x1002_1 = some (r1, r2, r3)) ∧ Aside0 (kq ≤ k) ∧ Aside0 (Kd.R k70 70 w' w.heap.size (fun _ => True) v3 x3_1) ∧ Aside0 (IsS80 w0 w' g s0_0 x1001_1 x1002_1) ∧ Aside0 (KeepBut w w' g none) ∧ Aside0 (Below w0.heap.size w0 w'))
 case atStart => exact ⟨(y280), (t283), (t286), (t287), (t288), rs_, rs_, H', ⟨Nat.le_refl _⟩, ⟨kr_ HO282.out⟩, ⟨by repeat (first | (with_reducible first | exact HI0.out | apply IsS80.alloc | apply IsS80.drewN | apply IsS80.drew | apply IsS80.set_1 | apply IsS80.set_2) | exact HI0.out)⟩, ⟨by repeat (first | (with_reducible first | exact HK.out | apply KeepBut.set_ | apply keep_drewN | apply keep_drew | apply keep_alloc) | exact HK.out)⟩, ⟨by repeat (first | (with_reducible first | exact HB.out | apply below_alloc | apply pw_below_drewN | apply below_drew1 | refine below_set ?_ (IsS80.ge HI0.out)) | exact HB.out)⟩⟩
 case round =>
  clear H'
  try clear p2
  try clear c5
  obtain ⟨x3_1, x4_1, x5_1, x1001_1, x1002_1, rfl, rfl, HA, HK1, HO_3, HI0, HK, HB⟩ := hrel
  cases gk with
  | zero => exact absurd HA.out (by simp [spec_l09Draw.l0])
  | succ k1 =>
   have H := HA.out
   clear HA
   simp only [spec_l09Draw.l0] at H
   by_cases c8 : x5_1 > 0
   ·rw [if_pos c8] at H
    have c8b0 : decide (0 < x5_1) = true := decide_eq_true c8
    clear c8
    replace H := Option.bind_eq_some_iff.mp H
    obtain ⟨⟨t289, t290, t291⟩, A90, H⟩ := H
    replace H : ((spec_l00Min.f 23 (wrap64 ((wrap64 (x4_1 + t289)) - 4))).bind fun t292 => ((spec_l00Max.f (-12) t292).bind fun t293 => ((spec_l00Src_among.f s0_0 t290 t291 (([1, 1, 2, 2, 3, 4, 6] : List Int))).bind fun bt297 => (if x3_1.length < 8796093022208 then (spec_l09Draw.l0 k1 (x3_1 ++ [(⟨t293, bt297.1⟩ : S70)]) t293 (wrap64 (x5_1 - 1)) s0_0 bt297.2.1 bt297.2.2) else (none))))) = some (r1, r2, r3) := H
    have A9 := Aside0.mk A90
    clear A90
    replace H := Option.bind_eq_some_iff.mp H
    obtain ⟨t292, A100, H⟩ := H
    replace H : ((spec_l00Max.f (-12) t292).bind fun t293 => ((spec_l00Src_among.f s0_0 t290 t291 (([1, 1, 2, 2, 3, 4, 6] : List Int))).bind fun bt297 => (if x3_1.length < 8796093022208 then (spec_l09Draw.l0 k1 (x3_1 ++ [(⟨t293, bt297.1⟩ : S70)]) t293 (wrap64 (x5_1 - 1)) s0_0 bt297.2.1 bt297.2.2) else (none)))) = some (r1, r2, r3) := H
    have A10 := Aside0.mk A100
    clear A100
    replace H := Option.bind_eq_some_iff.mp H
    obtain ⟨t293, A110, H⟩ := H
    replace H : ((spec_l00Src_among.f s0_0 t290 t291 (([1, 1, 2, 2, 3, 4, 6] : List Int))).bind fun bt297 => (if x3_1.length < 8796093022208 then (spec_l09Draw.l0 k1 (x3_1 ++ [(⟨t293, bt297.1⟩ : S70)]) t293 (wrap64 (x5_1 - 1)) s0_0 bt297.2.1 bt297.2.2) else (none))) = some (r1, r2, r3) := H
    have A11 := Aside0.mk A110
    clear A110
    obtain ⟨y294, hy294⟩ : ∃ y_ : List Int, y_ = (([1, 1, 2, 2, 3, 4, 6] : List Int)) := ⟨_, rfl⟩
    replace H : ((spec_l00Src_among.f s0_0 t290 t291 y294).bind fun bt297 => (if x3_1.length < 8796093022208 then (spec_l09Draw.l0 k1 (x3_1 ++ [(⟨t293, bt297.1⟩ : S70)]) t293 (wrap64 (x5_1 - 1)) s0_0 bt297.2.1 bt297.2.2) else (none))) = some (r1, r2, r3) := by first | (rw [hy294]; with_reducible exact H) | (have H2_ := (Option.bind_some _ _).symm.trans H; rw [hy294]; with_reducible exact H2_) | (have H2_ := (Option.bind_some _ _).symm.trans H; with_reducible exact H2_) | with_reducible exact H | (rw [hy294]; exact H) | exact H
    have Ny294 := Aside0.mk hy294
    clear hy294
    replace H := Option.bind_eq_some_iff.mp H
    obtain ⟨⟨t297, t298, t299⟩, A120, H⟩ := H
    replace H : (if x3_1.length < 8796093022208 then (spec_l09Draw.l0 k1 (x3_1 ++ [(⟨t293, t297⟩ : S70)]) t293 (wrap64 (x5_1 - 1)) s0_0 t298 t299) else (none)) = some (r1, r2, r3) := H
    have A12 := Aside0.mk A120
    clear A120
    by_cases c13 : x3_1.length < 8796093022208
    ·rw [if_pos c13] at H
     have LMc13 := Aside0.mk c13
     clear c13
     obtain ⟨y300, hy300⟩ : ∃ y_ : List (S70), y_ = (x3_1 ++ [(⟨t293, t297⟩ : S70)]) := ⟨_, rfl⟩
     replace H : (spec_l09Draw.l0 k1 y300 t293 (wrap64 (x5_1 - 1)) s0_0 t298 t299) = some (r1, r2, r3) := by first | (rw [hy300]; with_reducible exact H) | (have H2_ := (Option.bind_some _ _).symm.trans H; rw [hy300]; with_reducible exact H2_) | (have H2_ := (Option.bind_some _ _).symm.trans H; with_reducible exact H2_) | with_reducible exact H | (rw [hy300]; exact H) | exact H
     have Ny300 := Aside0.mk hy300
     clear hy300
     have H' := Aside0.mk H
     clear H
     go_wp2_with (first | ((with_reducible refine gate_callee (f := 50) rfl ?_); refine goesL_ (some 17) rfl rfl Tryz.func50 (by kernel_rfl) rfl #[.pointer (some ⟨g, 0, none⟩), .int .i64 9] rfl ma_ ?_; (with_reducible refine (spec_l00Src_pick.calls g s0_0 x1001_1 x1002_1 9 t289 t290 t291 w0 _ ?side1 ?side2 A9.out).mono ?_); (case side1 => repeat (first | (with_reducible first | exact HI0.out | apply IsS80.alloc | apply IsS80.drewN | apply IsS80.drew | apply IsS80.set_1 | apply IsS80.set_2) | exact HI0.out)); (case side2 => repeat (first | (with_reducible first | exact HB.out | apply below_alloc | apply pw_below_drewN | apply below_drew1 | refine below_set ?_ (IsS80.ge HI0.out)) | exact HB.out)); rintro e w14 ⟨rfl, hi, hb, hk⟩; refine ⟨_, rfl, ?_⟩; have n0_ := Aside0.mk (Kd.R_mono (Kd.R_keep (IsS80.apart (show IsS80 w0 _ g s0_0 x1001_1 x1002_1 from by repeat (first | (with_reducible first | exact HI0.out | apply IsS80.alloc | apply IsS80.drewN | apply IsS80.drew | apply IsS80.set_1 | apply IsS80.set_2) | exact HI0.out)) (kr_ HO_3.out) (by decide)) hk (fun _ h => h.2)) (fun _ h => h.1)); have n1_ := Aside0.mk (KeepBut.trans (by repeat (first | (with_reducible first | exact HK.out | apply KeepBut.set_ | apply keep_drewN | apply keep_drew | apply keep_alloc) | exact HK.out)) hk (.inl rfl)); have n2_ := Aside0.mk (hb); have n3_ := Aside0.mk (hi); clear HO_3; clear HK; clear HB; clear HI0; have HO_3 := n0_; have HK := n1_; have HB := n2_; have HI0 := n3_; clear n0_ n1_ n2_ n3_; (try clear hb); (try clear hb2); (try clear hk); (try clear hi)) | ((with_reducible refine gate_callee (f := 76) rfl ?_); refine goesL_ (some 20) rfl rfl Tryz.func76 (by kernel_rfl) rfl #[.int .i64 23, .int .i64 (wrap64 ((wrap64 (x4_1 + t289)) - 4))] rfl ma_ ?_; (with_reducible refine (spec_l00Min.calls 23 (wrap64 ((wrap64 (x4_1 + t289)) - 4)) t292 _ A10.out).mono ?_); rintro e w' ⟨rfl, ⟨nd, rfl⟩⟩; refine ⟨_, rfl, ?_⟩) | ((with_reducible refine gate_callee (f := 75) rfl ?_); refine goesL_ (some 21) rfl rfl Tryz.func75 (by kernel_rfl) rfl #[.int .i64 (-12), .int .i64 t292] rfl ma_ ?_; (with_reducible refine (spec_l00Max.calls (-12) t292 t293 _ A11.out).mono ?_); rintro e w' ⟨rfl, ⟨nd, rfl⟩⟩; refine ⟨_, rfl, ?_⟩) | ((with_reducible refine gate_dst (N := 25) rfl ?_); refine Kd.R_lit (Kd.int .i64) _ 2 ?hg (N := 25) ?hd (xs := ([1, 1, 2, 2, 3, 4, 6] : List Int)) (inner := [.int .i64 1, .int .i64 1, .int .i64 2, .int .i64 2, .int .i64 3, .int .i64 4, .int .i64 6]) (ok := fun _ => True) (okp := fun _ => True) ?hr ?hp (fun _ hk => hk) trivial (Below.refl _ _) (Nat.le_refl _) (by simp) ?_; (case hd => rfl); (case hg => rfl); (case hr => first | (go_simp; done) | (go_simp; rfl)); (case hp => exact (Reps.one (show Kd.M (Kd.int .i64) _ _ _ 1 [.int .i64 1] from rfl) (Reps.one (show Kd.M (Kd.int .i64) _ _ _ 1 [.int .i64 1] from rfl) (Reps.one (show Kd.M (Kd.int .i64) _ _ _ 2 [.int .i64 2] from rfl) (Reps.one (show Kd.M (Kd.int .i64) _ _ _ 2 [.int .i64 2] from rfl) (Reps.one (show Kd.M (Kd.int .i64) _ _ _ 3 [.int .i64 3] from rfl) (Reps.one (show Kd.M (Kd.int .i64) _ _ _ 4 [.int .i64 4] from rfl) (Reps.one (show Kd.M (Kd.int .i64) _ _ _ 6 [.int .i64 6] from rfl) (Reps.none _ _))))))))); intro v295 w15 ho16 hb hg_ hnew_; clear hg_ hnew_; (first | rw [← Ny294.out] at ho16 | (simp only [Int.reduceToNat] at ho16; rw [← Ny294.out] at ho16)); have n0_ := Aside0.mk (Kd.R_below (kr_ HO_3.out) hb); have n1_ := Aside0.mk (Kd.R_lower ho16 (keep_size (w := w) (g := g) (row := none) (by repeat (first | (with_reducible first | exact HK.out | apply KeepBut.set_ | apply keep_drewN | apply keep_drew | apply keep_alloc) | exact HK.out)))); have n2_ := Aside0.mk (IsS80.below (by repeat (first | (with_reducible first | exact HI0.out | apply IsS80.alloc | apply IsS80.drewN | apply IsS80.drew | apply IsS80.set_1 | apply IsS80.set_2) | exact HI0.out)) hb); have n3_ := Aside0.mk (KeepBut.trans (by repeat (first | (with_reducible first | exact HK.out | apply KeepBut.set_ | apply keep_drewN | apply keep_drew | apply keep_alloc) | exact HK.out)) (KeepBut.of_below hb g none) (.inl rfl)); have n4_ := Aside0.mk (below_step (by repeat (first | (with_reducible first | exact HB.out | apply below_alloc | apply pw_below_drewN | apply below_drew1 | refine below_set ?_ (IsS80.ge HI0.out)) | exact HB.out)) hb); clear HO_3; clear HI0; clear HK; clear HB; have HO_3 := n0_; have HO296 := n1_; have HI0 := n2_; have HK := n3_; have HB := n4_; clear n0_ n1_ n2_ n3_ n4_; clear hb ho16; obtain ⟨Ao17, co17, eo17⟩ := Kd.R_slice HO296.out; subst eo17) | ((with_reducible refine gate_callee (f := 54) rfl ?_); refine goesL_ (some 26) rfl rfl Tryz.func54 (by kernel_rfl) rfl #[.pointer (some ⟨g, 0, none⟩), .slice Ao17 y294.length co17] rfl ma_ ?_; (with_reducible refine (spec_l00Src_among.calls g s0_0 t290 t291 _ _ y294 t297 t298 t299 w0 _ ?side1 ?side2 ?side3 ?side4 ?side5 A12.out).mono ?_); (case side1 => repeat (first | (with_reducible first | exact HI0.out | apply IsS80.alloc | apply IsS80.drewN | apply IsS80.drew | apply IsS80.set_1 | apply IsS80.set_2) | exact HI0.out)); (case side2 => repeat (first | (with_reducible first | exact HB.out | apply below_alloc | apply pw_below_drewN | apply below_drew1 | refine below_set ?_ (IsS80.ge HI0.out)) | exact HB.out)); (case side3 => repeat (first | exact (Kd.R_reads' HO296.out).2.2 | (with_reducible refine Kd.C_alloc ?_ _) | (with_reducible refine Kd.C_drewN ?_ _) | (with_reducible refine Kd.C_drew ?_))); (case side4 => exact (Kd.R_reads' HO296.out).2.1); (case side5 => exact far_slice (IsS80.own_ne HI0.out HO296.out (by decide))); rintro e w18 ⟨rfl, hi, hb, hk⟩; refine ⟨_, rfl, ?_⟩; have n0_ := Aside0.mk (Kd.R_mono (Kd.R_keep (IsS80.apart (show IsS80 w0 _ g s0_0 t290 t291 from by repeat (first | (with_reducible first | exact HI0.out | apply IsS80.alloc | apply IsS80.drewN | apply IsS80.drew | apply IsS80.set_1 | apply IsS80.set_2) | exact HI0.out)) (kr_ HO_3.out) (by decide)) hk (fun _ h => h.2)) (fun _ h => h.1)); have n1_ := Aside0.mk (Kd.R_mono (Kd.R_keep (IsS80.apart (show IsS80 w0 _ g s0_0 t290 t291 from by repeat (first | (with_reducible first | exact HI0.out | apply IsS80.alloc | apply IsS80.drewN | apply IsS80.drew | apply IsS80.set_1 | apply IsS80.set_2) | exact HI0.out)) (kr_ HO296.out) (by decide)) hk (fun _ h => h.2)) (fun _ h => h.1)); have n2_ := Aside0.mk (KeepBut.trans (by repeat (first | (with_reducible first | exact HK.out | apply KeepBut.set_ | apply keep_drewN | apply keep_drew | apply keep_alloc) | exact HK.out)) hk (.inl rfl)); have n3_ := Aside0.mk (hb); have n4_ := Aside0.mk (hi); clear HO_3; clear HO296; clear HK; clear HB; clear HI0; have HO_3 := n0_; have HO296 := n1_; have HK := n2_; have HB := n3_; have HI0 := n4_; clear n0_ n1_ n2_ n3_ n4_; (try clear hb); (try clear hb2); (try clear hk); (try clear hi)) | ((with_reducible refine gate_builtin (b := .append) (xs := #[.tmp 22, .tmp 28]) rfl ?_); at_builtin; refine Kd.R_append k70 w.heap.size rfl (.tmp 22) (.tmp 28) 34 70 (.agg #[(.int .i64 0), (.int .i64 0)]) 16 rfl Tryz.underlying34 info70 rfl (by decide) (by omega) u3 x3_1 (⟨t293, t297⟩ : S70) [.int .i64 t293, .int .i64 t297] (fun _ => True) (fun _ => False) rfl rfl ?aP (fun _ hk => hk.elim) ?aF ?aO (Below.refl _ _) ?aS ?aL ?_; (case aP => exact k70_mkM _ _ _ (⟨t293, t297⟩ : S70)); (case aF => exact (fun _ _ => trivial)); (case aO => exact (kr_ HO_3.out)); (case aS => exact (keep_size (w := w) (g := g) (row := none) (by repeat (first | (with_reducible first | exact HK.out | apply KeepBut.set_ | apply keep_drewN | apply keep_drew | apply keep_alloc) | exact HK.out)))); (case aL => have := LMc13.out; omega); intro v301 w19 ho hb hg hat; rw [← Ny300.out] at ho; have n0_ := Aside0.mk (IsS80.grown (by repeat (first | (with_reducible first | exact HI0.out | apply IsS80.alloc | apply IsS80.drewN | apply IsS80.drew | apply IsS80.set_1 | apply IsS80.set_2) | exact HI0.out)) hg (IsS80.own_ne HI0.out HO_3.out (by decide))); have n1_ := Aside0.mk (Kd.R_over' (kr_ HO296.out) (Kd.R_typed (kr_ HO_3.out)) (by decide) hg); have n2_ := Aside0.mk (below_weaken (by repeat (first | (with_reducible first | exact HB.out | apply below_alloc | apply pw_below_drewN | apply below_drew1 | refine below_set ?_ (IsS80.ge HI0.out)) | exact HB.out)) HL.out hb); have n3_ := Aside0.mk (KeepBut.trans (by repeat (first | (with_reducible first | exact HK.out | apply KeepBut.set_ | apply keep_drewN | apply keep_drew | apply keep_alloc) | exact HK.out)) (KeepBut.of_grown hg g) (Kd.R_base2 HO_3.out)); have n4_ := Aside0.mk (ho); clear HI0; clear HO296; clear HB; clear HK; clear HO_3; have HI0 := n0_; have HO296 := n1_; have HB := n2_; have HK := n3_; have HO302 := n4_; clear n0_ n1_ n2_ n3_ n4_; clear ho hb hg hat))
     go_roundg k1
     case measure => have := HK1.out; omega
     case rel => exact ⟨(y300), (t293), (wrap64 (x5_1 - 1)), (t298), (t299), rs_, rs_, H', ⟨by have := HK1.out; omega⟩, ⟨kr_ HO302.out⟩, ⟨by repeat (first | (with_reducible first | exact HI0.out | apply IsS80.alloc | apply IsS80.drewN | apply IsS80.drew | apply IsS80.set_1 | apply IsS80.set_2) | exact HI0.out)⟩, ⟨by repeat (first | (with_reducible first | exact HK.out | apply KeepBut.set_ | apply keep_drewN | apply keep_drew | apply keep_alloc) | exact HK.out)⟩, ⟨by repeat (first | (with_reducible first | exact HB.out | apply below_alloc | apply pw_below_drewN | apply below_drew1 | refine below_set ?_ (IsS80.ge HI0.out)) | exact HB.out)⟩⟩
    ·rw [if_neg c13] at H
     exact absurd H (by simp)
   ·rw [if_neg c8] at H
    have c8b0 : decide (0 < x5_1) = false := decide_eq_false c8
    clear c8
    simp only [Option.some.injEq, Prod.mk.injEq] at H
    obtain ⟨rfl, rfl, rfl⟩ := H
    go_wp2
    go_ret
    exact ⟨_, re_, kr_ HO_3.out, by repeat (first | (with_reducible first | exact HI0.out | apply IsS80.alloc | apply IsS80.drewN | apply IsS80.drew | apply IsS80.set_1 | apply IsS80.set_2) | exact HI0.out), by repeat (first | (with_reducible first | exact HB.out | apply below_alloc | apply pw_below_drewN | apply below_drew1 | refine below_set ?_ (IsS80.ge HI0.out)) | exact HB.out), by repeat (first | (with_reducible first | exact HK.out | apply KeepBut.set_ | apply keep_drewN | apply keep_drew | apply keep_alloc) | exact HK.out)⟩
end Go.Proofs.YtgklofginkafgaaGreatDoor.PS
end
