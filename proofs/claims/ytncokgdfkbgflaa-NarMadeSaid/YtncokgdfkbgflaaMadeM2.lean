/- Texts of this claim, joined: what the others lean on. -/
import Derived.Test.YtncokgdfkbgflaaProg
import Derived.Below
import Derived.Deep.Draws
import Derived.Deep.AppendLies
import Derived.Maps.AppendAt
import Derived.OwnWalk
import Derived.Laws.BytesArg
import Derived.Laws.MakeOwn
import Derived.Laws.OwnMore
import Derived.Deep.OwnRows
import Derived.Tactics
import Derived.Lib.ConvBytes
import Derived.Laws.Slices
import Derived.WalkKit
import Derived.KernelRfl
import Derived.RowKit3
import Derived.Deep.LoopGhost
import Derived.Deep.QuietTactic
import Derived.BigQuiet
import Derived.WideLaws
import Derived.Deep.DeepCutAuto
import Derived.Deep.CutBlock
import Derived.Deep.RegionHeld3
import Derived.Laws.Rows
import Derived.Lib.AppendStr
import Derived.ArgAppend
import Derived.Laws.IdiomCopy
import Derived.OrdersHeld
import Derived.Laws.BitsLemmas
import Derived.RowKit
import Derived.Laws.Cover1
import Derived.Test.YtncokgdfkbgflaaMadeM1
import Derived.Shelf.Strings.Builder1
import Derived.Shelf.Strings.Builder2
import Derived.Shelf.Small.Utf8
import Derived.Shelf.Small.Bits
import Derived.Shelf.Small.Strs
import Derived.Shelf.Small.Wraps
import Derived.Shelf.Strings.BuilderF
import Derived.Shelf.Strings.BuilderK
import Derived.Shelf.Strings.Builder2Cap
import Derived.Shelf.Strconv.Itoa0
import Derived.Shelf.Strings.Search1
import Derived.Shelf.Strings.Search2
import Derived.Shelf.Strings.Search3
import Derived.Shelf.LaysM
import Derived.Shelf.Strings.Shaped
import Derived.Shelf.Strings.LastIndex
import Derived.Shelf.Strings.Prefix
import Derived.Shelf.Strings.Runes
import Derived.Shelf.Strings.IndexAny
import Derived.Shelf.Strings.AsciiSet
import Derived.Shelf.Strings.IndexAnyAll
import Derived.Shelf.Bits.Mul64
import Derived.Shelf.Strings.Repeat
import Derived.Shelf.Strings.BuilderCap
import Derived.Ground.Names2Prog
import Derived.Shelf.Slices.SearchI
import Derived.Lib.DecodeN
import Derived.Laws.RangeString
import Derived.Laws.Runes
import Derived.Deep.RegionWith
import Derived.RegionTactic
import Derived.ChangeAlike
import Derived.Outline
import Derived.Lib.Strings
import Derived.Lib.Builder
import Derived.Lib.UnsafeStr
import Derived.Lib.OthersKept
import Derived.Laws.Externs
import Derived.RangeFuncNested
import Derived.RangeFuncBound
import Derived.RangeFuncCalls
import Derived.RangeFuncLeaves
import Derived.Shelf.Abstract
import Derived.Shelf.RegionOpen
import Derived.OwnWalkIn
import Derived.TacticsInMore
import Derived.LoopNIn
import Derived.LoopIn
import Derived.RangeFuncFrom
set_option linter.unusedVariables false
set_option linter.unusedSimpArgs false
namespace Go.Proofs.Ytncokgdfkbgflaa.P
open Go.RowKit Go.Proofs.YtncokgdfkbgflaaW.PrintWords Go.Proofs.YtncokgdfkbgflaaW.PrintLast Go.Proofs.YtncokgdfkbgflaaW.PrintMore
attribute [local go_sem] max2_int min2_int max_two min_two max_three min_three max_four min_four   -- for this text's walks alone
set_option linter.unusedVariables false
set_option linter.unusedSimpArgs false
def errW : Option Int → Value
  | none => .nilIface
  | some c => .iface 0 (.int .i64 c)
theorem errW_none : errW none = .nilIface := rfl
theorem errW_some (c : Int) : errW (some c) = .iface 0 (.int .i64 c) := rfl
theorem info5 : (Try.prog.info? 5).map (fun i => (i.zero, i.size, i.bytes)) = some (some (.int .u8 0), 1, 1) := by kernel_rfl
theorem info37 : (Try.prog.info? 37).map (fun i => (i.zero, i.size, i.bytes)) = some (some (.agg #[(.string ⟨#[]⟩), (.int .i64 0), (.string ⟨#[]⟩)]), 3, 40) := by kernel_rfl
theorem info74 : (Try.prog.info? 74).map (fun i => (i.zero, i.size, i.bytes)) = some (some (.agg #[(.string ⟨#[]⟩), (.string ⟨#[]⟩)]), 2, 32) := by kernel_rfl
structure S37 where
  f0 : ByteArray
  f1 : Int
  f2 : ByteArray
def z37 : S37 := ⟨(⟨#[]⟩ : ByteArray), (0 : Int), (⟨#[]⟩ : ByteArray)⟩
def k37 : Kd S37 := Kd.iso (Kd.pair Kd.string (Kd.pair (Kd.int .i64) Kd.string)) (fun x : S37 => (x.f0, x.f1, x.f2))
theorem k37_open {w : World} {x : S37} {cs : List Value} (h : k37.K w x cs) : cs = [.string x.f0, .int .i64 x.f1, .string x.f2] := by
  obtain ⟨_, _, rfl, rfl, ⟨_, _, rfl, rfl, rfl⟩⟩ := h
  exact rfl
theorem k37_openM {w : World} {base : Nat} {ok : Nat → Prop} {x : S37} {cs : List Value} (h : k37.M w base ok x cs) : cs = [.string x.f0, .int .i64 x.f1, .string x.f2] := by
  obtain ⟨_, _, rfl, rfl, ⟨_, _, rfl, rfl, rfl⟩⟩ := h
  exact rfl
theorem k37_mk (w : World) (x : S37)  : k37.K w x [.string x.f0, .int .i64 x.f1, .string x.f2] := ⟨[.string x.f0], [.int .i64 x.f1, .string x.f2], rfl, rfl, ⟨[.int .i64 x.f1], [.string x.f2], rfl, rfl, rfl⟩⟩
theorem k37_mkM (w : World) (base : Nat) (ok : Nat → Prop) (x : S37)  : k37.M w base ok x [.string x.f0, .int .i64 x.f1, .string x.f2] := ⟨[.string x.f0], [.int .i64 x.f1, .string x.f2], rfl, rfl, ⟨[.int .i64 x.f1], [.string x.f2], rfl, rfl, rfl⟩⟩
def rd_T37 (xs : List S37) (i : Int) : S37 := xs.getD i.toNat z37
theorem at_T37 {w : World} {A : Option Addr} {n : Nat} {xs : List S37} (h : Kd.C k37 w A n xs) (i : Int) (h0 : 0 ≤ i) (h1 : i < n) : ∃ ad , A = some ad ∧ w.cell? (ad.add (i.toNat * 3)) = some (.string (rd_T37 xs i).f0) ∧ w.cell? ⟨(ad.add (i.toNat * 3)).block, (ad.add (i.toNat * 3)).off + 1, none⟩ = some (.int .i64 (rd_T37 xs i).f1) ∧ w.cell? ⟨(ad.add (i.toNat * 3)).block, (ad.add (i.toNat * 3)).off + 2, none⟩ = some (.string (rd_T37 xs i).f2) := by
  obtain ⟨ad, c, e, _, hK, hc0⟩ := Kd.C_get h z37 i h0 h1
  have hc : ∀ j u, c[j]? = some u → w.cell? (ad.add (i.toNat * 3 + j)) = some u := hc0
  obtain rfl := k37_open hK
  exact ⟨ad, e, hc 0 _ rfl, by rw [← add_field _ _ 1 (by omega)]; exact hc 1 _ rfl, by rw [← add_field _ _ 2 (by omega)]; exact hc 2 _ rfl⟩
def rd_L3 (xs : List (List S37)) (i : Int) : (List S37) := xs.getD i.toNat ([] : List S37)
structure S74 where
  f0 : ByteArray
  f1 : ByteArray
def z74 : S74 := ⟨(⟨#[]⟩ : ByteArray), (⟨#[]⟩ : ByteArray)⟩
def k74 : Kd S74 := Kd.iso (Kd.pair Kd.string Kd.string) (fun x : S74 => (x.f0, x.f1))
theorem k74_open {w : World} {x : S74} {cs : List Value} (h : k74.K w x cs) : cs = [.string x.f0, .string x.f1] := by
  obtain ⟨_, _, rfl, rfl, rfl⟩ := h
  exact rfl
theorem k74_openM {w : World} {base : Nat} {ok : Nat → Prop} {x : S74} {cs : List Value} (h : k74.M w base ok x cs) : cs = [.string x.f0, .string x.f1] := by
  obtain ⟨_, _, rfl, rfl, rfl⟩ := h
  exact rfl
theorem k74_mkM (w : World) (base : Nat) (ok : Nat → Prop) (x : S74)  : k74.M w base ok x [.string x.f0, .string x.f1] := ⟨[.string x.f0], [.string x.f1], rfl, rfl, rfl⟩
def rd_T74 (xs : List S74) (i : Int) : S74 := xs.getD i.toNat z74
theorem at_T74 {w : World} {A : Option Addr} {n : Nat} {xs : List S74} (h : Kd.C k74 w A n xs) (i : Int) (h0 : 0 ≤ i) (h1 : i < n) : ∃ ad , A = some ad ∧ w.cell? (ad.add (i.toNat * 2)) = some (.string (rd_T74 xs i).f0) ∧ w.cell? ⟨(ad.add (i.toNat * 2)).block, (ad.add (i.toNat * 2)).off + 1, none⟩ = some (.string (rd_T74 xs i).f1) := by
  obtain ⟨ad, c, e, _, hK, hc0⟩ := Kd.C_get h z74 i h0 h1
  have hc : ∀ j u, c[j]? = some u → w.cell? (ad.add (i.toNat * 2 + j)) = some u := hc0
  obtain rfl := k74_open hK
  exact ⟨ad, e, hc 0 _ rfl, by rw [← add_field _ _ 1 (by omega)]; exact hc 1 _ rfl⟩
def rd_L6 (xs : List (List S74)) (i : Int) : (List S74) := xs.getD i.toNat ([] : List S74)
end Go.Proofs.Ytncokgdfkbgflaa.P

namespace Go.Proofs
open Go.Shelf
def Try.lays170_ren : Go.Shelf.Ren := ⟨fun | 170 => 73 | n => n, fun | 70 => 62 | 3 => 3 | 0 => 0 | 72 => 64 | 37 => 22 | 5 => 5 | n => n, fun | n => n⟩
def Try.lays169_ren : Go.Shelf.Ren := ⟨fun | 169 => 40 | n => n, fun | 70 => 62 | 9 => 9 | 0 => 0 | 72 => 64 | 37 => 22 | 127 => 105 | 3 => 3 | 5 => 5 | n => n, fun | n => n⟩
def Try.lays241_ren : Go.Shelf.Ren := ⟨fun | 241 => 88 | 277 => 113 | n => n, fun | 70 => 62 | 3 => 3 | 0 => 0 | 72 => 64 | 37 => 22 | 5 => 5 | n => n, fun | n => n⟩
def Try.lays165_ren : Go.Shelf.Ren := ⟨fun | 165 => 72 | 240 => 81 | 241 => 88 | 276 => 111 | 277 => 113 | n => n, fun | 70 => 62 | 3 => 3 | 0 => 0 | 4 => 4 | 9 => 9 | 20 => 20 | 72 => 64 | 37 => 22 | 164 => 148 | 5 => 5 | n => n, fun | n => n⟩
def Try.lays119_ren : Go.Shelf.Ren := ⟨fun | 119 => 115 | n => n, fun | 21 => 21 | 4 => 4 | n => n, fun | n => n⟩
theorem Try.lays119 : Go.Proofs.Lays.n119 Try.prog Try.lays119_ren := {
  mixed := by kernel_rfl
  f119 := Try.func115.trans (congrArg some (by kernel_rfl))
  t4 := Try.underlying4
  a4 := Try.isAgg4
  z4 := Try.sizeOf4
  v4 := Try.zeroValue4
  t21 := Try.underlying21
  a21 := Try.isAgg21
  z21 := Try.sizeOf21
  v21 := Try.zeroValue21 }
theorem Try.utf8_ValidRune (r : Int) (w : World) :
    Calls Try.prog 115 #[.int .i32 r] w fun e w' => e = .returned (.bool (Lib.validRune r)) ∧ w' = w := Any.utf8_ValidRune Try.lays119 r w
def Try.lays128_ren : Go.Shelf.Ren := ⟨fun | 128 => 105 | n => n, fun | 51 => 121 | 3 => 3 | 4 => 4 | 46 => 111 | 5 => 5 | 9 => 9 | n => n, fun | n => n⟩
def Try.lays125_ren : Go.Shelf.Ren := ⟨fun | 125 => 79 | 128 => 105 | 129 => 106 | n => n, fun | 46 => 111 | 3 => 3 | 51 => 121 | 53 => 88 | 4 => 4 | 5 => 5 | 9 => 9 | n => n, fun | n => n⟩
def Try.lays137_ren : Go.Shelf.Ren := ⟨fun | 137 => 114 | 217 => 107 | 266 => 123 | n => n, fun | 9 => 9 | 5 => 5 | 3 => 3 | n => n, fun | n => n⟩
theorem Try.lays137 : Go.Proofs.Lays.n137 Try.prog Try.lays137_ren := {
  mixed := by kernel_rfl
  f137 := Try.func114.trans (congrArg some (by kernel_rfl))
  f217 := Try.func107.trans (congrArg some (by kernel_rfl))
  f266 := Try.func123.trans (congrArg some (by kernel_rfl))
  t3 := Try.underlying3
  a3 := Try.isAgg3
  z3 := Try.sizeOf3
  v3 := Try.zeroValue3
  t5 := Try.underlying5
  a5 := Try.isAgg5
  z5 := Try.sizeOf5
  v5 := Try.zeroValue5
  t9 := Try.underlying9
  a9 := Try.isAgg9
  z9 := Try.sizeOf9
  v9 := Try.zeroValue9 }
open Go.RowKit in
theorem Try.strings_IndexByte (s : ByteArray) (c : Int) (w : World) :
    Calls Try.prog 114 #[.string s, .int .u8 c] w fun e w' => e = .returned (.int .i64 (Lib.indexByte s.data.toList c.toNat.toUInt8)) ∧ w' = w := Any.strings_IndexByte Try.lays137 s c w
def Try.lays210_ren : Go.Shelf.Ren := ⟨fun | 210 => 112 | 206 => 87 | n => n, fun | 9 => 9 | 4 => 4 | 3 => 3 | n => n, fun | n => n⟩
def Try.lays103_ren : Go.Shelf.Ren := ⟨fun | 103 => 83 | 210 => 112 | 206 => 87 | n => n, fun | 9 => 9 | 4 => 4 | 24 => 115 | 3 => 3 | n => n, fun | n => n⟩
theorem Try.lays103 : Go.Proofs.Lays.n103 Try.prog Try.lays103_ren := {
  mixed := by kernel_rfl
  f103 := Try.func83.trans (congrArg some (by kernel_rfl))
  f206 := Try.func87.trans (congrArg some (by kernel_rfl))
  f210 := Try.func112.trans (congrArg some (by kernel_rfl))
  t3 := Try.underlying3
  a3 := Try.isAgg3
  z3 := Try.sizeOf3
  v3 := Try.zeroValue3
  t4 := Try.underlying4
  a4 := Try.isAgg4
  z4 := Try.sizeOf4
  v4 := Try.zeroValue4
  t9 := Try.underlying9
  a9 := Try.isAgg9
  z9 := Try.sizeOf9
  v9 := Try.zeroValue9
  t24 := Try.underlying115
  a24 := Try.isAgg115
  z24 := Try.sizeOf115
  v24 := Try.zeroValue115 }
open Go.RowKit in
theorem Try.strings_CutPrefix (s p : ByteArray) (w : World) :
    Calls Try.prog 83 #[.string s, .string p] w fun e w' => e = .returned (.tuple #[.string ⟨(Lib.trimPrefix s.data.toList p.data.toList).toArray⟩, .bool (Lib.hasPrefix s.data.toList p.data.toList)]) ∧ w' = w := Any.strings_CutPrefix Try.lays103 s p w
def Try.lays215_ren : Go.Shelf.Ren := ⟨fun | 215 => 122 | n => n, fun | 3 => 3 | 4 => 4 | n => n, fun | n => n⟩
def Try.lays129_ren : Go.Shelf.Ren := ⟨fun | 129 => 106 | n => n, fun | 53 => 88 | 3 => 3 | 4 => 4 | 46 => 111 | 5 => 5 | 9 => 9 | n => n, fun | n => n⟩
def Try.lays217_ren : Go.Shelf.Ren := ⟨fun | 217 => 107 | 266 => 123 | n => n, fun | 9 => 9 | 5 => 5 | 3 => 3 | n => n, fun | n => n⟩
def Try.lays224_ren : Go.Shelf.Ren := ⟨fun | 224 => 109 | n => n, fun | 3 => 3 | n => n, fun | n => n⟩
def Try.lays314_ren : Go.Shelf.Ren := ⟨fun | 314 => 124 | n => n, fun | 9 => 9 | 51 => 121 | 3 => 3 | 4 => 4 | 5 => 5 | 46 => 111 | n => n, fun | n => n⟩
def Try.lays267_ren : Go.Shelf.Ren := ⟨fun | 267 => 110 | 314 => 124 | n => n, fun | 9 => 9 | 3 => 3 | 146 => 122 | 51 => 121 | 4 => 4 | 5 => 5 | 46 => 111 | n => n, fun | n => n⟩
def Try.lays219_ren : Go.Shelf.Ren := ⟨fun | 219 => 80 | 217 => 107 | 225 => 108 | 224 => 109 | 267 => 110 | 266 => 123 | 314 => 124 | n => n, fun | 9 => 9 | 3 => 3 | 4 => 4 | 5 => 5 | 46 => 111 | 146 => 122 | 51 => 121 | n => n, fun | 1 => 0 | n => n⟩
def Try.lays143_ren : Go.Shelf.Ren := ⟨fun | 143 => 60 | 219 => 80 | 217 => 107 | 225 => 108 | 224 => 109 | 267 => 110 | 266 => 123 | 314 => 124 | n => n, fun | 9 => 9 | 3 => 3 | 4 => 4 | 5 => 5 | 46 => 111 | 146 => 122 | 51 => 121 | n => n, fun | 1 => 0 | n => n⟩
def Try.lays144_ren : Go.Shelf.Ren := ⟨fun | 144 => 65 | 143 => 60 | 219 => 80 | 217 => 107 | 225 => 108 | 224 => 109 | 267 => 110 | 266 => 123 | 314 => 124 | n => n, fun | 9 => 9 | 4 => 4 | 3 => 3 | 5 => 5 | 46 => 111 | 146 => 122 | 51 => 121 | n => n, fun | 1 => 0 | n => n⟩
theorem Try.lays144 : Go.Proofs.Lays.n144 Try.prog Try.lays144_ren := {
  mixed := by kernel_rfl
  f143 := Try.func60.trans (congrArg some (by kernel_rfl))
  f144 := Try.func65.trans (congrArg some (by kernel_rfl))
  f217 := Try.func107.trans (congrArg some (by kernel_rfl))
  f219 := Try.func80.trans (congrArg some (by kernel_rfl))
  f224 := Try.func109.trans (congrArg some (by kernel_rfl))
  f225 := Try.func108.trans (congrArg some (by kernel_rfl))
  f266 := Try.func123.trans (congrArg some (by kernel_rfl))
  f267 := Try.func110.trans (congrArg some (by kernel_rfl))
  f314 := Try.func124.trans (congrArg some (by kernel_rfl))
  t3 := Try.underlying3
  a3 := Try.isAgg3
  z3 := Try.sizeOf3
  v3 := Try.zeroValue3
  t4 := Try.underlying4
  a4 := Try.isAgg4
  z4 := Try.sizeOf4
  v4 := Try.zeroValue4
  t5 := Try.underlying5
  a5 := Try.isAgg5
  z5 := Try.sizeOf5
  v5 := Try.zeroValue5
  t9 := Try.underlying9
  a9 := Try.isAgg9
  z9 := Try.sizeOf9
  v9 := Try.zeroValue9
  t46 := Try.underlying111
  a46 := Try.isAgg111
  z46 := Try.sizeOf111
  v46 := Try.zeroValue111
  t51 := Try.underlying121
  a51 := Try.isAgg121
  z51 := Try.sizeOf121
  v51 := Try.zeroValue121
  t146 := Try.underlying122
  a146 := Try.isAgg122
  z146 := Try.sizeOf122
  v146 := Try.zeroValue122
  g1 := by kernel_rfl }
open Go.RowKit Go.Lib in
theorem Try.strings_Contains_one (s : ByteArray) (c : UInt8) (w : World) :
    Calls Try.prog 65 #[.string s, .string ⟨#[c]⟩] w fun e w' => e = .returned (.bool (decide (0 ≤ Lib.indexByte s.data.toList c))) ∧ w' = w := Any.strings_Contains_one Try.lays144 s c w
open Go.RowKit Go.Lib in
theorem Try.strings_Contains (s sub : ByteArray) (m : Int) (w : World) (hs : s.size < 4294967281) (hm : w.cell? ⟨0, 0, none⟩ = some (.int .i64 m)) :
    Calls Try.prog 65 #[.string s, .string sub] w fun e w' => e = .returned (.bool (Lib.contains s.data.toList sub.data.toList)) ∧ w' = w := Any.strings_Contains Try.lays144 s sub m w hs hm
def Try.laysM219_ren : Go.Shelf.Ren := ⟨fun | 219 => 80 | 217 => 107 | 225 => 108 | 224 => 109 | 267 => 110 | 266 => 123 | 314 => 124 | n => n, fun | 9 => 9 | 3 => 3 | 4 => 4 | 5 => 5 | 46 => 111 | 146 => 122 | 51 => 121 | n => n, fun | 1 => 0 | n => n⟩
def Try.laysM143_ren : Go.Shelf.Ren := ⟨fun | 143 => 60 | 219 => 80 | 217 => 107 | 225 => 108 | 224 => 109 | 267 => 110 | 266 => 123 | 314 => 124 | n => n, fun | 9 => 9 | 3 => 3 | 4 => 4 | 5 => 5 | 46 => 111 | 146 => 122 | 51 => 121 | n => n, fun | 1 => 0 | n => n⟩
def Try.laysM144_ren : Go.Shelf.Ren := ⟨fun | 144 => 65 | 143 => 60 | 219 => 80 | 217 => 107 | 225 => 108 | 224 => 109 | 267 => 110 | 266 => 123 | 314 => 124 | n => n, fun | 9 => 9 | 4 => 4 | 3 => 3 | 5 => 5 | 46 => 111 | 146 => 122 | 51 => 121 | n => n, fun | 1 => 0 | n => n⟩
def Try.lays222_ren : Go.Shelf.Ren := ⟨fun | 222 => 84 | n => n, fun | 9 => 9 | 5 => 5 | 3 => 3 | 4 => 4 | n => n, fun | n => n⟩
def Try.lays149_ren : Go.Shelf.Ren := ⟨fun | 149 => 66 | 222 => 84 | n => n, fun | 9 => 9 | 5 => 5 | 3 => 3 | 4 => 4 | n => n, fun | n => n⟩
theorem Try.lays149 : Go.Proofs.Lays.n149 Try.prog Try.lays149_ren := {
  mixed := by kernel_rfl
  f149 := Try.func66.trans (congrArg some (by kernel_rfl))
  f222 := Try.func84.trans (congrArg some (by kernel_rfl))
  t3 := Try.underlying3
  a3 := Try.isAgg3
  z3 := Try.sizeOf3
  v3 := Try.zeroValue3
  t4 := Try.underlying4
  a4 := Try.isAgg4
  z4 := Try.sizeOf4
  v4 := Try.zeroValue4
  t5 := Try.underlying5
  a5 := Try.isAgg5
  z5 := Try.sizeOf5
  v5 := Try.zeroValue5
  t9 := Try.underlying9
  a9 := Try.isAgg9
  z9 := Try.sizeOf9
  v9 := Try.zeroValue9 }
open Go.RowKit Go.Lib in
theorem Try.strings_LastIndexByte (s : ByteArray) (c : Int) (hs : s.size < 4611686018427387904) (w : World) :
    Calls Try.prog 66 #[.string s, .int .u8 c] w fun e w' => e = .returned (.int .i64 (Lib.lastIndexByte s c)) ∧ w' = w := Any.strings_LastIndexByte Try.lays149 s c hs w
def Try.lays206_ren : Go.Shelf.Ren := ⟨fun | 206 => 87 | n => n, fun | 9 => 9 | 4 => 4 | 3 => 3 | n => n, fun | n => n⟩
def Try.lays99_ren : Go.Shelf.Ren := ⟨fun | 99 => 71 | 206 => 87 | n => n, fun | 9 => 9 | 4 => 4 | 3 => 3 | n => n, fun | n => n⟩
def Try.lays152_ren : Go.Shelf.Ren := ⟨fun | 152 => 89 | 137 => 114 | 119 => 115 | 224 => 109 | 225 => 108 | 217 => 107 | 266 => 123 | n => n, fun | 9 => 9 | 21 => 21 | 3 => 3 | 4 => 4 | 5 => 5 | 0 => 0 | 46 => 111 | n => n, fun | n => n⟩
theorem Try.lays152 : Go.Proofs.Lays.n152 Try.prog Try.lays152_ren := {
  mixed := by kernel_rfl
  f119 := Try.func115.trans (congrArg some (by kernel_rfl))
  f137 := Try.func114.trans (congrArg some (by kernel_rfl))
  f152 := Try.func89.trans (congrArg some (by kernel_rfl))
  f217 := Try.func107.trans (congrArg some (by kernel_rfl))
  f224 := Try.func109.trans (congrArg some (by kernel_rfl))
  f225 := Try.func108.trans (congrArg some (by kernel_rfl))
  f266 := Try.func123.trans (congrArg some (by kernel_rfl))
  t0 := Try.underlying0
  a0 := Try.isAgg0
  z0 := Try.sizeOf0
  v0 := Try.zeroValue0
  t3 := Try.underlying3
  a3 := Try.isAgg3
  z3 := Try.sizeOf3
  v3 := Try.zeroValue3
  t4 := Try.underlying4
  a4 := Try.isAgg4
  z4 := Try.sizeOf4
  v4 := Try.zeroValue4
  t5 := Try.underlying5
  a5 := Try.isAgg5
  z5 := Try.sizeOf5
  v5 := Try.zeroValue5
  t9 := Try.underlying9
  a9 := Try.isAgg9
  z9 := Try.sizeOf9
  v9 := Try.zeroValue9
  t21 := Try.underlying21
  a21 := Try.isAgg21
  z21 := Try.sizeOf21
  v21 := Try.zeroValue21
  t46 := Try.underlying111
  a46 := Try.isAgg111
  z46 := Try.sizeOf111
  v46 := Try.zeroValue111 }
open Go.RowKit Go.Lib in
theorem Try.strings_IndexRune_ascii (s : ByteArray) (r : Int) (w : World) (h0 : 0 ≤ r) (h1 : r < 128) :
    Calls Try.prog 89 #[.string s, .int .i32 r] w fun e w' => e = .returned (.int .i64 (Lib.indexByte s.data.toList r.toNat.toUInt8)) ∧ w' = w := Any.strings_IndexRune_ascii Try.lays152 s r w h0 h1
def Try.lays226_ren : Go.Shelf.Ren := ⟨fun | 226 => 90 | n => n, fun | 3 => 3 | 4 => 4 | n => n, fun | n => n⟩
theorem Try.lays226 : Go.Proofs.Lays.n226 Try.prog Try.lays226_ren := {
  mixed := by kernel_rfl
  f226 := Try.func90.trans (congrArg some (by kernel_rfl))
  t3 := Try.underlying3
  a3 := Try.isAgg3
  z3 := Try.sizeOf3
  v3 := Try.zeroValue3
  t4 := Try.underlying4
  a4 := Try.isAgg4
  z4 := Try.sizeOf4
  v4 := Try.zeroValue4 }
open Go.RowKit Go.Lib in
theorem Try.strings_shouldUseASCIISet (n : Int) (w : World) :
    Calls Try.prog 90 #[.int .i64 n] w fun e w' => e = .returned (.bool (decide (8 < n))) ∧ w' = w := Any.strings_shouldUseASCIISet Try.lays226 n w
def Try.lays153_ren : Go.Shelf.Ren := ⟨fun | 153 => 74 | 152 => 89 | 226 => 90 | 227 => 91 | 228 => 92 | 137 => 114 | 119 => 115 | 224 => 109 | 225 => 108 | 217 => 107 | 266 => 123 | n => n, fun | 9 => 9 | 3 => 3 | 4 => 4 | 5 => 5 | 21 => 21 | 117 => 130 | 116 => 129 | 0 => 0 | 46 => 111 | 124 => 152 | n => n, fun | n => n⟩
theorem Try.lays153 : Go.Proofs.Lays.n153 Try.prog Try.lays153_ren := {
  mixed := by kernel_rfl
  f119 := Try.func115.trans (congrArg some (by kernel_rfl))
  f137 := Try.func114.trans (congrArg some (by kernel_rfl))
  f152 := Try.func89.trans (congrArg some (by kernel_rfl))
  f153 := Try.func74.trans (congrArg some (by kernel_rfl))
  f217 := Try.func107.trans (congrArg some (by kernel_rfl))
  f224 := Try.func109.trans (congrArg some (by kernel_rfl))
  f225 := Try.func108.trans (congrArg some (by kernel_rfl))
  f226 := Try.func90.trans (congrArg some (by kernel_rfl))
  f227 := Try.func91.trans (congrArg some (by kernel_rfl))
  f228 := Try.func92.trans (congrArg some (by kernel_rfl))
  f266 := Try.func123.trans (congrArg some (by kernel_rfl))
  t0 := Try.underlying0
  a0 := Try.isAgg0
  z0 := Try.sizeOf0
  v0 := Try.zeroValue0
  t3 := Try.underlying3
  a3 := Try.isAgg3
  z3 := Try.sizeOf3
  v3 := Try.zeroValue3
  t4 := Try.underlying4
  a4 := Try.isAgg4
  z4 := Try.sizeOf4
  v4 := Try.zeroValue4
  t5 := Try.underlying5
  a5 := Try.isAgg5
  z5 := Try.sizeOf5
  v5 := Try.zeroValue5
  t9 := Try.underlying9
  a9 := Try.isAgg9
  z9 := Try.sizeOf9
  v9 := Try.zeroValue9
  t21 := Try.underlying21
  a21 := Try.isAgg21
  z21 := Try.sizeOf21
  v21 := Try.zeroValue21
  t46 := Try.underlying111
  a46 := Try.isAgg111
  z46 := Try.sizeOf111
  v46 := Try.zeroValue111
  t116 := Try.underlying129
  a116 := Try.isAgg129
  z116 := Try.sizeOf129
  t117 := Try.underlying130
  a117 := Try.isAgg130
  z117 := Try.sizeOf130
  v117 := Try.zeroValue130
  t124 := Try.underlying152
  a124 := Try.isAgg152
  z124 := Try.sizeOf152
  v124 := Try.zeroValue152 }
def Try.lays227_ren : Go.Shelf.Ren := ⟨fun | 227 => 91 | n => n, fun | 9 => 9 | 116 => 129 | 4 => 4 | 0 => 0 | 3 => 3 | 5 => 5 | n => n, fun | n => n⟩
def Try.lays228_ren : Go.Shelf.Ren := ⟨fun | 228 => 92 | n => n, fun | 124 => 152 | 5 => 5 | 4 => 4 | 0 => 0 | 116 => 129 | n => n, fun | n => n⟩
open Go.RowKit Go.Lib in
theorem Try.strings_IndexAny_long (hv116 : ∀ w, (zeroValue 129).run Try.prog w = .ok (.agg (Array.replicate 256 (.bool false))) w) (s chars : ByteArray) (w : World) (h2 : 2 ≤ chars.size) (h8 : 8 < s.size) (hs : s.size < 4294967281) (hcs : chars.size < 4294967281) (hascii : ∀ (j : Nat) b, chars.data.toList[j]? = some b → b.toNat < 128) :
    Calls Try.prog 74 #[.string s, .string chars] w fun e w' => e = .returned (.int .i64 (Lib.indexAny s.data.toList chars.data.toList)) ∧ w' = ((w.alloc (.cells (Lib.setCells chars.data.toList) 129)).alloc (.cells (Lib.setCells chars.data.toList) 129)) := Any.strings_IndexAny_long Try.lays153 hv116 (by kernel_rfl) s chars w h2 h8 hs hcs hascii
def Try.lays150_ren : Go.Shelf.Ren := ⟨fun | 150 => 52 | 153 => 74 | 152 => 89 | 226 => 90 | 227 => 91 | 228 => 92 | 137 => 114 | 119 => 115 | 224 => 109 | 225 => 108 | 217 => 107 | 266 => 123 | n => n, fun | 9 => 9 | 4 => 4 | 3 => 3 | 5 => 5 | 21 => 21 | 117 => 130 | 116 => 129 | 0 => 0 | 46 => 111 | 124 => 152 | n => n, fun | n => n⟩
theorem Try.lays150 : Go.Proofs.Lays.n150 Try.prog Try.lays150_ren := {
  mixed := by kernel_rfl
  f119 := Try.func115.trans (congrArg some (by kernel_rfl))
  f137 := Try.func114.trans (congrArg some (by kernel_rfl))
  f150 := Try.func52.trans (congrArg some (by kernel_rfl))
  f152 := Try.func89.trans (congrArg some (by kernel_rfl))
  f153 := Try.func74.trans (congrArg some (by kernel_rfl))
  f217 := Try.func107.trans (congrArg some (by kernel_rfl))
  f224 := Try.func109.trans (congrArg some (by kernel_rfl))
  f225 := Try.func108.trans (congrArg some (by kernel_rfl))
  f226 := Try.func90.trans (congrArg some (by kernel_rfl))
  f227 := Try.func91.trans (congrArg some (by kernel_rfl))
  f228 := Try.func92.trans (congrArg some (by kernel_rfl))
  f266 := Try.func123.trans (congrArg some (by kernel_rfl))
  t0 := Try.underlying0
  a0 := Try.isAgg0
  z0 := Try.sizeOf0
  v0 := Try.zeroValue0
  t3 := Try.underlying3
  a3 := Try.isAgg3
  z3 := Try.sizeOf3
  v3 := Try.zeroValue3
  t4 := Try.underlying4
  a4 := Try.isAgg4
  z4 := Try.sizeOf4
  v4 := Try.zeroValue4
  t5 := Try.underlying5
  a5 := Try.isAgg5
  z5 := Try.sizeOf5
  v5 := Try.zeroValue5
  t9 := Try.underlying9
  a9 := Try.isAgg9
  z9 := Try.sizeOf9
  v9 := Try.zeroValue9
  t21 := Try.underlying21
  a21 := Try.isAgg21
  z21 := Try.sizeOf21
  v21 := Try.zeroValue21
  t46 := Try.underlying111
  a46 := Try.isAgg111
  z46 := Try.sizeOf111
  v46 := Try.zeroValue111
  t116 := Try.underlying129
  a116 := Try.isAgg129
  z116 := Try.sizeOf129
  t117 := Try.underlying130
  a117 := Try.isAgg130
  z117 := Try.sizeOf130
  v117 := Try.zeroValue130
  t124 := Try.underlying152
  a124 := Try.isAgg152
  z124 := Try.sizeOf152
  v124 := Try.zeroValue152 }
open Go.RowKit Go.Lib in
theorem Try.strings_ContainsAny (hv116 : ∀ w, (zeroValue 129).run Try.prog w = .ok (.agg (Array.replicate 256 (.bool false))) w) (s chars : ByteArray) (w : World) (hs : s.size < 4294967281) (hcs : chars.size < 4294967281) (has : ∀ (j : Nat) b, s.data.toList[j]? = some b → b.toNat < 128) (hac : ∀ (j : Nat) b, chars.data.toList[j]? = some b → b.toNat < 128) :
    Calls Try.prog 52 #[.string s, .string chars] w fun e w' => e = .returned (.bool (Lib.containsAny s.data.toList chars.data.toList)) ∧ Below w.heap.size w w' := Any.strings_ContainsAny Try.lays150 hv116 (by kernel_rfl) s chars w hs hcs has hac
def Try.lays264_ren : Go.Shelf.Ren := ⟨fun | 264 => 86 | n => n, fun | 53 => 88 | 46 => 111 | n => n, fun | n => n⟩
def Try.lays212_ren : Go.Shelf.Ren := ⟨fun | 212 => 70 | 263 => 85 | 264 => 86 | n => n, fun | 46 => 111 | 51 => 121 | 146 => 122 | 53 => 88 | 148 => 124 | n => n, fun | n => n⟩
def Try.lays105_ren : Go.Shelf.Ren := ⟨fun | 105 => 47 | 212 => 70 | 99 => 71 | 165 => 72 | 166 => 62 | 170 => 73 | 169 => 40 | 263 => 85 | 264 => 86 | 206 => 87 | 240 => 81 | 241 => 88 | 276 => 111 | 277 => 113 | n => n, fun | 9 => 9 | 3 => 3 | 4 => 4 | 20 => 20 | 0 => 0 | 46 => 111 | 109 => 112 | 5 => 5 | 72 => 64 | 76 => 100 | 51 => 121 | 146 => 122 | 53 => 88 | 148 => 124 | 70 => 62 | 37 => 22 | 75 => 99 | 127 => 105 | 164 => 148 | 80 => 69 | n => n, fun | n => n⟩
theorem Try.lays105 : Go.Proofs.Lays.n105 Try.prog Try.lays105_ren := {
  mixed := by kernel_rfl
  f99 := Try.func71.trans (congrArg some (by kernel_rfl))
  f105 := Try.func47.trans (congrArg some (by kernel_rfl))
  f165 := Try.func72.trans (congrArg some (by kernel_rfl))
  f166 := Try.func62.trans (congrArg some (by kernel_rfl))
  f169 := Try.func40.trans (congrArg some (by kernel_rfl))
  f170 := Try.func73.trans (congrArg some (by kernel_rfl))
  f206 := Try.func87.trans (congrArg some (by kernel_rfl))
  f212 := Try.func70.trans (congrArg some (by kernel_rfl))
  f240 := Try.func81.trans (congrArg some (by kernel_rfl))
  f241 := Try.func88.trans (congrArg some (by kernel_rfl))
  f263 := Try.func85.trans (congrArg some (by kernel_rfl))
  f264 := Try.func86.trans (congrArg some (by kernel_rfl))
  f276 := Try.func111.trans (congrArg some (by kernel_rfl))
  f277 := Try.func113.trans (congrArg some (by kernel_rfl))
  t0 := Try.underlying0
  a0 := Try.isAgg0
  z0 := Try.sizeOf0
  v0 := Try.zeroValue0
  t3 := Try.underlying3
  a3 := Try.isAgg3
  z3 := Try.sizeOf3
  v3 := Try.zeroValue3
  t4 := Try.underlying4
  a4 := Try.isAgg4
  z4 := Try.sizeOf4
  v4 := Try.zeroValue4
  t5 := Try.underlying5
  a5 := Try.isAgg5
  z5 := Try.sizeOf5
  v5 := Try.zeroValue5
  t9 := Try.underlying9
  a9 := Try.isAgg9
  z9 := Try.sizeOf9
  v9 := Try.zeroValue9
  t20 := Try.underlying20
  a20 := Try.isAgg20
  z20 := Try.sizeOf20
  v20 := Try.zeroValue20
  t37 := Try.underlying22
  a37 := Try.isAgg22
  z37 := Try.sizeOf22
  v37 := Try.zeroValue22
  t46 := Try.underlying111
  a46 := Try.isAgg111
  z46 := Try.sizeOf111
  v46 := Try.zeroValue111
  t51 := Try.underlying121
  a51 := Try.isAgg121
  z51 := Try.sizeOf121
  v51 := Try.zeroValue121
  t53 := Try.underlying88
  a53 := Try.isAgg88
  z53 := Try.sizeOf88
  v53 := Try.zeroValue88
  t70 := Try.underlying62
  a70 := Try.isAgg62
  z70 := Try.sizeOf62
  v70 := Try.zeroValue62
  t72 := Try.underlying64
  a72 := Try.isAgg64
  z72 := Try.sizeOf64
  v72 := Try.zeroValue64
  t75 := Try.underlying99
  a75 := Try.isAgg99
  z75 := Try.sizeOf99
  v75 := Try.zeroValue99
  t76 := Try.underlying100
  a76 := Try.isAgg100
  z76 := Try.sizeOf100
  v76 := Try.zeroValue100
  t109 := Try.underlying112
  a109 := Try.isAgg112
  z109 := Try.sizeOf112
  v109 := Try.zeroValue112
  t127 := Try.underlying105
  a127 := Try.isAgg105
  z127 := Try.sizeOf105
  v127 := Try.zeroValue105
  t146 := Try.underlying122
  a146 := Try.isAgg122
  z146 := Try.sizeOf122
  v146 := Try.zeroValue122
  t148 := Try.underlying124
  a148 := Try.isAgg124
  z148 := Try.sizeOf124
  v148 := Try.zeroValue124
  t164 := Try.underlying148
  a164 := Try.isAgg148
  z164 := Try.sizeOf148
  v164 := Try.zeroValue148 }
theorem Try.Builder_Extra_105 : Builder.Extra Try.prog Try.lays105_ren := {
  sizeBuilder := by kernel_rfl
  liesBuilder := by kernel_rfl
  t5 := Try.underlying5
  a5 := Try.isAgg5
  z5 := Try.sizeOf5
  v5 := Try.zeroValue5
  infoByte := by kernel_rfl
  cellsByte := by kernel_rfl
  sizeByte := by kernel_rfl
  neB5 := by decide }
open Go.RowKit Go.Lib in
theorem Try.strings_Repeat (s : ByteArray) (c : Nat) (w : World) (hc : c ≤ 9223372036854775807) (hlen : s.size * c ≤ 140737488355328) :
    Calls Try.prog 47 #[.string s, .int .i64 c] w fun e w' => e = .returned (.string ⟨(Lib.repeatL s.data.toList c).toArray⟩) ∧ Below w.heap.size w w' := Any.strings_Repeat Try.lays105 Try.Builder_Extra_105 s c w hc hlen
def Try.laysNm237_ren : Go.Shelf.Ren := ⟨fun | 37 => 122 | n => n, fun | 3 => 3 | 4 => 4 | n => n, fun | n => n⟩
def Try.laysNm231_ren : Go.Shelf.Ren := ⟨fun | 31 => 102 | 37 => 122 | n => n, fun | 3 => 3 | 4 => 4 | n => n, fun | n => n⟩
end Go.Proofs

namespace Go.Proofs.Ytncokgdfkbgflaa
open Go.RowKit Go.Shelf Go.Lib Go.Proofs.YtncokgdfkbgflaaW.PrintWords
set_option linter.unusedVariables false
set_option linter.unusedSimpArgs false
abbrev seps : ByteArray := ⟨#[0, 47]⟩
theorem decode_high (s : ByteArray) (i : Nat) (hi : i < s.size) (hb : 128 ≤ (s.get! i).toNat) :
    ∃ c n, Utf8.decode s i = (c, n) ∧ 128 ≤ c ∧ c ≤ 1114111 ∧ (c < 55296 ∨ 57343 < c) ∧ 1 ≤ n ∧ i + n ≤ s.size ∧ ∀ j, j < n → 128 ≤ (s.get! (i + j)).toNat := by
  rw [Lib.decode_at]
  have h0 := (s.get! i).toNat_lt
  have h1 := (s.get! (i + 1)).toNat_lt
  have h2 := (s.get! (i + 2)).toNat_lt
  have h3 := (s.get! (i + 3)).toNat_lt
  generalize e0 : (s.get! i).toNat = b0 at *
  generalize e1 : (s.get! (i + 1)).toNat = b1 at *
  generalize e2 : (s.get! (i + 2)).toNat = b2 at *
  generalize e3 : (s.get! (i + 3)).toNat = b3 at *
  have f1 : ∀ j, j < 1 → 128 ≤ (s.get! (i + j)).toNat := by
    intro j hj
    obtain rfl : j = 0 := by omega
    rw [Nat.add_zero, e0]; exact hb
  have f2 : 128 ≤ b1 → ∀ j, j < 2 → 128 ≤ (s.get! (i + j)).toNat := by
    intro hb1 j hj
    rcases (show j = 0 ∨ j = 1 by omega) with rfl | rfl
    · rw [Nat.add_zero, e0]; exact hb
    · rw [e1]; exact hb1
  have f3 : 128 ≤ b1 → 128 ≤ b2 → ∀ j, j < 3 → 128 ≤ (s.get! (i + j)).toNat := by
    intro hb1 hb2 j hj
    rcases (show j = 0 ∨ j = 1 ∨ j = 2 by omega) with rfl | rfl | rfl
    · rw [Nat.add_zero, e0]; exact hb
    · rw [e1]; exact hb1
    · rw [e2]; exact hb2
  have f4 : 128 ≤ b1 → 128 ≤ b2 → 128 ≤ b3 → ∀ j, j < 4 → 128 ≤ (s.get! (i + j)).toNat := by
    intro hb1 hb2 hb3 j hj
    rcases (show j = 0 ∨ j = 1 ∨ j = 2 ∨ j = 3 by omega) with rfl | rfl | rfl | rfl
    · rw [Nat.add_zero, e0]; exact hb
    · rw [e1]; exact hb1
    · rw [e2]; exact hb2
    · rw [e3]; exact hb3
  have hn : s.size - i + i = s.size := by omega
  generalize s.size - i = n at *
  unfold Lib.decodeN
  have bad : ∃ c m, ((65533, 1) : Nat × Nat) = (c, m) ∧ 128 ≤ c ∧ c ≤ 1114111 ∧ (c < 55296 ∨ 57343 < c) ∧ 1 ≤ m ∧ i + m ≤ s.size ∧ ∀ j, j < m → 128 ≤ (s.get! (i + j)).toNat := ⟨65533, 1, rfl, by decide, by decide, .inr (by decide), by decide, by omega, f1⟩
  rw [if_neg (by omega)]
  split
  · rename_i g
    split
    · exact ⟨_, 2, rfl, by omega, by omega, by omega, by decide, by omega, f2 (by omega)⟩
    · exact bad
  · split
    · rename_i g
      split
      · rename_i g2
        exact ⟨_, 3, rfl, by omega, by omega, by omega, by decide, by omega, f3 (by omega) (by omega)⟩
      · exact bad
    · split
      · rename_i g
        split
        · rename_i g2
          exact ⟨_, 4, rfl, by omega, by omega, by omega, by decide, by omega, f4 (by omega) (by omega) (by omega)⟩
        · exact bad
      · exact bad
set_option maxHeartbeats 2000000 in
set_option maxRecDepth 100000 in
theorem indexRune_err (w : World) : Calls Try.prog 89 #[.string seps, .int .i32 65533] w fun e w' => e = .returned (.int .i64 (-1)) ∧ Below w.heap.size w w' := by
  have hb : ∀ p, Below w.heap.size w (w.iter seps p) := fun p => (Below.refl _ _).alloc (Nat.le_refl _) _
  have HB := Aside0.mk hb
  clear hb
  go_enter Try.func89, Try.ntmps89
  go_wp2
  go_loopg [5, 6] 2 (fun g _ _ wx => ∃ i : Nat, i + g = 2 ∧ wx = w.iter seps i)
  case atStart => exact ⟨0, rfl, rfl⟩
  case round =>
    obtain ⟨i, hig, rfl⟩ := hrel
    cases gk with
    | zero =>
      obtain rfl : i = 2 := by omega
      have hnx := fun ty => run_next_end (P := Try.prog) w seps 2 ty (by decide)
      go_wp2
      go_ret
      exact ⟨rfl, HB.out 2⟩
    | succ g =>
      rcases (show i = 0 ∨ i = 1 by omega) with rfl | rfl
      · have hnx := fun ty => run_next_ascii (P := Try.prog) w seps 0 ty (by decide) (by decide)
        have e : (seps[0]'(by decide)).toNat = 0 := by decide
        rw [e] at hnx
        go_wp2
        go_roundg g
        case measure => omega
        case rel => exact ⟨1, by omega, rfl⟩
      · have hnx := fun ty => run_next_ascii (P := Try.prog) w seps 1 ty (by decide) (by decide)
        have e : (seps[1]'(by decide)).toNat = 47 := by decide
        rw [e] at hnx
        go_wp2
        go_roundg g
        case measure => omega
        case rel => exact ⟨2, by omega, rfl⟩
theorem encode_two (c : Int) (h0 : 128 ≤ c) (h1 : c < 2048) : ∃ a b : UInt8, Utf8.encode c = ⟨#[a, b]⟩ ∧ 128 ≤ b.toNat := by
  have hv : Utf8.valid c = true := by unfold Utf8.valid; simp; omega
  refine ⟨UInt8.ofNat (192 + c.toNat / 64), UInt8.ofNat (128 + c.toNat % 64), ?_, ?_⟩
  · unfold Utf8.encode
    simp only [hv, if_true]
    rw [if_neg (by omega), if_pos (by omega)]
  · simp; omega
theorem encode_more (c : Int) (h0 : 2048 ≤ c) : 2 < (Utf8.encode c).size := by
  unfold Utf8.encode
  simp only
  split
  · rename_i hv
    rw [if_neg (by omega), if_neg (by omega)]
    split <;> (simp [ByteArray.size])
  · rw [if_neg (by decide), if_neg (by decide), if_pos (by decide)]
    simp [ByteArray.size]
set_option maxHeartbeats 2000000 in
set_option maxRecDepth 100000 in
theorem indexRune_two (c : Int) (w : World) (h0 : 128 ≤ c) (h1 : c < 2048) : Calls Try.prog 89 #[.string seps, .int .i32 c] w fun e w' => e = .returned (.int .i64 (-1)) ∧ Below w.heap.size w w' := by
  obtain ⟨a, b, he, hb⟩ := encode_two c h0 h1
  have hv : Lib.validRune c = true := by unfold Lib.validRune; simp; omega
  have t1 : decide (c < 128) = false := decide_eq_false (by omega)
  have t2 : (c == 65533) = false := beq_eq_false_iff_ne.2 (by omega)
  have t3 : decide (0 ≤ c) = true := decide_eq_true (by omega)
  have t4 : ¬ c = 65533 := by omega
  have t5 : ¬ c < 128 := by omega
  have hne : (47 : Int) ≠ (b.toNat : Int) := by omega
  have hneb : ((47 : Int) != (b.toNat : Int)) = true := bne_iff_ne.2 hne
  go_enter Try.func89, Try.ntmps89
  go_wp2_with (first | (go_at_call 115; refine (Try.utf8_ValidRune c _).mono ?_; rintro e w' ⟨rfl, hw⟩; rw [hw, hv]) | (go_at_call 114; refine (Try.strings_IndexByte _ _ _).mono ?_; rintro e w' ⟨rfl, hw⟩; rw [hw]))
  go_step3
  go_wp2
  go_loopg [9, 10] 0 (fun g s9 _ wx => s9 = .int .i64 1 ∧ wx = w)
  case atStart => exact ⟨rfl, by first | rfl | assumption⟩
  case round =>
    obtain ⟨rfl, rfl⟩ := hrel
    go_wp2
    go_step3
    go_wp2
    have hq : ((((seps[1]'(by decide)).toNat : Nat) : Int) != ((((⟨#[a, b]⟩ : ByteArray)[1]'(by show 1 < 2; decide)).toNat : Nat) : Int)) = true := hneb
    have hi : ∀ x, Lib.indexByte [] x = -1 := fun _ => rfl
    go_region
    all_goals go_wp2
    all_goals go_region_with (go_at_call 114; refine (Try.strings_IndexByte _ _ _).mono ?_; rintro e w' ⟨rfl, hw⟩; rw [hw])
    all_goals go_wp2
    all_goals rw [Exit.noGoto_ret]
    all_goals go_wp2
    all_goals rw [Exit.noGoto_ret]
    all_goals go_ret
    all_goals exact ⟨rfl, below_drew (below_drew (Below.refl _ _))⟩
set_option maxHeartbeats 2000000 in
set_option maxRecDepth 100000 in
theorem indexRune_more (c : Int) (w : World) (h0 : 2048 ≤ c) (h1 : c ≤ 1114111) (hs : c < 55296 ∨ 57343 < c) (hne : c ≠ 65533) : Calls Try.prog 89 #[.string seps, .int .i32 c] w fun e w' => e = .returned (.int .i64 (-1)) ∧ Below w.heap.size w w' := by
  have he := encode_more c h0
  have hv : Lib.validRune c = true := by unfold Lib.validRune; simp; omega
  have t1 : decide (c < 128) = false := decide_eq_false (by omega)
  have t2 : (c == 65533) = false := beq_eq_false_iff_ne.2 (by omega)
  have t3 : decide (0 ≤ c) = true := decide_eq_true (by omega)
  have t4 : ¬ c = 65533 := by omega
  have t5 : ¬ c < 128 := by omega
  have hz : (Utf8.encode c).size ≤ 4 := by
    unfold Utf8.encode
    simp only
    repeat' split
    all_goals (simp [ByteArray.size])
  have t6 : wrap64 (((Utf8.encode c).size : Int) - 1) = ((Utf8.encode c).size : Int) - 1 := by unfold wrap64; omega
  have t7 : decide (((Utf8.encode c).size : Int) - 1 < 2) = false := decide_eq_false (by omega)
  have t8 : ¬ (((Utf8.encode c).size : Int) - 1 < 2) := by omega
  go_enter Try.func89, Try.ntmps89
  go_wp2_with (first | (go_at_call 115; refine (Try.utf8_ValidRune c _).mono ?_; rintro e w' ⟨rfl, hw⟩; rw [hw, hv]) | (go_at_call 114; refine (Try.strings_IndexByte _ _ _).mono ?_; rintro e w' ⟨rfl, hw⟩; rw [hw]))
  go_step3
  go_wp2
  go_loopg [9, 10] 0 (fun g s9 _ wx => s9 = .int .i64 (((Utf8.encode c).size : Int) - 1) ∧ wx = w)
  case atStart => exact ⟨by first | rfl | rw [t6] | (congr 1), by first | rfl | assumption⟩
  case round =>
    obtain ⟨rfl, rfl⟩ := hrel
    go_wp2
    rw [Exit.noGoto_ret]
    go_ret
    exact ⟨rfl, Below.refl _ _⟩
end Go.Proofs.Ytncokgdfkbgflaa

namespace Go.Proofs.Ytncokgdfkbgflaa
open Go.RowKit Go.Shelf Go.Lib Go.Proofs.YtncokgdfkbgflaaW.PrintWords
set_option linter.unusedVariables false
set_option linter.unusedSimpArgs false
def setBlk (W : World) (b : Nat) (o : Obj) : World := { W with heap := W.heap.setIfInBounds b o }
theorem below_setBlk {B b : Nat} {a W : World} (h : Below B a W) (hb : B ≤ b) (o : Obj) : Below B a (setBlk W b o) :=
  h.trans ⟨rfl, rfl, rfl, by simp [setBlk], fun k hk => by simp only [setBlk]; rw [Array.getElem?_setIfInBounds_ne (by omega)]⟩
theorem setBlk_at {W : World} {b : Nat} {o : Obj} (o' : Obj) (h : W.heap[b]? = some o) : (setBlk W b o').heap[b]? = some o' := by
  have hlt : b < W.heap.size := by
    rcases Nat.lt_or_ge b W.heap.size with h2 | h2
    · exact h2
    · rw [Array.getElem?_eq_none h2] at h; cases h
  simp [setBlk, hlt]
theorem run_next_at {P : Program} (W : World) (b : Nat) (s : ByteArray) (pos : Nat) (ty : TypeId) (hb : W.heap[b]? = some (.stringIter s pos)) (h : pos < s.size) (c n : Nat) (hd : Utf8.decode s pos = (c, n)) :
    (Instr.next (.pointer (some ⟨b, 0, none⟩)) true ty).run P W = .ok (.tuple #[.bool true, .int .i64 pos, .int .i32 c]) (setBlk W b (.stringIter s (pos + n))) := by
  simp only [Instr.next, getObj, setObj, Sem.run_bind, Sem.run, hb, Result.andThen, h, if_true, hd, setBlk]
  simp [goInt, Sem.run, hb, setBlk]
theorem run_next_over {P : Program} (W : World) (b : Nat) (s : ByteArray) (pos : Nat) (ty : TypeId) (hb : W.heap[b]? = some (.stringIter s pos)) (h : ¬ pos < s.size) :
    (Instr.next (.pointer (some ⟨b, 0, none⟩)) true ty).run P W = .ok (.tuple #[.bool false]) W := by
  simp [Instr.next, getObj, Sem.run, hb, h]
theorem get_bang (s : ByteArray) (i : Nat) (h : i < s.size) : s.get! i = s[i]'h := by
  simp [ByteArray.get!, getElem!_pos, h]
  rfl
theorem list_get (s : ByteArray) (i : Nat) (h : i < s.size) : s.data.toList[i]? = some (s.get! i) := by
  rw [get_bang s i h]; exact Lib.data_getElem? s i h
theorem noAny_add {s : ByteArray} {chars : List UInt8} {i n : Nat} (h : Lib.NoAny s.data.toList chars i) (hn : i + n ≤ s.size) (hh : ∀ j, j < n → chars.contains (s.get! (i + j)) = false) : Lib.NoAny s.data.toList chars (i + n) := by
  intro j b hj hb
  by_cases e : j < i
  · exact h j b e hb
  · have h1 := list_get s j (by omega)
    rw [h1] at hb
    cases hb
    have := hh (j - i) (by omega)
    rw [show i + (j - i) = j by omega] at this
    exact this
theorem high_no (b : UInt8) (h : 128 ≤ b.toNat) : ([0, 47] : List UInt8).contains b = false := by
  cases hc : ([0, 47] : List UInt8).contains b with
  | false => rfl
  | true =>
    have : b = 0 ∨ b = 47 := by simpa using hc
    rcases this with rfl | rfl
    · exact absurd h (by decide)
    · exact absurd h (by decide)
theorem indexRune_high (c : Int) (w : World) (h0 : 128 ≤ c) (h1 : c ≤ 1114111) (hs : c < 55296 ∨ 57343 < c) : Calls Try.prog 89 #[.string seps, .int .i32 c] w fun e w' => e = .returned (.int .i64 (-1)) ∧ Below w.heap.size w w' := by
  by_cases h2 : c < 2048
  · exact indexRune_two c w h0 h2
  · by_cases h3 : c = 65533
    · subst h3; exact indexRune_err w
    · exact indexRune_more c w (by omega) h1 hs h3
set_option maxHeartbeats 8000000 in
set_option maxRecDepth 1000000 in
theorem indexAny_short (s : ByteArray) (w : World) (h8 : s.size ≤ 8) :
    Calls Try.prog 74 #[.string s, .string seps] w fun e w' => e = .returned (.int .i64 (Lib.indexAny s.data.toList [0, 47])) ∧ Below w.heap.size w w' := by
  have h8z : decide ((8 : Int) < (s.size : Int)) = false := decide_eq_false (by omega)
  have hb0 : Below w.heap.size w (w.iter s 0) := (Below.refl _ _).alloc (Nat.le_refl _) _
  have HB0 := Aside0.mk hb0
  clear hb0
  go_enter Try.func74, Try.ntmps74
  go_wp2_with (go_at_call 90; refine (Any.strings_shouldUseASCIISet { Try.lays153 with } _ _).mono ?_; rintro e w' ⟨rfl, hw⟩; rw [hw, h8z])
  go_loopg [9, 10] s.size (fun g _ _ wx => ∃ i : Nat, i + g = s.size ∧ Aside0 (wx.heap[w.heap.size]? = some (.stringIter s i)) ∧ Aside0 (Below w.heap.size w wx) ∧ Aside0 (Lib.NoAny s.data.toList [0, 47] i))
  case atStart => exact ⟨0, by omega, ⟨World.iter_heap _ _ _⟩, HB0, ⟨Lib.NoAny.zero _ _⟩⟩
  case round =>
    obtain ⟨i, hig, HI, HB, HN⟩ := hrel
    cases gk with
    | zero =>
      obtain rfl : i = s.size := by omega
      have hnx := fun ty => run_next_over (P := Try.prog) wr w.heap.size s s.size ty HI.out (by omega)
      go_wp2
      go_ret
      exact ⟨by rw [Lib.indexAny_none (by rw [← Lib.size_eq]; exact HN.out)]; rfl, HB.out⟩
    | succ g =>
      have hi : i < s.size := by omega
      have hl := list_get s i hi
      by_cases hx : (s.get! i).toNat < 128
      · have hd : Utf8.decode s i = ((s.get! i).toNat, 1) := by
          rw [get_bang s i hi] at hx ⊢
          exact decode_ascii s i hi hx
        have hnx := fun ty => run_next_at (P := Try.prog) wr w.heap.size s i ty HI.out hi _ _ hd
        have HI2 := Aside0.mk (setBlk_at (.stringIter s (i + 1)) HI.out)
        have HB2 := Aside0.mk (below_setBlk HB.out (Nat.le_refl _) (.stringIter s (i + 1)))
        obtain ⟨x, hxe⟩ : ∃ x, x = s.get! i := ⟨_, rfl⟩
        rw [← hxe] at hnx hl hx
        have HX := Aside0.mk hl
        have HXE := Aside0.mk hxe
        clear hl hd hxe
        have hback : ((x.toNat : Int)).toNat.toUInt8 = x := by simp
        have hcon := Lib.contains_iff_indexByte ([0, 47] : List UInt8) x
        generalize setBlk wr w.heap.size (.stringIter s (i + 1)) = w3 at hnx HI2 HB2
        cases hin : ([0, 47] : List UInt8).contains x
        · rw [hin] at hcon
          have hlt : ¬ ((0 : Int) ≤ Lib.indexByte [0, 47] x) := of_decide_eq_false hcon.symm
          clear hcon
          go_wp2_with (go_at_call 89; refine (Try.strings_IndexRune_ascii seps _ _ (by omega) (by omega)).mono ?_; rintro e w' ⟨rfl, hw⟩; rw [hw, hback])
          go_roundg g
          case measure => omega
          case rel => exact ⟨i + 1, by omega, HI2, HB2, ⟨HN.out.succ HX.out hin⟩⟩
        · rw [hin] at hcon
          have hge : (0 : Int) ≤ Lib.indexByte [0, 47] x := of_decide_eq_true hcon.symm
          clear hcon
          go_wp2_with (go_at_call 89; refine (Try.strings_IndexRune_ascii seps _ _ (by omega) (by omega)).mono ?_; rintro e w' ⟨rfl, hw⟩; rw [hw, hback])
          go_ret
          exact ⟨by rw [Lib.indexAny_hit HN.out HX.out hin]; rfl, HB2.out⟩
      · obtain ⟨c, n, hd, c1, c2, c3, n1, n2, hh⟩ := decode_high s i hi (by omega)
        have hnx := fun ty => run_next_at (P := Try.prog) wr w.heap.size s i ty HI.out hi _ _ hd
        have HI2 := Aside0.mk (setBlk_at (.stringIter s (i + n)) HI.out)
        have HB2 := Aside0.mk (below_setBlk HB.out (Nat.le_refl _) (.stringIter s (i + n)))
        have HN2 := Aside0.mk (noAny_add HN.out n2 (fun j hj => high_no _ (hh j hj)))
        clear hd hl hh
        generalize setBlk wr w.heap.size (.stringIter s (i + n)) = w3 at hnx HI2 HB2
        have hsz : w.heap.size < w3.heap.size := by
          have := HI2.out
          rcases Nat.lt_or_ge w.heap.size w3.heap.size with h2 | h2
          · exact h2
          · rw [Array.getElem?_eq_none h2] at this; cases this
        have HR := Aside0.mk (fun W => indexRune_high (c : Int) W (by omega) (by omega) (by omega))
        have HSZ := Aside0.mk hsz
        clear hsz
        go_wp2_with (go_at_call 89; refine (HR.out _).mono ?_)
        rintro e w4 ⟨rfl, hb4⟩
        have HI4 := Aside0.mk ((hb4.block _ HSZ.out).trans HI2.out)
        have HB4 := Aside0.mk (HB2.out.trans (hb4.mono (Nat.le_of_lt HSZ.out)))
        clear hb4
        go_wp2
        go_roundg (s.size - (i + n))
        case measure => omega
        case rel => exact ⟨i + n, by omega, HI4, HB4, HN2⟩
end Go.Proofs.Ytncokgdfkbgflaa

namespace Go.Proofs.Ytncokgdfkbgflaa
open Go.RowKit Go.Proofs.YtncokgdfkbgflaaW.PrintWords
def hasSep (l : List UInt8) : Bool := l.any fun c => c == 0 || c == 47
def hasZero (l : List UInt8) : Bool := l.any fun c => c == 0
theorem indexAny_sep' : ∀ l : List UInt8, 0 ≤ Lib.indexAny l [0, 47] ↔ hasSep l = true
  | [] => by simp [Lib.indexAny, hasSep]
  | b :: l => by
    have ih := indexAny_sep' l
    have hg := Lib.indexAny_ge [0, 47] l
    have e : Lib.indexAny (b :: l) [0, 47] = if ([0, 47] : List UInt8).contains b then 0 else if Lib.indexAny l [0, 47] == -1 then -1 else Lib.indexAny l [0, 47] + 1 := rfl
    have e2 : hasSep (b :: l) = ((b == 0 || b == 47) || hasSep l) := rfl
    rw [e, e2]
    by_cases h : (([0, 47] : List UInt8).contains b) = true
    · rw [if_pos h]
      have : (b == 0 || b == 47) = true := by simpa using h
      rw [this]; simp
    · rw [if_neg h]
      have h2 : (b == 0 || b == 47) = false := by
        rw [Bool.eq_false_iff]; intro h3; apply h; simpa using h3
      rw [h2, Bool.false_or, ← ih]
      by_cases h4 : (Lib.indexAny l [0, 47] == -1) = true
      · rw [if_pos h4]
        have : Lib.indexAny l [0, 47] = -1 := by simpa using h4
        omega
      · rw [if_neg h4]
        have : Lib.indexAny l [0, 47] ≠ -1 := by simpa using h4
        omega
theorem indexAny_sep (l : List UInt8) : decide (0 ≤ Lib.indexAny l [0, 47]) = hasSep l := by
  rw [Bool.eq_iff_iff]; simp only [decide_eq_true_eq]; exact indexAny_sep' l
theorem indexByte_zero' : ∀ l : List UInt8, 0 ≤ Lib.indexByte l 0 ↔ (l.any fun c => c == 0) = true
  | [] => by simp [Lib.indexByte]
  | b :: l => by
    have ih := indexByte_zero' l
    have hg := Lib.indexByte_ge l 0
    have e : Lib.indexByte (b :: l) 0 = if b == 0 then 0 else if Lib.indexByte l 0 == -1 then -1 else Lib.indexByte l 0 + 1 := rfl
    have e2 : ((b :: l).any fun c => c == 0) = ((b == 0) || (l.any fun c => c == 0)) := rfl
    rw [e, e2]
    by_cases h : (b == 0) = true
    · rw [if_pos h, h]; simp
    · rw [if_neg h]
      have h2 : (b == 0) = false := by rw [Bool.eq_false_iff]; exact h
      rw [h2, Bool.false_or, ← ih]
      by_cases h4 : (Lib.indexByte l 0 == -1) = true
      · rw [if_pos h4]
        have : Lib.indexByte l 0 = -1 := by simpa using h4
        omega
      · rw [if_neg h4]
        have : Lib.indexByte l 0 ≠ -1 := by simpa using h4
        omega
theorem indexByte_zero (l : List UInt8) : decide (0 ≤ Lib.indexByte l 0) = l.any fun c => c == 0 := by
  rw [Bool.eq_iff_iff]; simp only [decide_eq_true_eq]; exact indexByte_zero' l
def strings_ContainsAny.f (a0 a1 : ByteArray) : Option Bool := if a1 = ⟨#[0, 47]⟩ ∧ a0.size < 4294967281 then some (hasSep a0.data.toList) else none
theorem sep_ascii : ∀ (j : Nat) (b : UInt8), (⟨#[0, 47]⟩ : ByteArray).data.toList[j]? = some b → b.toNat < 128 := by
  intro j b h
  match j, h with
  | 0, h => simp at h; subst h; decide
  | 1, h => simp at h; subst h; decide
  | j + 2, h => simp at h
theorem zero129 : ∀ w, (zeroValue 129).run Try.prog w = .ok (.agg (Array.replicate 256 (.bool false))) w := fun w => by kernel_rfl
theorem strings_ContainsAny.calls (a0 a1 : ByteArray) (r : Bool) (w : World) (h : strings_ContainsAny.f a0 a1 = some r) :
    Calls Try.prog 52 #[.string a0, .string a1] w fun e w' => e = .returned (.bool r) ∧ Below w.heap.size w w' := by
  unfold strings_ContainsAny.f at h
  split at h
  · rename_i hc
    obtain ⟨rfl, hs⟩ := hc
    obtain rfl := Option.some.inj h
    have hi : Calls Try.prog 74 #[.string a0, .string ⟨#[0, 47]⟩] w fun e w' => e = .returned (.int .i64 (Lib.indexAny a0.data.toList [0, 47])) ∧ Below w.heap.size w w' := by
      by_cases ho : 8 < a0.size
      · refine (Try.strings_IndexAny_long zero129 a0 ⟨#[0, 47]⟩ w (by decide) ho hs (by decide) sep_ascii).mono ?_
        rintro e w' ⟨rfl, rfl⟩
        exact ⟨rfl, ((Below.refl _ w).alloc (Nat.le_refl _) _).alloc (by simp) _⟩
      · exact indexAny_short a0 w (by omega)
    go_enter Try.func52, Try.ntmps52
    go_wp2_with (go_at_call 74; refine hi.mono ?_; rintro e w1 ⟨rfl, hb⟩)
    go_ret
    exact ⟨by rw [← indexAny_sep]; simp, hb⟩
  · cases h
def strings_Contains.f (a0 a1 : ByteArray) : Option Bool := if a1 = ⟨#[0]⟩ then some (hasZero a0.data.toList) else none
theorem strings_Contains.calls (a0 a1 : ByteArray) (r : Bool) (w : World) (h : strings_Contains.f a0 a1 = some r) :
    Calls Try.prog 65 #[.string a0, .string a1] w fun e w' => e = .returned (.bool r) ∧ Drawn0 w w' := by
  unfold strings_Contains.f at h
  split at h
  · rename_i hc
    subst hc
    obtain rfl := Option.some.inj h
    refine (Try.strings_Contains_one a0 0 w).mono ?_
    rintro e w' ⟨rfl, rfl⟩
    exact ⟨by rw [indexByte_zero]; rfl, Drawn0.refl _⟩
  · cases h
def strings_Repeat.f (a0 : ByteArray) (a1 : Int) : Option ByteArray := if 0 ≤ a1 ∧ a1 ≤ 9223372036854775807 ∧ a0.size * a1.toNat ≤ 140737488355328 then some ⟨(Lib.repeatL a0.data.toList a1.toNat).toArray⟩ else none
theorem strings_Repeat.calls (a0 : ByteArray) (a1 : Int) (r : ByteArray) (w : World) (h : strings_Repeat.f a0 a1 = some r) :
    Calls Try.prog 47 #[.string a0, .int .i64 a1] w fun e w' => e = .returned (.string r) ∧ Below w.heap.size w w' := by
  unfold strings_Repeat.f at h
  split at h
  · rename_i hc
    obtain ⟨h0, h1, h2⟩ := hc
    obtain rfl := Option.some.inj h
    obtain ⟨n, rfl⟩ := Int.eq_ofNat_of_zero_le h0
    rw [Int.toNat_natCast] at h2 ⊢
    exact Try.strings_Repeat a0 n w (by omega) h2
  · cases h
end Go.Proofs.Ytncokgdfkbgflaa

namespace Go.Proofs.Ytncokgdfkbgflaa.P
open Go.RowKit Go.Proofs.YtncokgdfkbgflaaW.PrintWords Go.Proofs.YtncokgdfkbgflaaW.PrintLast Go.Proofs.YtncokgdfkbgflaaW.PrintMore
attribute [local go_sem] max2_int min2_int max_two min_two max_three min_three max_four min_four   -- for this text's walks alone
set_option linter.unusedVariables false
set_option linter.unusedSimpArgs false
def shelfmarklaw1_Err.f (a0 : Int) : Option (Int) := some a0
set_option maxHeartbeats 8000000 in
set_option maxRecDepth 100000 in
theorem shelfmarklaw1_Err.calls (a0 : Int) (r : Int) (w : World) (h : shelfmarklaw1_Err.f a0 = some r) :
    Calls Try.prog 15 #[.int .i64 a0] w fun e w' => e = .returned (.int .i64 r) ∧ Drawn0 w w' := by
  have H : (some a0) = some r := h
  clear h
  obtain rfl := Option.some.inj H
  go_enter Try.func15, Try.ntmps15
  go_wp2
  go_ret
  exact ⟨by first | rfl | (simp; done) | (simp [*]; done), by repeat (first | exact Drawn0.refl _ | apply Drawn0.step)⟩
def nar_Word.l0 : Nat → Int → List Int → Int → Int → Option (ByteArray)
  | 0, _, _, _, _ => none
  | k + 1, x0, x3, x9, x10 => if x10 < x9 then (if 0 ≤ (wrap64 (8 * x10)) then (if 0 ≤ x10 then (if x10 < (x3.length : Int) then (nar_Word.l0 k x0 (x3.set (x10 : Int).toNat ((shr .i64 x0 (wrap64 (8 * x10))) % 256)) x9 (wrap64 (x10 + 1))) else (none)) else (none)) else (none)) else (some (strOfNums x3))
def nar_Word.f (k : Nat) (a0 : Int) : Option (ByteArray) := if 8 ≤ 281474976710656 then ((some (List.replicate 8 0 : List Int)).bind fun y101 => (nar_Word.l0 k (mx 0 a0) y101 (y101.length : Int) 0)) else (none)
set_option maxHeartbeats 8000000 in
set_option maxRecDepth 100000 in
theorem nar_Word.calls (k : Nat) (a0 : Int) (r : ByteArray) (w : World) (h : nar_Word.f k a0 = some r) :
    Calls Try.prog 23 #[.int .i64 a0] w fun e w' => e = .returned (.string r) ∧ Below w.heap.size w w' := by
  have HB := Aside0.mk (Below.refl w.heap.size w)
  have H : (if 8 ≤ 281474976710656 then ((some (List.replicate 8 0 : List Int)).bind fun y101 => (nar_Word.l0 k (mx 0 a0) y101 (y101.length : Int) 0)) else (none)) = some r := h
  clear h
  obtain ⟨ji2, hji2⟩ : ∃ j_ : Int, (mx 0 a0) = j_ := ⟨_, rfl⟩
  replace H : (if 8 ≤ 281474976710656 then ((some (List.replicate 8 0 : List Int)).bind fun y101 => (nar_Word.l0 k ji2 y101 (y101.length : Int) 0)) else (none)) = some r := by first | (rw [hji2] at H; exact H) | (simp only [hji2] at H ⊢; exact H)
  (try (have hji2l : 0 ≤ ji2 := by (rw [← hji2]; unfold mx; (repeat' split) <;> omega)))
  (try (have hji2m : 0 ≤ ji2 := by omega))
  have hji2_ : (if 0 < a0 then a0 else 0) = ji2 := hji2
  by_cases c3 : 8 ≤ 281474976710656
  · rw [if_pos c3] at H
    have c3b0 := eq_true c3
    have c3b1 : decide (8 ≤ 281474976710656) = true := decide_eq_true c3
    clear c3
    obtain ⟨y101, hy101⟩ : ∃ y_ : List Int, y_ = (List.replicate 8 0) := ⟨_, rfl⟩
    replace H : (nar_Word.l0 k ji2 y101 (y101.length : Int) 0) = some r := by first | (rw [hy101]; with_reducible exact H) | (have H2_ := (Option.bind_some _ _).symm.trans H; rw [hy101]; with_reducible exact H2_) | (have H2_ := (Option.bind_some _ _).symm.trans H; with_reducible exact H2_) | with_reducible exact H | (rw [hy101]; exact H) | exact H
    have Ny101 := Aside0.mk hy101
    clear hy101
    have H' := Aside0.mk H
    clear H
    go_enter Try.func23, Try.ntmps23
    go_wp2_with (first | ((with_reducible refine gate_dst (N := 7) rfl ?_); refine Kd.R_make (Kd.int .u8) _ 5 rfl (N := 7) rfl 22 _ _ rfl 8 rfl rfl Try.underlying22 (.int .u8 0) 1 info5 rfl (by decide) (by omega) 0 (ok := fun _ => True) (okp := fun _ => True) rfl (fun _ hk => hk) trivial (by omega) (by omega) (Below.refl _ _) (Nat.le_refl _) ?_; intro v102 w4 ho5 hb hg_ hnew_; clear hg_ hnew_; (first | rw [← Ny101.out] at ho5 | (simp only [Int.reduceToNat] at ho5; rw [← Ny101.out] at ho5)); have n0_ := Aside0.mk (Kd.R_lower ho5 (below_size (by repeat (first | (with_reducible first | exact HB.out | apply below_alloc | apply pw_below_drewN | apply below_drew1) | exact HB.out)))); have n1_ := Aside0.mk (below_step (by repeat (first | (with_reducible first | exact HB.out | apply below_alloc | apply pw_below_drewN | apply below_drew1) | exact HB.out)) hb); clear HB; have HO103 := n0_; have HB := n1_; clear n0_ n1_; clear hb ho5; obtain ⟨Ao6, co6, eo6⟩ := Kd.R_slice HO103.out; subst eo6))
    go_loopg [10] k (fun kq v10 w' => ∃ (x3_1 : List Int) (x10_1 : Int), v10 = .int .i64 x10_1 ∧ Aside0 (nar_Word.l0 kq ji2 x3_1 (y101.length : Int) x10_1 = some r) ∧ Aside0 (kq ≤ k) ∧ Aside0 (Kd.R (Kd.int .u8) 5 w' w.heap.size (fun _ => True) (.slice Ao6 y101.length co6) x3_1) ∧ Aside0 (Below w.heap.size w w'))
    case atStart => exact ⟨(y101), (0), (by first | rfl | (simp; done) | (simp [*]; done) | (congr 1; rw [Bool.eq_iff_iff]; simp [bne]; done) | (rw [Bool.eq_iff_iff]; simp [bne]; done)), H', ⟨Nat.le_refl _⟩, ⟨by (with_reducible repeat (first | apply Kd.R_alloc | apply Kd.R_drewN | apply Kd.R_drew)); exact HO103.out⟩, ⟨by repeat (first | (with_reducible first | exact HB.out | apply below_alloc | apply pw_below_drewN | apply below_drew1) | exact HB.out)⟩⟩
    case round =>
      clear H'
      try clear c2
      try clear p2
      try clear c3
      try clear c3b0
      try clear c3b1
      obtain ⟨x3_1, x10_1, rfl, HA, HK1, HO_3, HB⟩ := hrel
      have hl3_1 := (Kd.R_reads' HO_3.out).1
      rw [hl3_1] at HO_3
      (try simp only [hl3_1])
      cases gk with
      | zero => exact absurd HA.out (by simp [nar_Word.l0])
      | succ k1 =>
        have H := HA.out
        clear HA
        simp only [nar_Word.l0] at H
        by_cases c7 : x10_1 < (y101.length : Int)
        · rw [if_pos c7] at H
          have c7b0 : decide (x10_1 < (y101.length : Int)) = true := decide_eq_true c7
          (try (have c7b0_l := c7b0; simp only [hl3_1] at c7b0_l))
          clear c7
          obtain ⟨ji8, hji8⟩ : ∃ j_ : Int, (wrap64 (8 * x10_1)) = j_ := ⟨_, rfl⟩
          replace H : (if 0 ≤ (ji8) then (if 0 ≤ x10_1 then (if x10_1 < (x3_1.length : Int) then (nar_Word.l0 k1 ji2 (x3_1.set (x10_1 : Int).toNat ((shr .i64 ji2 (ji8)) % 256)) (y101.length : Int) (wrap64 (x10_1 + 1))) else (none)) else (none)) else (none)) = some r := by first | (rw [hji8] at H; exact H) | (simp only [hji8] at H ⊢; exact H)
          have hji8w : (IntKind.i64.wrap (8 * x10_1)) = ji8 := (i64_w _).trans hji8
          by_cases c9 : 0 ≤ (ji8)
          · rw [if_pos c9] at H
            have c9b0 := eq_true c9
            have c9b1 : decide (0 ≤ (ji8)) = true := decide_eq_true c9
            clear c9
            obtain ⟨ji10, hji10⟩ : ∃ j_ : Int, (shr .i64 ji2 (ji8)) = j_ := ⟨_, rfl⟩
            replace H : (if 0 ≤ x10_1 then (if x10_1 < (x3_1.length : Int) then (nar_Word.l0 k1 ji2 (x3_1.set (x10_1 : Int).toNat ((ji10) % 256)) (y101.length : Int) (wrap64 (x10_1 + 1))) else (none)) else (none)) = some r := by first | (rw [hji10] at H; exact H) | (simp only [hji10] at H ⊢; exact H)
            have hji10_ : (ji2 / 2 ^ min (ji8).toNat 64) = ji10 := hji10
            have hji10z : (ji8) ≤ 64 → (ji2 / 2 ^ (ji8).toNat) = ji10 := shr_small hji10
            by_cases c11 : 0 ≤ x10_1
            · rw [if_pos c11] at H
              have c11b0 : decide (0 ≤ x10_1) = true := decide_eq_true c11
              clear c11
              by_cases c12 : x10_1 < (x3_1.length : Int)
              · rw [if_pos c12] at H
                have c12b0 : decide (x10_1 < (x3_1.length : Int)) = true := decide_eq_true c12
                (try (have c12b0_l := c12b0; simp only [hl3_1] at c12b0_l))
                clear c12
                obtain ⟨y104, hy104⟩ : ∃ y_ : List Int, y_ = (x3_1.set (x10_1 : Int).toNat ((ji10) % 256)) := ⟨_, rfl⟩
                replace H : (nar_Word.l0 k1 ji2 y104 (y101.length : Int) (wrap64 (x10_1 + 1))) = some r := by first | (rw [hy104]; with_reducible exact H) | (have H2_ := (Option.bind_some _ _).symm.trans H; rw [hy104]; with_reducible exact H2_) | (have H2_ := (Option.bind_some _ _).symm.trans H; with_reducible exact H2_) | with_reducible exact H | (rw [hy104]; exact H) | exact H
                have Ny104 := Aside0.mk hy104
                clear hy104
                have H' := Aside0.mk H
                clear H
                have p13 : 0 ≤ (x10_1 : Int) := of_decide_eq_true (by first | (with_reducible assumption) | assumption)
                have q13 : (x10_1 : Int) < ((x3_1.length : Int) : Int) := of_decide_eq_true (by first | (with_reducible assumption) | assumption)
                obtain ⟨go13, co13, eo13, gb13, gl13, cl13, HG13⟩ := Kd.R_form HO_3.out (by omega)
                (first | cases eo13 | (injection eo13 with ea_ en_ ec_; (first | subst ea_ | (injection ea_ with ea_; subst ea_)); subst ec_; clear en_))
                have GB13 := Aside0.mk gb13
                have GG13 := Aside0.mk HG13
                clear gb13 gl13 HG13
                obtain ⟨hx13_0, hf13_0⟩ := Kd.R_celln 0 HO_3.out (x10_1 : Int) p13 q13
                replace p13 := eq_true p13
                replace q13 := eq_true q13
                have HP14 := Kd.R_putg HO_3.out (x10_1 : Int) ((ji10) % 256)
                go_wp2_with (first | ((with_reducible refine gate_store (t := 5) (p := 20) rfl ?_); refine store_event (t := 5) (p := 20) (v := ?vo_w15) (w1 := (wr.setCell ⟨go13, (x10_1 : Int).toNat, none⟩ (.int .u8 ((ji10) % 256)))) ?hg ?ho ?hn ?hr ?_; (case ho => rfl); (case hg => rfl); (case hn => rfl); (case hr => first | (go_simp; done) | (go_simp; rfl)); intro w15 hw; have hg : wr.grownBy w15 (some go13) := (by rw [hw]; exact HP14.2); have hp_ : Kd.R (Kd.int .u8) 5 w15 w.heap.size (fun _ => True) (.slice (some ⟨go13, 0, none⟩) x3_1.length co6) y104 := (by rw [hw, Ny104.out]; exact HP14.1); clear HP14; have n0_ := Aside0.mk (hp_); have n1_ := Aside0.mk ((by rw [hw]; exact below_set (HB.out) GB13.out : Below w.heap.size w w15)); clear HO_3; clear HB; have HO_3 := n0_; have HB := n1_; clear n0_ n1_; clear hg hw hp_))
                (try simp only [← hl3_1])
                go_roundg k1
                case measure => have := HK1.out; omega
                case rel => exact ⟨(y104), (wrap64 (x10_1 + 1)), (by first | rfl | (simp; done) | (simp [*]; done) | (congr 1; rw [Bool.eq_iff_iff]; simp [bne]; done) | (rw [Bool.eq_iff_iff]; simp [bne]; done)), H', ⟨by have := HK1.out; omega⟩, ⟨by (try simp only [hl3_1]); (with_reducible repeat (first | apply Kd.R_alloc | apply Kd.R_drewN | apply Kd.R_drew)); exact HO_3.out⟩, ⟨by repeat (first | (with_reducible first | exact HB.out | apply below_alloc | apply pw_below_drewN | apply below_drew1) | exact HB.out)⟩⟩
              · rw [if_neg c12] at H
                exact absurd H (by simp)
            · rw [if_neg c11] at H
              exact absurd H (by simp)
          · rw [if_neg c9] at H
            exact absurd H (by simp)
        · rw [if_neg c7] at H
          have c7b0 : decide (x10_1 < (y101.length : Int)) = false := decide_eq_false c7
          (try (have c7b0_l := c7b0; simp only [hl3_1] at c7b0_l))
          clear c7
          obtain rfl := Option.some.inj H
          have hcv16 := own_string (P := Try.prog) Try.underlying22 Try.underlying5 Try.underlying9 (Kd.own_of_R HO_3.out)
          go_wp2
          go_ret
          exact ⟨by first | rfl | (simp [errW_none, errW_some] <;> rfl) | (simp only [← hji2]; first | rfl | (simp [errW_none, errW_some] <;> rfl)) | (simp [*, errW_none, errW_some] <;> rfl), by repeat (first | (with_reducible first | exact HB.out | apply below_alloc | apply pw_below_drewN | apply below_drew1) | exact HB.out)⟩
  · rw [if_neg c3] at H
    exact absurd H (by simp)
def nar_Str.f (k : Nat) (a0 : ByteArray) : Option (ByteArray) := (nar_Word.f k (a0.size : Int)).bind fun t105 => (if t105.size + a0.size ≤ 9223372036854775807 then ((strings_Repeat.f (⟨#[0]⟩ : ByteArray) ((8 - ((a0.size : Int) % 8)) % 8)).bind fun t106 => (if (t105 ++ a0).size + t106.size ≤ 9223372036854775807 then (some ((t105 ++ a0) ++ t106)) else (none))) else (none))
set_option maxHeartbeats 8000000 in
set_option maxRecDepth 100000 in
theorem nar_Str.calls (k : Nat) (a0 : ByteArray) (r : ByteArray) (w : World) (h : nar_Str.f k a0 = some r) :
    Calls Try.prog 18 #[.string a0] w fun e w' => e = .returned (.string r) ∧ Below w.heap.size w w' := by
  have HB := Aside0.mk (Below.refl w.heap.size w)
  have H : ((nar_Word.f k (a0.size : Int)).bind fun t105 => (if t105.size + a0.size ≤ 9223372036854775807 then ((strings_Repeat.f (⟨#[0]⟩ : ByteArray) ((8 - ((a0.size : Int) % 8)) % 8)).bind fun t106 => (if (t105 ++ a0).size + t106.size ≤ 9223372036854775807 then (some ((t105 ++ a0) ++ t106)) else (none))) else (none))) = some r := h
  clear h
  replace H := Option.bind_eq_some_iff.mp H
  obtain ⟨t105, A20, H⟩ := H
  replace H : (if t105.size + a0.size ≤ 9223372036854775807 then ((strings_Repeat.f (⟨#[0]⟩ : ByteArray) ((8 - ((a0.size : Int) % 8)) % 8)).bind fun t106 => (if (t105 ++ a0).size + t106.size ≤ 9223372036854775807 then (some ((t105 ++ a0) ++ t106)) else (none))) else (none)) = some r := H
  have A2 := Aside0.mk A20
  clear A20
  by_cases c3 : t105.size + a0.size ≤ 9223372036854775807
  · rw [if_pos c3] at H
    have c3b0 := eq_true c3
    have c3b1 : decide (t105.size + a0.size ≤ 9223372036854775807) = true := decide_eq_true c3
    try have c3b2 : (9223372036854775807 < t105.size + a0.size) = False := eq_false (Nat.not_lt.2 c3)
    replace H := Option.bind_eq_some_iff.mp H
    obtain ⟨t106, A40, H⟩ := H
    replace H : (if (t105 ++ a0).size + t106.size ≤ 9223372036854775807 then (some ((t105 ++ a0) ++ t106)) else (none)) = some r := H
    have A4 := Aside0.mk A40
    clear A40
    by_cases c5 : (t105 ++ a0).size + t106.size ≤ 9223372036854775807
    · rw [if_pos c5] at H
      have c5b0 := eq_true c5
      have c5b1 : decide ((t105 ++ a0).size + t106.size ≤ 9223372036854775807) = true := decide_eq_true c5
      try have c5b2 : (9223372036854775807 < (t105 ++ a0).size + t106.size) = False := eq_false (Nat.not_lt.2 c5)
      (try (have c5b2_l := c5b2; simp only [ByteArray.size_append] at c5b2_l))
      obtain rfl := Option.some.inj H
      go_enter Try.func18, Try.ntmps18
      go_wp2_with (first | ((with_reducible refine gate_callee (f := 23) rfl ?_); refine goesL_ (some 5) rfl rfl Try.func23 (by kernel_rfl) rfl #[.int .i64 (a0.size : Int)] rfl (by (try simp only [List.map_toArray, List.map_cons, List.map_nil]); first | done | rfl | (simp only [List.length_drop, List.length_take]; rfl)) ?_; (with_reducible refine (nar_Word.calls k (a0.size : Int) t105 _ A2.out).mono ?_); rintro e w6 ⟨rfl, hb⟩; refine ⟨_, rfl, ?_⟩; have n0_ := Aside0.mk (below_step (by repeat (first | (with_reducible first | exact HB.out | apply below_alloc | apply pw_below_drewN | apply below_drew1) | exact HB.out)) hb); clear HB; have HB := n0_; clear n0_; (try clear hb); (try clear hb2); (try clear hk); (try clear hi)) | ((with_reducible refine gate_callee (f := 47) rfl ?_); refine goesL_ (some 13) rfl rfl Try.func47 (by kernel_rfl) rfl #[.string (⟨#[0]⟩ : ByteArray), .int .i64 ((8 - ((a0.size : Int) % 8)) % 8)] rfl (by (try simp only [List.map_toArray, List.map_cons, List.map_nil]); first | done | rfl | (simp only [List.length_drop, List.length_take]; rfl)) ?_; (with_reducible refine (strings_Repeat.calls (⟨#[0]⟩ : ByteArray) ((8 - ((a0.size : Int) % 8)) % 8) t106 _ A4.out).mono ?_); rintro e w7 ⟨rfl, hb⟩; refine ⟨_, rfl, ?_⟩; have n0_ := Aside0.mk (below_step (by repeat (first | (with_reducible first | exact HB.out | apply below_alloc | apply pw_below_drewN | apply below_drew1) | exact HB.out)) hb); clear HB; have HB := n0_; clear n0_; (try clear hb); (try clear hb2); (try clear hk); (try clear hi)))
      go_ret
      exact ⟨by first | rfl | (simp [errW_none, errW_some] <;> rfl) | (simp [*, errW_none, errW_some] <;> rfl), by repeat (first | (with_reducible first | exact HB.out | apply below_alloc | apply pw_below_drewN | apply below_drew1) | exact HB.out)⟩
    · rw [if_neg c5] at H
      exact absurd H (by simp)
  · rw [if_neg c3] at H
    exact absurd H (by simp)
end Go.Proofs.Ytncokgdfkbgflaa.P

namespace Go.Proofs.Ytncokgdfkbgflaa.P
open Go.RowKit Go.Proofs.YtncokgdfkbgflaaW.PrintWords Go.Proofs.YtncokgdfkbgflaaW.PrintLast Go.Proofs.YtncokgdfkbgflaaW.PrintMore
attribute [local go_sem] max2_int min2_int max_two min_two max_three min_three max_four min_four   -- for this text's walks alone
set_option linter.unusedVariables false
set_option linter.unusedSimpArgs false
def nar_MayName.f (a0 : ByteArray) : Option (Bool) := if a0.toList = ([] : List UInt8) then (some false) else (if (a0.size : Int) ≤ 255 then ((strings_ContainsAny.f a0 (⟨#[0, 47]⟩ : ByteArray)).bind fun t178 => (if t178 = true then (some false) else (if a0.toList = ([46] : List UInt8) then (some false) else (some (a0.toList != ([46, 46] : List UInt8)))))) else (some false))
set_option maxHeartbeats 8000000 in
set_option maxRecDepth 100000 in
theorem nar_MayName.calls (a0 : ByteArray) (r : Bool) (w : World) (h : nar_MayName.f a0 = some r) :
    Calls Try.prog 21 #[.string a0] w fun e w' => e = .returned (.bool r) ∧ Below w.heap.size w w' := by
  have HB := Aside0.mk (Below.refl w.heap.size w)
  have H : (if a0.toList = ([] : List UInt8) then (some false) else (if (a0.size : Int) ≤ 255 then ((strings_ContainsAny.f a0 (⟨#[0, 47]⟩ : ByteArray)).bind fun t178 => (if t178 = true then (some false) else (if a0.toList = ([46] : List UInt8) then (some false) else (some (a0.toList != ([46, 46] : List UInt8)))))) else (some false))) = some r := h
  clear h
  by_cases c2 : a0.toList = ([] : List UInt8)
  · rw [if_pos c2] at H
    have c2b0 : (a0.toList == ([] : List UInt8)) = true := beq_iff_eq.mpr c2
    have c2b1 : (a0.toList != ([] : List UInt8)) = false := bne_eq_false_iff_eq.mpr c2
    clear c2
    obtain rfl := Option.some.inj H
    go_enter Try.func21, Try.ntmps21
    go_wp2
    go_ret
    exact ⟨by first | rfl | (simp [errW_none, errW_some] <;> rfl) | (simp [*, errW_none, errW_some] <;> rfl), by repeat (first | (with_reducible first | exact HB.out | apply below_alloc | apply pw_below_drewN | apply below_drew1) | exact HB.out)⟩
  · rw [if_neg c2] at H
    have c2b0 : (a0.toList == ([] : List UInt8)) = false := beq_eq_false_iff_ne.mpr c2
    have c2b1 : (a0.toList != ([] : List UInt8)) = true := bne_iff_ne.mpr c2
    by_cases c3 : (a0.size : Int) ≤ 255
    · rw [if_pos c3] at H
      have c3b0 : decide ((a0.size : Int) ≤ 255) = true := decide_eq_true c3
      have c3b1 : decide (a0.size ≤ 255) = true := decide_eq_true (by omega)
      clear c3
      replace H := Option.bind_eq_some_iff.mp H
      obtain ⟨t178, A40, H⟩ := H
      replace H : (if t178 = true then (some false) else (if a0.toList = ([46] : List UInt8) then (some false) else (some (a0.toList != ([46, 46] : List UInt8))))) = some r := H
      have A4 := Aside0.mk A40
      clear A40
      by_cases c5 : t178 = true
      · subst c5
        have H1 : (some false) = some r := by rw [if_pos rfl] at H; exact H
        clear H
        have H := H1
        clear H1
        obtain rfl := Option.some.inj H
        go_enter Try.func21, Try.ntmps21
        go_wp2_with (first | (go_at_call 52; (with_reducible refine (strings_ContainsAny.calls a0 (⟨#[0, 47]⟩ : ByteArray) true _ A4.out).mono ?_); rintro e w6 ⟨rfl, hb⟩; have n0_ := Aside0.mk (below_step (by repeat (first | (with_reducible first | exact HB.out | apply below_alloc | apply pw_below_drewN | apply below_drew1) | exact HB.out)) hb); clear HB; have HB := n0_; clear n0_; (try clear hb); (try clear hb2); (try clear hk); (try clear hi)))
        go_ret
        exact ⟨by first | rfl | (simp [errW_none, errW_some] <;> rfl) | (simp [*, errW_none, errW_some] <;> rfl), by repeat (first | (with_reducible first | exact HB.out | apply below_alloc | apply pw_below_drewN | apply below_drew1) | exact HB.out)⟩
      · replace c5 := Bool.eq_false_iff.mpr c5
        subst c5
        have H1 : (if a0.toList = ([46] : List UInt8) then (some false) else (some (a0.toList != ([46, 46] : List UInt8)))) = some r := by rw [if_neg (show ¬ (false = true) by decide)] at H; exact H
        clear H
        have H := H1
        clear H1
        by_cases c7 : a0.toList = ([46] : List UInt8)
        · rw [if_pos c7] at H
          have c7b0 : (a0.toList == ([46] : List UInt8)) = true := beq_iff_eq.mpr c7
          have c7b1 : (a0.toList != ([46] : List UInt8)) = false := bne_eq_false_iff_eq.mpr c7
          clear c7
          obtain rfl := Option.some.inj H
          go_enter Try.func21, Try.ntmps21
          go_wp2_with (first | (go_at_call 52; (with_reducible refine (strings_ContainsAny.calls a0 (⟨#[0, 47]⟩ : ByteArray) false _ A4.out).mono ?_); rintro e w8 ⟨rfl, hb⟩; have n0_ := Aside0.mk (below_step (by repeat (first | (with_reducible first | exact HB.out | apply below_alloc | apply pw_below_drewN | apply below_drew1) | exact HB.out)) hb); clear HB; have HB := n0_; clear n0_; (try clear hb); (try clear hb2); (try clear hk); (try clear hi)))
          go_ret
          exact ⟨by first | rfl | (simp [errW_none, errW_some] <;> rfl) | (simp [*, errW_none, errW_some] <;> rfl), by repeat (first | (with_reducible first | exact HB.out | apply below_alloc | apply pw_below_drewN | apply below_drew1) | exact HB.out)⟩
        · rw [if_neg c7] at H
          have c7b0 : (a0.toList == ([46] : List UInt8)) = false := beq_eq_false_iff_ne.mpr c7
          have c7b1 : (a0.toList != ([46] : List UInt8)) = true := bne_iff_ne.mpr c7
          obtain rfl := Option.some.inj H
          go_enter Try.func21, Try.ntmps21
          go_wp2_with (first | (go_at_call 52; (with_reducible refine (strings_ContainsAny.calls a0 (⟨#[0, 47]⟩ : ByteArray) false _ A4.out).mono ?_); rintro e w9 ⟨rfl, hb⟩; have n0_ := Aside0.mk (below_step (by repeat (first | (with_reducible first | exact HB.out | apply below_alloc | apply pw_below_drewN | apply below_drew1) | exact HB.out)) hb); clear HB; have HB := n0_; clear n0_; (try clear hb); (try clear hb2); (try clear hk); (try clear hi)))
          go_ret
          exact ⟨by first | rfl | (simp [errW_none, errW_some] <;> rfl) | (simp [*, errW_none, errW_some] <;> rfl), by repeat (first | (with_reducible first | exact HB.out | apply below_alloc | apply pw_below_drewN | apply below_drew1) | exact HB.out)⟩
    · rw [if_neg c3] at H
      have c3b0 : decide ((a0.size : Int) ≤ 255) = false := decide_eq_false c3
      have c3b1 : decide (a0.size ≤ 255) = false := decide_eq_false (by omega)
      clear c3
      obtain rfl := Option.some.inj H
      go_enter Try.func21, Try.ntmps21
      go_wp2
      go_ret
      exact ⟨by first | rfl | (simp [errW_none, errW_some] <;> rfl) | (simp [*, errW_none, errW_some] <;> rfl), by repeat (first | (with_reducible first | exact HB.out | apply below_alloc | apply pw_below_drewN | apply below_drew1) | exact HB.out)⟩
end Go.Proofs.Ytncokgdfkbgflaa.P

namespace Go.Proofs.Ytncokgdfkbgflaa
open Go.RowKit Go.Proofs.YtncokgdfkbgflaaW.PrintWords P
def okNode (n : S37) : Bool :=
  if n.f1 = 1 ∨ n.f1 = 2 then decide (n.f2.size ≤ 65536)
  else if n.f1 = 3 then (!(n.f2.data.toList == [])) && decide (n.f2.size ≤ 4096) && !(hasZero n.f2.data.toList)
  else if n.f1 = 4 then n.f2.data.toList == []
  else false
def idxOf {α : Type} (p : α → Bool) : List α → Int
  | [] => -1
  | x :: l => if p x then 0 else if idxOf p l = -1 then -1 else idxOf p l + 1
theorem idxOf_ge {α : Type} (p : α → Bool) : ∀ l : List α, -1 ≤ idxOf p l
  | [] => by simp [idxOf]
  | x :: l => by
    have := idxOf_ge p l
    unfold idxOf
    split
    · omega
    · split <;> omega
theorem idxOf_none {α : Type} (p : α → Bool) : ∀ l : List α, (∀ j (h : j < l.length), p l[j] = false) → idxOf p l = -1
  | [], _ => rfl
  | x :: l, h => by
    have h0 := h 0 (by simp)
    have ih := idxOf_none p l (fun j hj => h (j + 1) (by simp; omega))
    simp only [List.getElem_cons_zero] at h0
    unfold idxOf
    rw [if_neg (by simp [h0]), if_pos ih]
theorem idxOf_hit {α : Type} (p : α → Bool) : ∀ (l : List α) (k : Nat) (hk : k < l.length), (∀ j (h : j < k), p (l[j]'(Nat.lt_trans h hk)) = false) → p l[k] = true → idxOf p l = k
  | x :: l, 0, _, _, h => by
    simp only [List.getElem_cons_zero] at h
    unfold idxOf
    rw [if_pos h]; rfl
  | x :: l, k + 1, hk, hb, h => by
    have h0 := hb 0 (by omega)
    simp only [List.getElem_cons_zero] at h0
    have ih := idxOf_hit p l k (by simpa using hk) (fun j hj => by have := hb (j + 1) (by omega); simpa using this) (by simpa using h)
    unfold idxOf
    rw [if_neg (by simp [h0]), ih, if_neg (by omega)]
    omega
theorem idxOf_any {α : Type} (p : α → Bool) : ∀ l : List α, decide (0 ≤ idxOf p l) = l.any p := by
  intro l
  rw [Bool.eq_iff_iff]
  simp only [decide_eq_true_eq]
  induction l with
  | nil => simp [idxOf]
  | cons x l ih =>
    have := idxOf_ge p l
    unfold idxOf
    by_cases h : p x = true
    · simp [h]
    · rw [if_neg h]
      have h' : p x = false := by simpa using h
      rw [List.any_cons, h', Bool.false_or, ← ih]
      split <;> omega
set_option maxHeartbeats 1000000 in
theorem within1_calls (x : S74) (par : ByteArray) (b : Nat) (w : World) (hb : w.cell? ⟨b, 0, none⟩ = some (.string par)) :
    Calls Try.prog 68 #[.agg #[.string x.f0, .string x.f1], .pointer (some ⟨b, 0, none⟩)] w fun e w' => e = .returned (.bool (x.f0.toList == par.toList)) ∧ Below w.heap.size w w' := by
  have hlt := World.block_lt_of_cell? w _ hb
  go_enter Try.func68, Try.ntmps68
  go_wp2
  go_ret
  exact ⟨rfl, below_alloc (Below.refl _ _) _⟩
theorem rd74_at (xs : List S74) (k : Nat) (h : k < xs.length) : rd_T74 xs (k : Int) = xs[k] := by
  simp [rd_T74, List.getD_eq_getElem?_getD, List.getElem?_eq_getElem h]
theorem rd37_at (xs : List S37) (k : Nat) (h : k < xs.length) : rd_T37 xs (k : Int) = xs[k] := by
  simp [rd_T37, List.getD_eq_getElem?_getD, List.getElem?_eq_getElem h]
set_option maxHeartbeats 4000000 in
set_option maxRecDepth 100000 in
theorem indexLevel_calls (A0 : Option Addr) (c0 : Nat) (l0 : List S74) (par : ByteArray) (b : Nat) (w : World) (hr0 : Kd.C k74 w A0 l0.length l0) (hc0 : l0.length ≤ c0) (hb : w.cell? ⟨b, 0, none⟩ = some (.string par)) :
    Calls Try.prog 67 #[.slice A0 l0.length c0, .func (.func 68) #[] #[.pointer (some ⟨b, 0, none⟩)]] w fun e w' => e = .returned (.int .i64 (idxOf (fun x : S74 => x.f0.toList == par.toList) l0)) ∧ Below w.heap.size w w' := by
  have hm := Kd.C_max hr0
  have HR := Aside0.mk hr0
  have HC := Aside0.mk hc0
  have HBb := Aside0.mk hb
  clear hr0 hc0 hb
  have hu74 := Try.underlying74
  go_enter Try.func67, Try.ntmps67
  go_wp2
  go_loopw [8] (fun v8 wr => ∃ k : Nat, k ≤ l0.length ∧ v8 = .int .i64 k ∧ Aside0 (Below w.heap.size w wr) ∧ Aside0 (∀ j (h : j < k) (h2 : j < l0.length), (l0[j].f0.toList == par.toList) = false)) (fun v8 _ => l0.length - (intOf v8).toNat)
  case atStart => exact ⟨0, by omega, rfl, ⟨Below.refl _ _⟩, ⟨fun j h => by omega⟩⟩
  case round =>
    obtain ⟨k, hk, rfl, HB, HN⟩ := hrel
    by_cases hlt : k < l0.length
    · obtain ⟨ad, ea, hx0, hx1⟩ := at_T74 (Kd.C_below HR.out HB.out) (k : Int) (by omega) (by omega)
      rw [Int.toNat_natCast] at hx0 hx1
      rw [rd74_at l0 k hlt] at hx0 hx1
      obtain ⟨x, hx⟩ : ∃ x, x = l0[k] := ⟨_, rfl⟩
      rw [← hx] at hx0 hx1
      have HX := Aside0.mk hx
      clear hx
      cases ea
      have hbc : wr.cell? ⟨b, 0, none⟩ = some (.string par) := pw_cell_below HB.out HBb.out
      have hd : decide ((k : Int) < (l0.length : Int)) = true := decide_eq_true (by omega)
      cases hq : (x.f0.toList == par.toList) with
      | false =>
        go_wp2_with (go_at_call 68; refine (within1_calls x par b _ hbc).mono ?_; rw [hq]; rintro e w1 ⟨rfl, hb1⟩)
        go_roundw
        case rel => exact ⟨k + 1, by omega, by go_num, ⟨below_step HB.out hb1⟩, ⟨fun j h h2 => by
          by_cases e : j = k
          · subst e; rw [← HX.out]; exact hq
          · exact HN.out j (by omega) h2⟩⟩
        case measure => simp [intOf]; omega
      | true =>
        go_wp2_with (go_at_call 68; refine (within1_calls x par b _ hbc).mono ?_; rw [hq]; rintro e w1 ⟨rfl, hb1⟩)
        go_ret
        exact ⟨by rw [idxOf_hit _ l0 k hlt (fun j h => HN.out j h (by omega)) (by rw [← HX.out]; exact hq)]; rfl, below_step HB.out hb1⟩
    · have hd : decide ((k : Int) < (l0.length : Int)) = false := decide_eq_false (by omega)
      go_wp2
      go_ret
      exact ⟨by rw [idxOf_none _ l0 (fun j h => HN.out j (by omega) h)]; rfl, HB.out⟩
theorem toList_data (s : ByteArray) : s.toList = s.data.toList := Lib.toList_data s
set_option maxHeartbeats 4000000 in
theorem mayNode_calls (n : S37) (w : World) :
    Calls Try.prog 43 #[.agg #[.string n.f0, .int .i64 n.f1, .string n.f2]] w fun e w' => e = .returned (.bool (okNode n)) ∧ Below w.heap.size w w' := by
  obtain ⟨f0, f1, f2⟩ := n
  have hu37 := Try.underlying37
  by_cases h1 : f1 = 1
  · subst h1
    go_enter Try.func43, Try.ntmps43
    go_wp2
    all_goals go_ret
    all_goals exact ⟨by simp [okNode]; omega, below_alloc (Below.refl _ _) _⟩
  by_cases h2 : f1 = 2
  · subst h2
    go_enter Try.func43, Try.ntmps43
    go_wp2
    all_goals go_ret
    all_goals exact ⟨by simp [okNode]; omega, below_alloc (Below.refl _ _) _⟩
  have e1 : (f1 == 1) = false := beq_eq_false_iff_ne.2 h1
  have e2 : (f1 == 2) = false := beq_eq_false_iff_ne.2 h2
  by_cases h3 : f1 = 3
  · subst h3
    clear e1 e2 h1 h2
    by_cases he : f2.toList = []
    · have e3 : (f2.toList == []) = true := by rw [he]; rfl
      have e4 : (f2.toList != []) = false := by rw [he]; rfl
      have e5 : f2.toList.isEmpty = true := by rw [he]; rfl
      go_enter Try.func43, Try.ntmps43
      go_wp2
      go_ret
      exact ⟨by rw [toList_data] at he; simp [okNode, he], below_alloc (Below.refl _ _) _⟩
    · have e3 : (f2.toList == []) = false := beq_eq_false_iff_ne.2 he
      have e4 : (f2.toList != []) = true := bne_iff_ne.2 he
      have e5 : f2.toList.isEmpty = false := by rw [List.isEmpty_eq_false_iff]; exact he
      by_cases hs : f2.size ≤ 4096
      · have e6 : decide ((f2.size : Int) ≤ 4096) = true := decide_eq_true (by omega)
        have e7 : decide (f2.size ≤ 4096) = true := decide_eq_true hs
        have HE := Aside0.mk he
        clear he
        have HS := Aside0.mk hs
        go_enter Try.func43, Try.ntmps43
        go_wp2_with (go_at_call 65; refine (strings_Contains.calls f2 ⟨#[0]⟩ (hasZero f2.data.toList) _ (by simp [strings_Contains.f])).mono ?_; rintro e w1 ⟨rfl, hd⟩)
        go_ret
        have he := HE.out
        rw [toList_data] at he
        exact ⟨by rw [show okNode ⟨f0, 3, f2⟩ = ((!(f2.data.toList == [])) && decide (f2.size ≤ 4096) && !(hasZero f2.data.toList)) from rfl, beq_eq_false_iff_ne.2 he, decide_eq_true HS.out]; rfl, below_step (below_alloc (Below.refl _ _) _) hd.below⟩
      · have e6 : decide ((f2.size : Int) ≤ 4096) = false := decide_eq_false (by omega)
        have e7 : decide (f2.size ≤ 4096) = false := decide_eq_false hs
        have HE := Aside0.mk he
        clear he
        go_enter Try.func43, Try.ntmps43
        go_wp2
        go_ret
        exact ⟨by simp [okNode, hs], below_alloc (Below.refl _ _) _⟩
  have e8 : (f1 == 3) = false := beq_eq_false_iff_ne.2 h3
  by_cases h4 : f1 = 4
  · subst h4
    clear e1 e2 e8 h1 h2 h3
    go_enter Try.func43, Try.ntmps43
    go_wp2
    go_ret
    exact ⟨by simp [okNode, ← toList_data], below_alloc (Below.refl _ _) _⟩
  have e9 : (f1 == 4) = false := beq_eq_false_iff_ne.2 h4
  go_enter Try.func43, Try.ntmps43
  go_wp2
  go_ret
  exact ⟨by simp [okNode, h1, h2, h3, h4], below_alloc (Below.refl _ _) _⟩
set_option maxHeartbeats 1000000 in
theorem may1_calls (n : S37) (w : World) :
    Calls Try.prog 42 #[.agg #[.string n.f0, .int .i64 n.f1, .string n.f2]] w fun e w' => e = .returned (.bool (!okNode n)) ∧ Below w.heap.size w w' := by
  have hu37 := Try.underlying37
  go_enter Try.func42, Try.ntmps42
  go_wp2_with (go_at_call 43; refine (mayNode_calls n _).mono ?_; rintro e w1 ⟨rfl, hb⟩)
  go_ret
  exact ⟨rfl, below_step (below_alloc (Below.refl _ _) _) hb⟩
set_option maxHeartbeats 4000000 in
set_option maxRecDepth 100000 in
theorem indexMay1_calls (A0 : Option Addr) (c0 : Nat) (l0 : List S37) (w : World) (hr0 : Kd.C k37 w A0 l0.length l0) (hc0 : l0.length ≤ c0) :
    Calls Try.prog 64 #[.slice A0 l0.length c0, .func (.func 42) #[] #[]] w fun e w' => e = .returned (.int .i64 (idxOf (fun x : S37 => !okNode x) l0)) ∧ Below w.heap.size w w' := by
  have hm := Kd.C_max hr0
  have HR := Aside0.mk hr0
  have HC := Aside0.mk hc0
  clear hr0 hc0
  have hu37 := Try.underlying37
  go_enter Try.func64, Try.ntmps64
  go_wp2
  go_loopw [8] (fun v8 wr => ∃ k : Nat, k ≤ l0.length ∧ v8 = .int .i64 k ∧ Aside0 (Below w.heap.size w wr) ∧ Aside0 (∀ j (h : j < k) (h2 : j < l0.length), (!okNode l0[j]) = false)) (fun v8 _ => l0.length - (intOf v8).toNat)
  case atStart => exact ⟨0, by omega, rfl, ⟨Below.refl _ _⟩, ⟨fun j h => by omega⟩⟩
  case round =>
    obtain ⟨k, hk, rfl, HB, HN⟩ := hrel
    by_cases hlt : k < l0.length
    · obtain ⟨ad, ea, hx0, hx1, hx2⟩ := at_T37 (Kd.C_below HR.out HB.out) (k : Int) (by omega) (by omega)
      rw [Int.toNat_natCast] at hx0 hx1 hx2
      rw [rd37_at l0 k hlt] at hx0 hx1 hx2
      obtain ⟨x, hx⟩ : ∃ x, x = l0[k] := ⟨_, rfl⟩
      rw [← hx] at hx0 hx1 hx2
      have HX := Aside0.mk hx
      clear hx
      cases ea
      have hd : decide ((k : Int) < (l0.length : Int)) = true := decide_eq_true (by omega)
      cases hq : (!okNode x) with
      | false =>
        have HQ := Aside0.mk hq
        clear hq
        go_wp2_with (go_at_call 42; refine (may1_calls x _).mono ?_; rw [HQ.out]; rintro e w1 ⟨rfl, hb1⟩)
        go_roundw
        case rel => exact ⟨k + 1, by omega, by go_num, ⟨below_step HB.out hb1⟩, ⟨fun j h h2 => by
          by_cases e : j = k
          · subst e; rw [← HX.out]; exact HQ.out
          · exact HN.out j (by omega) h2⟩⟩
        case measure => simp [intOf]; omega
      | true =>
        have HQ := Aside0.mk hq
        clear hq
        go_wp2_with (go_at_call 42; refine (may1_calls x _).mono ?_; rw [HQ.out]; rintro e w1 ⟨rfl, hb1⟩)
        go_ret
        exact ⟨by rw [idxOf_hit _ l0 k hlt (fun j h => HN.out j h (by omega)) (by rw [← HX.out]; exact HQ.out)]; rfl, below_step HB.out hb1⟩
    · have hd : decide ((k : Int) < (l0.length : Int)) = false := decide_eq_false (by omega)
      go_wp2
      go_ret
      exact ⟨by rw [idxOf_none _ l0 (fun j h => HN.out j (by omega) h)]; rfl, HB.out⟩
def containsMay1.f (l0 : List S37) : Option Bool := some (l0.any fun x => !okNode x)
set_option maxHeartbeats 1000000 in
theorem containsMay1.calls (A0 : Option Addr) (c0 : Nat) (l0 : List S37) (r : Bool) (w : World) (hr0 : Kd.C k37 w A0 l0.length l0) (hc0 : l0.length ≤ c0) (h : containsMay1.f l0 = some r) :
    Calls Try.prog 41 #[.slice A0 l0.length c0, .func (.func 42) #[] #[]] w fun e w' => e = .returned (.bool r) ∧ Below w.heap.size w w' := by
  obtain rfl := Option.some.inj h
  have HR := Aside0.mk hr0
  have HC := Aside0.mk hc0
  clear hr0 hc0 h
  go_enter Try.func41, Try.ntmps41
  go_wp2_with (go_at_call 64; refine (indexMay1_calls A0 c0 l0 _ HR.out HC.out).mono ?_; rintro e w1 ⟨rfl, hb⟩)
  go_ret
  exact ⟨by rw [← idxOf_any]; rfl, hb⟩
end Go.Proofs.Ytncokgdfkbgflaa

namespace Go.Proofs.Ytncokgdfkbgflaa
open Go.RowKit Go.Proofs.YtncokgdfkbgflaaW.PrintWords P
def isLevel (par : ByteArray) (x : S74) : Bool := x.f0.toList == par.toList
theorem size_toList (s : ByteArray) : s.toList.length = s.size := by rw [toList_data, ← Lib.size_eq]
set_option maxHeartbeats 4000000 in
set_option maxRecDepth 100000 in
theorem within_cut (A0 : Option Addr) (c0 : Nat) (l0 : List S74) (p : ByteArray) (at_ : Nat) (w : World) (hr0 : Kd.C k74 w A0 l0.length l0) (hc0 : l0.length ≤ c0) (hs : p.size < 4611686018427387904) (ha : Lib.lastIndexByte p 47 = at_) (hlt : at_ < p.size) (hne : 0 < at_) :
    Calls Try.prog 44 #[.slice A0 l0.length c0, .string p] w fun e w' => e = .returned (.tuple #[.int .i64 (idxOf (isLevel (p.extract 0 at_)) l0), .string (p.extract (at_ + 1) p.size), .bool (decide (0 ≤ idxOf (isLevel (p.extract 0 at_)) l0))]) ∧ Below w.heap.size w w' := by
  have hm := Kd.C_max hr0
  have HR := Aside0.mk hr0
  have HC := Aside0.mk hc0
  have HA := Aside0.mk ha
  clear hr0 hc0 ha
  have he : ((p.extract 0 at_).toList == []) = false := by
    rw [beq_eq_false_iff_ne]; intro h
    have h2 := congrArg List.length h
    rw [size_toList, ByteArray.size_extract] at h2
    simp only [List.length_nil] at h2
    omega
  have he2 : (p.extract 0 at_).toList.isEmpty = false := by
    rw [List.isEmpty_eq_false_iff]; exact beq_eq_false_iff_ne.1 he
  have hu74 := Try.underlying74
  go_enter Try.func44, Try.ntmps44
  go_wp2_with (go_at_call 66; refine (Try.strings_LastIndexByte p 47 hs _).mono ?_; rw [HA.out]; rintro e w' ⟨rfl, rfl⟩)
  go_region
  all_goals
    go_wp2_with (go_at_call 67; refine (indexLevel_calls A0 c0 l0 (p.extract 0 at_) w.heap.size _ ?h1 HC.out ?h2).mono ?_)
  case h1 => exact Kd.C_drew (Kd.C_alloc HR.out _)
  case h2 => go_simp
  rintro e w1 ⟨rfl, hb⟩
  obtain ⟨i, hi⟩ : ∃ i, idxOf (fun x : S74 => x.f0.toList == (p.extract 0 at_).toList) l0 = i := ⟨_, rfl⟩
  rw [hi]
  have HI := Aside0.mk hi
  clear hi
  go_wp2
  go_ret3
  have hx := HI.out
  exact ⟨by rw [show isLevel (p.extract 0 at_) = (fun x : S74 => x.f0.toList == (p.extract 0 at_).toList) from rfl, hx]; simp, below_step (below_drew (below_alloc (Below.refl _ _) _)) hb⟩
set_option maxHeartbeats 4000000 in
set_option maxRecDepth 100000 in
theorem within_bare (A0 : Option Addr) (c0 : Nat) (l0 : List S74) (p : ByteArray) (w : World) (hr0 : Kd.C k74 w A0 l0.length l0) (hc0 : l0.length ≤ c0) (hs : p.size < 4611686018427387904) (ha : Lib.lastIndexByte p 47 = -1) :
    Calls Try.prog 44 #[.slice A0 l0.length c0, .string p] w fun e w' => e = .returned (.tuple #[.int .i64 (idxOf (isLevel ⟨#[]⟩) l0), .string p, .bool (decide (0 ≤ idxOf (isLevel ⟨#[]⟩) l0))]) ∧ Below w.heap.size w w' := by
  have hm := Kd.C_max hr0
  have HR := Aside0.mk hr0
  have HC := Aside0.mk hc0
  have HA := Aside0.mk ha
  clear hr0 hc0 ha
  have hu74 := Try.underlying74
  go_enter Try.func44, Try.ntmps44
  go_wp2_with (first | (go_at_call 66; refine (Try.strings_LastIndexByte p 47 hs _).mono ?_; rw [HA.out]; rintro e w' ⟨rfl, rfl⟩) | (go_at_call 67; refine (indexLevel_calls A0 c0 l0 ⟨#[]⟩ w.heap.size _ ?h1 HC.out ?h2).mono ?_))
  case h1 => exact Kd.C_alloc HR.out _
  case h2 => go_simp
  rintro e w1 ⟨rfl, hb⟩
  obtain ⟨i, hi⟩ : ∃ i, idxOf (fun x : S74 => x.f0.toList == (⟨#[]⟩ : ByteArray).toList) l0 = i := ⟨_, rfl⟩
  rw [hi]
  have HI := Aside0.mk hi
  clear hi
  go_wp2
  go_ret3
  have hx := HI.out
  exact ⟨by rw [show isLevel ⟨#[]⟩ = (fun x : S74 => x.f0.toList == (⟨#[]⟩ : ByteArray).toList) from rfl, hx]; simp, below_step (below_alloc (Below.refl _ _) _) hb⟩
set_option maxHeartbeats 4000000 in
set_option maxRecDepth 100000 in
theorem within_zero (A0 : Option Addr) (c0 : Nat) (l0 : List S74) (p : ByteArray) (w : World) (hs : p.size < 4611686018427387904) (ha : Lib.lastIndexByte p 47 = 0) (hlt : 0 < p.size) :
    Calls Try.prog 44 #[.slice A0 l0.length c0, .string p] w fun e w' => e = .returned (.tuple #[.int .i64 0, .string ⟨#[]⟩, .bool false]) ∧ Below w.heap.size w w' := by
  have HA := Aside0.mk ha
  clear ha
  have hu74 := Try.underlying74
  go_enter Try.func44, Try.ntmps44
  go_wp2_with (go_at_call 66; refine (Try.strings_LastIndexByte p 47 hs _).mono ?_; rw [HA.out]; rintro e w' ⟨rfl, rfl⟩)
  go_region
  all_goals
    go_wp2
    go_ret3
    exact ⟨by simp, (below_drew (below_alloc (Below.refl _ _) _))⟩
def nar_within.f (l0 : List S74) (a1 : ByteArray) : Option (Int × ByteArray × Bool) :=
  if a1.size < 4611686018427387904 then
    if Lib.lastIndexByte a1 47 < 0 then some (idxOf (isLevel ⟨#[]⟩) l0, a1, decide (0 ≤ idxOf (isLevel ⟨#[]⟩) l0))
    else if Lib.lastIndexByte a1 47 = 0 then some (0, ⟨#[]⟩, false)
    else some (idxOf (isLevel (a1.extract 0 (Lib.lastIndexByte a1 47).toNat)) l0, a1.extract ((Lib.lastIndexByte a1 47).toNat + 1) a1.size, decide (0 ≤ idxOf (isLevel (a1.extract 0 (Lib.lastIndexByte a1 47).toNat)) l0))
  else none
theorem nar_within.calls (A0 : Option Addr) (c0 : Nat) (l0 : List S74) (a1 : ByteArray) (r1 : Int) (r2 : ByteArray) (r3 : Bool) (w : World) (hr0 : Kd.C k74 w A0 l0.length l0) (hc0 : l0.length ≤ c0) (h : nar_within.f l0 a1 = some (r1, r2, r3)) :
    Calls Try.prog 44 #[.slice A0 l0.length c0, .string a1] w fun e w' => e = .returned (.tuple #[.int .i64 r1, .string r2, .bool r3]) ∧ Below w.heap.size w w' := by
  unfold nar_within.f at h
  split at h
  · rename_i hs
    rcases Lib.lastIndexByte_spec a1 47 with ⟨h1, _⟩ | ⟨i, hi, h1, _, _⟩
    · rw [if_pos (by omega)] at h
      obtain ⟨rfl, rfl, rfl⟩ : _ ∧ _ ∧ _ := by simpa using h
      exact within_bare A0 c0 l0 a1 w hr0 hc0 hs h1
    · rw [if_neg (by omega)] at h
      by_cases h0 : i = 0
      · subst h0
        rw [if_pos (by rw [h1]; rfl)] at h
        obtain ⟨rfl, rfl, rfl⟩ : _ ∧ _ ∧ _ := by simpa using h
        exact within_zero A0 c0 l0 a1 w hs h1 hi
      · rw [if_neg (by omega), h1, Int.toNat_natCast] at h
        obtain ⟨rfl, rfl, rfl⟩ : _ ∧ _ ∧ _ := by simpa using h
        exact within_cut A0 c0 l0 a1 i w hr0 hc0 hs h1 hi (by omega)
  · cases h
end Go.Proofs.Ytncokgdfkbgflaa

namespace Go.Proofs.Ytncokgdfkbgflaa.P
open Go.RowKit Go.Proofs.YtncokgdfkbgflaaW.PrintWords Go.Proofs.YtncokgdfkbgflaaW.PrintLast Go.Proofs.YtncokgdfkbgflaaW.PrintMore
attribute [local go_sem] max2_int min2_int max_two min_two max_three min_three max_four min_four   -- for this text's walks alone
set_option linter.unusedVariables false
set_option linter.unusedSimpArgs false
mutual
def nar_May.j0 : Nat → List (S37) → Bool → Option (Bool)
  | 0, _, _ => none
  | k + 1, x0, x27 => if x27 = true then (some false) else (if 0 < (x0.length : Int) then (if ((rd_T37 x0 0).f1) = 4 then (if ([] : List (S74)).length < 4398046511104 then (nar_May.j1 k x0 (([] : List (S74)) ++ [(⟨(⟨#[]⟩ : ByteArray), (⟨#[]⟩ : ByteArray)⟩ : S74)])) else (none)) else (nar_May.j1 k x0 ([] : List (S74)))) else (none))
def nar_May.j1 : Nat → List (S37) → List (S74) → Option (Bool)
  | 0, _, _ => none
  | k + 1, x0, x3 => if 1 ≤ (x0.length : Int) then ((some (x0.drop 1 : List (S37))).bind fun y185 => (nar_May.l0 k x3 y185 (y185.length : Int) 0)) else (none)
def nar_May.l0 : Nat → List (S74) → List (S37) → Int → Int → Option (Bool)
  | 0, _, _, _, _ => none
  | k + 1, x3, x38, x39, x40 => if x40 < x39 then (if 0 ≤ x40 then (if x40 < (x38.length : Int) then ((nar_within.f x3 ((rd_T37 x38 x40).f0)).bind fun bt191 => (if bt191.2.2 = true then ((nar_MayName.f bt191.2.1).bind fun t194 => (if t194 = true then (if 0 ≤ bt191.1 then (if bt191.1 < (x3.length : Int) then (if (Op.bytesLess bt191.2.1.toList (((rd_T74 x3 bt191.1).f1).toList) || bt191.2.1.toList == (((rd_T74 x3 bt191.1).f1).toList)) = true then (nar_May.j3 k x3 bt191.1 bt191.2.1 x38 x39 x40 true ((rd_T37 x38 x40).f0) ((rd_T37 x38 x40).f1) ((rd_T37 x38 x40).f2)) else (nar_May.j3 k x3 bt191.1 bt191.2.1 x38 x39 x40 (decide (bt191.1 ≥ 64)) ((rd_T37 x38 x40).f0) ((rd_T37 x38 x40).f1) ((rd_T37 x38 x40).f2))) else (none)) else (none)) else (nar_May.j3 k x3 bt191.1 bt191.2.1 x38 x39 x40 true ((rd_T37 x38 x40).f0) ((rd_T37 x38 x40).f1) ((rd_T37 x38 x40).f2)))) else (nar_May.j3 k x3 bt191.1 bt191.2.1 x38 x39 x40 true ((rd_T37 x38 x40).f0) ((rd_T37 x38 x40).f1) ((rd_T37 x38 x40).f2)))) else (none)) else (none)) else (some true)
def nar_May.j3 : Nat → List (S74) → Int → ByteArray → List (S37) → Int → Int → Bool → ByteArray → Int → ByteArray → Option (Bool)
  | 0, _, _, _, _, _, _, _, _, _, _ => none
  | k + 1, x3, x6, x7, x38, x39, x40, x71, x191000, x191001, x191002 => if x71 = true then (some false) else (if 0 ≤ (wrap64 (x6 + 1)) then (if (wrap64 (x6 + 1)) ≤ (x3.length : Int) then ((some (x3.take ((wrap64 (x6 + 1)) : Int).toNat : List (S74))).bind fun y196 => (if 0 ≤ x6 then (if x6 < (y196.length : Int) then ((some (y196.set (x6 : Int).toNat (⟨(rd_T74 y196 x6).f0, x7⟩ : S74) : List (S74))).bind fun y199 => (if x191001 = 4 then (if y199.length < 4398046511104 then (nar_May.l0 k (y199 ++ [(⟨x191000, (⟨#[]⟩ : ByteArray)⟩ : S74)]) x38 x39 (wrap64 (x40 + 1))) else (none)) else (nar_May.l0 k y199 x38 x39 (wrap64 (x40 + 1))))) else (none)) else (none))) else (none)) else (none))
end
def nar_May.f (k : Nat) (l0 : List (S37)) : Option (Bool) := if (l0.length : Int) < 1 then (nar_May.j0 k l0 true) else (if (l0.length : Int) > 256 then (nar_May.j0 k l0 true) else (if 0 < (l0.length : Int) then (if ((rd_T37 l0 0).f0).toList = ([] : List UInt8) then ((containsMay1.f l0).bind fun t180 => (nar_May.j0 k l0 t180)) else (nar_May.j0 k l0 true)) else (none)))
theorem nar_May.mono_l : ∀ k, (∀ y0 y1, LeO (nar_May.j0 k y0 y1) (nar_May.j0 (k + 1) y0 y1)) ∧ (∀ y0 y1, LeO (nar_May.j1 k y0 y1) (nar_May.j1 (k + 1) y0 y1)) ∧ (∀ y0 y1 y2 y3, LeO (nar_May.l0 k y0 y1 y2 y3) (nar_May.l0 (k + 1) y0 y1 y2 y3)) ∧ (∀ y0 y1 y2 y3 y4 y5 y6 y7 y8 y9, LeO (nar_May.j3 k y0 y1 y2 y3 y4 y5 y6 y7 y8 y9) (nar_May.j3 (k + 1) y0 y1 y2 y3 y4 y5 y6 y7 y8 y9))
  | 0 => ⟨fun _ _ r h => by simp [nar_May.j0] at h, fun _ _ r h => by simp [nar_May.j1] at h, fun _ _ _ _ r h => by simp [nar_May.l0] at h, fun _ _ _ _ _ _ _ _ _ _ r h => by simp [nar_May.j3] at h⟩
  | k + 1 => by
    obtain ⟨ih0, ih1, ih2, ih3⟩ := nar_May.mono_l k
    refine ⟨?_, ?_, ?_, ?_⟩
    · intro y0 y1
      unfold nar_May.j0
      repeat' first
      | (with_reducible exact ih0 _ _)
      | (with_reducible exact ih1 _ _)
      | (with_reducible exact ih2 _ _ _ _)
      | (with_reducible exact ih3 _ _ _ _ _ _ _ _ _ _)
      | (with_reducible exact LeO.refl _)
      | (with_reducible exact LeO.none _)
      | (with_reducible refine LeO.ite ?_ ?_)
      | (with_reducible refine LeO.bind ?_ (fun _ => ?_))
      | exact ih0 _ _
      | exact ih1 _ _
      | exact ih2 _ _ _ _
      | exact ih3 _ _ _ _ _ _ _ _ _ _
      | exact LeO.none _
      | refine LeO.ite ?_ ?_
      | refine LeO.bind ?_ (fun _ => ?_)
    · intro y0 y1
      unfold nar_May.j1
      repeat' first
      | (with_reducible exact ih0 _ _)
      | (with_reducible exact ih1 _ _)
      | (with_reducible exact ih2 _ _ _ _)
      | (with_reducible exact ih3 _ _ _ _ _ _ _ _ _ _)
      | (with_reducible exact LeO.refl _)
      | (with_reducible exact LeO.none _)
      | (with_reducible refine LeO.ite ?_ ?_)
      | (with_reducible refine LeO.bind ?_ (fun _ => ?_))
      | exact ih0 _ _
      | exact ih1 _ _
      | exact ih2 _ _ _ _
      | exact ih3 _ _ _ _ _ _ _ _ _ _
      | exact LeO.none _
      | refine LeO.ite ?_ ?_
      | refine LeO.bind ?_ (fun _ => ?_)
    · intro y0 y1 y2 y3
      unfold nar_May.l0
      repeat' first
      | (with_reducible exact ih0 _ _)
      | (with_reducible exact ih1 _ _)
      | (with_reducible exact ih2 _ _ _ _)
      | (with_reducible exact ih3 _ _ _ _ _ _ _ _ _ _)
      | (with_reducible exact LeO.refl _)
      | (with_reducible exact LeO.none _)
      | (with_reducible refine LeO.ite ?_ ?_)
      | (with_reducible refine LeO.bind ?_ (fun _ => ?_))
      | exact ih0 _ _
      | exact ih1 _ _
      | exact ih2 _ _ _ _
      | exact ih3 _ _ _ _ _ _ _ _ _ _
      | exact LeO.none _
      | refine LeO.ite ?_ ?_
      | refine LeO.bind ?_ (fun _ => ?_)
    · intro y0 y1 y2 y3 y4 y5 y6 y7 y8 y9
      unfold nar_May.j3
      repeat' first
      | (with_reducible exact ih0 _ _)
      | (with_reducible exact ih1 _ _)
      | (with_reducible exact ih2 _ _ _ _)
      | (with_reducible exact ih3 _ _ _ _ _ _ _ _ _ _)
      | (with_reducible exact LeO.refl _)
      | (with_reducible exact LeO.none _)
      | (with_reducible refine LeO.ite ?_ ?_)
      | (with_reducible refine LeO.bind ?_ (fun _ => ?_))
      | exact ih0 _ _
      | exact ih1 _ _
      | exact ih2 _ _ _ _
      | exact ih3 _ _ _ _ _ _ _ _ _ _
      | exact LeO.none _
      | refine LeO.ite ?_ ?_
      | refine LeO.bind ?_ (fun _ => ?_)
theorem nar_May.mono : ∀ a0 k, LeO (nar_May.f k a0) (nar_May.f (k + 1) a0) := by
  intro a0 k
  obtain ⟨ih0, ih1, ih2, ih3⟩ := nar_May.mono_l k
  unfold nar_May.f
  repeat' first
      | (with_reducible exact ih0 _ _)
      | (with_reducible exact ih1 _ _)
      | (with_reducible exact ih2 _ _ _ _)
      | (with_reducible exact ih3 _ _ _ _ _ _ _ _ _ _)
      | (with_reducible exact LeO.refl _)
      | (with_reducible exact LeO.none _)
      | (with_reducible refine LeO.ite ?_ ?_)
      | (with_reducible refine LeO.bind ?_ (fun _ => ?_))
      | exact ih0 _ _
      | exact ih1 _ _
      | exact ih2 _ _ _ _
      | exact ih3 _ _ _ _ _ _ _ _ _ _
      | exact LeO.none _
      | refine LeO.ite ?_ ?_
      | refine LeO.bind ?_ (fun _ => ?_)
set_option maxHeartbeats 8000000 in
set_option maxRecDepth 100000 in
theorem nar_May.calls (k : Nat) (A0 : Option Addr) (c0 : Nat) (l0 : List (S37)) (r : Bool) (w : World) (hr0 : Kd.C k37 w A0 l0.length l0) (hc0 : l0.length ≤ c0) (h : nar_May.f k l0 = some r) :
    Calls Try.prog 14 #[.slice A0 l0.length c0] w fun e w' => e = .returned (.bool r) ∧ Below w.heap.size w w' := by
  have hu74 := Try.underlying74
  have hu37 := Try.underlying37
  have HR0 := Aside0.mk hr0
  have HC0 := Aside0.mk hc0
  clear hr0 hc0
  have HB := Aside0.mk (Below.refl w.heap.size w)
  have H : (if (l0.length : Int) < 1 then (nar_May.j0 k l0 true) else (if (l0.length : Int) > 256 then (nar_May.j0 k l0 true) else (if 0 < (l0.length : Int) then (if ((rd_T37 l0 0).f0).toList = ([] : List UInt8) then ((containsMay1.f l0).bind fun t180 => (nar_May.j0 k l0 t180)) else (nar_May.j0 k l0 true)) else (none)))) = some r := h
  clear h
  have HC2 := Aside0.mk H
  clear H
  go_enter Try.func14, Try.ntmps14
  go_upto_region 1 with (fail)
  go_cut [27] (fun v27 wc => ∃ (kq : Nat) (x27_1 : Bool), v27 = .bool x27_1 ∧ Aside0 (nar_May.j0 kq l0 x27_1 = some r) ∧ Aside0 (kq ≤ k) ∧ Aside0 (Below w.heap.size w wc))
  case first =>
    have H := HC2.out
    clear HC2
    by_cases c3 : (l0.length : Int) < 1
    · rw [if_pos c3] at H
      have c3b0 : decide ((l0.length : Int) < 1) = true := decide_eq_true c3
      have c3b1 : decide (l0.length < 1) = true := decide_eq_true (by omega)
      clear c3
      (first | rw [c3b0] | (simp only [i64_w, i32_w]; rw [c3b0]) | skip)
      have H' := Aside0.mk H
      clear H
      go_wp2
      go_meet
      case rel => exact ⟨_, (true), (by first | rfl | (simp; done) | (simp [*]; done) | (congr 1; rw [Bool.eq_iff_iff]; simp [bne]; done) | (rw [Bool.eq_iff_iff]; simp [bne]; done)), H', ⟨by first | omega | exact Nat.le_refl _⟩, ⟨by repeat (first | (with_reducible first | exact HB.out | apply below_alloc | apply pw_below_drewN | apply below_drew1) | exact HB.out)⟩⟩
    · rw [if_neg c3] at H
      have c3b0 : decide ((l0.length : Int) < 1) = false := decide_eq_false c3
      have c3b1 : decide (l0.length < 1) = false := decide_eq_false (by omega)
      clear c3
      (first | rw [c3b0] | (simp only [i64_w, i32_w]; rw [c3b0]) | skip)
      by_cases c4 : (l0.length : Int) > 256
      · rw [if_pos c4] at H
        have c4b0 : decide (256 < (l0.length : Int)) = true := decide_eq_true c4
        have c4b1 : decide (256 < l0.length) = true := decide_eq_true (by omega)
        clear c4
        have H' := Aside0.mk H
        clear H
        go_wp2
        go_meet
        case rel => exact ⟨_, (true), (by first | rfl | (simp; done) | (simp [*]; done) | (congr 1; rw [Bool.eq_iff_iff]; simp [bne]; done) | (rw [Bool.eq_iff_iff]; simp [bne]; done)), H', ⟨by first | omega | exact Nat.le_refl _⟩, ⟨by repeat (first | (with_reducible first | exact HB.out | apply below_alloc | apply pw_below_drewN | apply below_drew1) | exact HB.out)⟩⟩
      · rw [if_neg c4] at H
        have c4b0 : decide (256 < (l0.length : Int)) = false := decide_eq_false c4
        have c4b1 : decide (256 < l0.length) = false := decide_eq_false (by omega)
        clear c4
        by_cases c5 : 0 < (l0.length : Int)
        · rw [if_pos c5] at H
          have c5b0 : decide (0 < (l0.length : Int)) = true := decide_eq_true c5
          have c5b1 : decide (0 < l0.length) = true := decide_eq_true (by omega)
          clear c5
          by_cases c6 : ((rd_T37 l0 0).f0).toList = ([] : List UInt8)
          · rw [if_pos c6] at H
            have c6b0 : (((rd_T37 l0 0).f0).toList == ([] : List UInt8)) = true := beq_iff_eq.mpr c6
            have c6b1 : (((rd_T37 l0 0).f0).toList != ([] : List UInt8)) = false := bne_eq_false_iff_eq.mpr c6
            clear c6
            replace H := Option.bind_eq_some_iff.mp H
            obtain ⟨t180, A70, H⟩ := H
            replace H : (nar_May.j0 k l0 t180) = some r := H
            have A7 := Aside0.mk A70
            clear A70
            have H' := Aside0.mk H
            clear H
            have p179 : 0 ≤ (0 : Int) := (by omega)
            have q179 : 0 < (l0.length : Int) := of_decide_eq_true (by first | (with_reducible assumption) | assumption)
            obtain ⟨ad179, e179, hx179_0, hx179_1, hx179_2⟩ := at_T37 HR0.out 0 p179 q179
            cases e179
            have qi179 : (0 < l0.length) = True := eq_true (by omega)
            (try rw [show ((0 : Int)).toNat = 0 from rfl] at hx179_0)
            (try rw [show 0 * 3 = 0 from rfl] at hx179_0)
            (try rw [Addr.add_zero'] at hx179_0)
            (try rw [show ((0 : Int)).toNat = 0 from rfl] at hx179_1)
            (try rw [show 0 * 3 = 0 from rfl] at hx179_1)
            (try rw [Addr.add_zero'] at hx179_1)
            (try rw [show ((0 : Int)).toNat = 0 from rfl] at hx179_2)
            (try rw [show 0 * 3 = 0 from rfl] at hx179_2)
            (try rw [Addr.add_zero'] at hx179_2)
            replace hx179_0 := (HB.out.cell (World.block_lt_of_cell? w _ hx179_0)).trans hx179_0
            replace hx179_1 := (HB.out.cell (World.block_lt_of_cell? w _ hx179_1)).trans hx179_1
            replace hx179_2 := (HB.out.cell (World.block_lt_of_cell? w _ hx179_2)).trans hx179_2
            replace p179 := eq_true p179
            replace q179 := eq_true q179
            go_wp2_with (first | (go_at_call 41; (with_reducible refine (containsMay1.calls _ _ l0 t180 _ ?side1 ?side2 A7.out).mono ?_); (case side1 => repeat (first | exact (Kd.C_below HR0.out HB.out) | (with_reducible refine Kd.C_alloc ?_ _) | (with_reducible refine Kd.C_drewN ?_ _) | (with_reducible refine Kd.C_drew ?_))); (case side2 => exact HC0.out); rintro e w8 ⟨rfl, hb⟩; have n0_ := Aside0.mk (below_step (by repeat (first | (with_reducible first | exact HB.out | apply below_alloc | apply pw_below_drewN | apply below_drew1) | exact HB.out)) hb); clear HB; have HB := n0_; clear n0_; (try clear hb); (try clear hb2); (try clear hk); (try clear hi)))
            go_meet
            case rel => exact ⟨_, (t180), (by first | rfl | (simp; done) | (simp [*]; done) | (congr 1; rw [Bool.eq_iff_iff]; simp [bne]; done) | (rw [Bool.eq_iff_iff]; simp [bne]; done)), H', ⟨by first | omega | exact Nat.le_refl _⟩, ⟨by repeat (first | (with_reducible first | exact HB.out | apply below_alloc | apply pw_below_drewN | apply below_drew1) | exact HB.out)⟩⟩
          · rw [if_neg c6] at H
            have c6b0 : (((rd_T37 l0 0).f0).toList == ([] : List UInt8)) = false := beq_eq_false_iff_ne.mpr c6
            have c6b1 : (((rd_T37 l0 0).f0).toList != ([] : List UInt8)) = true := bne_iff_ne.mpr c6
            have H' := Aside0.mk H
            clear H
            have p179 : 0 ≤ (0 : Int) := (by omega)
            have q179 : 0 < (l0.length : Int) := of_decide_eq_true (by first | (with_reducible assumption) | assumption)
            obtain ⟨ad179, e179, hx179_0, hx179_1, hx179_2⟩ := at_T37 HR0.out 0 p179 q179
            cases e179
            have qi179 : (0 < l0.length) = True := eq_true (by omega)
            (try rw [show ((0 : Int)).toNat = 0 from rfl] at hx179_0)
            (try rw [show 0 * 3 = 0 from rfl] at hx179_0)
            (try rw [Addr.add_zero'] at hx179_0)
            (try rw [show ((0 : Int)).toNat = 0 from rfl] at hx179_1)
            (try rw [show 0 * 3 = 0 from rfl] at hx179_1)
            (try rw [Addr.add_zero'] at hx179_1)
            (try rw [show ((0 : Int)).toNat = 0 from rfl] at hx179_2)
            (try rw [show 0 * 3 = 0 from rfl] at hx179_2)
            (try rw [Addr.add_zero'] at hx179_2)
            replace hx179_0 := (HB.out.cell (World.block_lt_of_cell? w _ hx179_0)).trans hx179_0
            replace hx179_1 := (HB.out.cell (World.block_lt_of_cell? w _ hx179_1)).trans hx179_1
            replace hx179_2 := (HB.out.cell (World.block_lt_of_cell? w _ hx179_2)).trans hx179_2
            replace p179 := eq_true p179
            replace q179 := eq_true q179
            go_wp2
            go_meet
            case rel => exact ⟨_, (true), (by first | rfl | (simp; done) | (simp [*]; done) | (congr 1; rw [Bool.eq_iff_iff]; simp [bne]; done) | (rw [Bool.eq_iff_iff]; simp [bne]; done)), H', ⟨by first | omega | exact Nat.le_refl _⟩, ⟨by repeat (first | (with_reducible first | exact HB.out | apply below_alloc | apply pw_below_drewN | apply below_drew1) | exact HB.out)⟩⟩
        · rw [if_neg c5] at H
          exact absurd H (by simp)
  case rest =>
    clear HC2
    try clear c1
    try clear p1
    try clear q1
    try clear hx1
    try clear qi1
    try clear p2
    try clear c3
    try clear c3b0
    try clear c3b1
    try clear c4
    try clear c4b0
    try clear c4b1
    try clear c5
    try clear c5b0
    try clear c5b1
    try clear c6
    try clear c6b0
    try clear c6b1
    try clear hx179_0
    try clear hx179_1
    try clear hx179_2
    try clear p179
    try clear q179
    obtain ⟨kq, x27_1, rfl, HA, HJ1, HB⟩ := hcut
    cases kq with
    | zero => exact absurd HA.out (by simp [nar_May.j0])
    | succ kj1 =>
      have H := HA.out
      clear HA
      simp only [nar_May.j0] at H
      by_cases c9 : x27_1 = true
      · subst c9
        have H1 : (some false) = some r := by rw [if_pos rfl] at H; exact H
        clear H
        have H := H1
        clear H1
        obtain rfl := Option.some.inj H
        go_wp2
        go_ret
        exact ⟨by first | rfl | (simp [errW_none, errW_some] <;> rfl) | (simp [*, errW_none, errW_some] <;> rfl), by repeat (first | (with_reducible first | exact HB.out | apply below_alloc | apply pw_below_drewN | apply below_drew1) | exact HB.out)⟩
      · replace c9 := Bool.eq_false_iff.mpr c9
        subst c9
        have H1 : (if 0 < (l0.length : Int) then (if ((rd_T37 l0 0).f1) = 4 then (if ([] : List (S74)).length < 4398046511104 then (nar_May.j1 kj1 l0 (([] : List (S74)) ++ [(⟨(⟨#[]⟩ : ByteArray), (⟨#[]⟩ : ByteArray)⟩ : S74)])) else (none)) else (nar_May.j1 kj1 l0 ([] : List (S74)))) else (none)) = some r := by rw [if_neg (show ¬ (false = true) by decide)] at H; exact H
        clear H
        have H := H1
        clear H1
        by_cases c10 : 0 < (l0.length : Int)
        · rw [if_pos c10] at H
          have c10b0 : decide (0 < (l0.length : Int)) = true := decide_eq_true c10
          have c10b1 : decide (0 < l0.length) = true := decide_eq_true (by omega)
          clear c10
          have HC11 := Aside0.mk H
          clear H
          have p181 : 0 ≤ (0 : Int) := (by omega)
          have q181 : 0 < (l0.length : Int) := of_decide_eq_true (by first | (with_reducible assumption) | assumption)
          obtain ⟨ad181, e181, hx181_0, hx181_1, hx181_2⟩ := at_T37 HR0.out 0 p181 q181
          cases e181
          have qi181 : (0 < l0.length) = True := eq_true (by omega)
          (try rw [show ((0 : Int)).toNat = 0 from rfl] at hx181_0)
          (try rw [show 0 * 3 = 0 from rfl] at hx181_0)
          (try rw [Addr.add_zero'] at hx181_0)
          (try rw [show ((0 : Int)).toNat = 0 from rfl] at hx181_1)
          (try rw [show 0 * 3 = 0 from rfl] at hx181_1)
          (try rw [Addr.add_zero'] at hx181_1)
          (try rw [show ((0 : Int)).toNat = 0 from rfl] at hx181_2)
          (try rw [show 0 * 3 = 0 from rfl] at hx181_2)
          (try rw [Addr.add_zero'] at hx181_2)
          replace hx181_0 := (HB.out.cell (World.block_lt_of_cell? w _ hx181_0)).trans hx181_0
          replace hx181_1 := (HB.out.cell (World.block_lt_of_cell? w _ hx181_1)).trans hx181_1
          replace hx181_2 := (HB.out.cell (World.block_lt_of_cell? w _ hx181_2)).trans hx181_2
          replace p181 := eq_true p181
          replace q181 := eq_true q181
          go_upto_if 32 with (fail)
          go_cut [3] (fun v3 wc => ∃ (kq : Nat) (x3_10 : List (S74)), Aside0 (nar_May.j1 kq l0 x3_10 = some r) ∧ Aside0 (kq ≤ kj1) ∧ Aside0 (Kd.R k74 74 wc w.heap.size (fun _ => True) v3 x3_10) ∧ Aside0 (Below w.heap.size w wc))
          case first =>
            have H := HC11.out
            clear HC11
            by_cases c12 : ((rd_T37 l0 0).f1) = 4
            · rw [if_pos c12] at H
              have c12b0 : (((rd_T37 l0 0).f1) == 4) = true := beq_iff_eq.mpr c12
              have c12b1 : (((rd_T37 l0 0).f1) != 4) = false := bne_eq_false_iff_eq.mpr c12
              clear c12
              (first | rw [c12b0] | (simp only [i64_w, i32_w]; rw [c12b0]) | skip)
              by_cases c13 : ([] : List (S74)).length < 4398046511104
              · rw [if_pos c13] at H
                have LMc13 := Aside0.mk c13
                clear c13
                obtain ⟨y182, hy182⟩ : ∃ y_ : List (S74), y_ = (([] : List (S74)) ++ [(⟨(⟨#[]⟩ : ByteArray), (⟨#[]⟩ : ByteArray)⟩ : S74)]) := ⟨_, rfl⟩
                replace H : (nar_May.j1 kj1 l0 y182) = some r := by first | (rw [hy182]; with_reducible exact H) | (have H2_ := (Option.bind_some _ _).symm.trans H; rw [hy182]; with_reducible exact H2_) | (have H2_ := (Option.bind_some _ _).symm.trans H; with_reducible exact H2_) | with_reducible exact H | (rw [hy182]; exact H) | exact H
                have Ny182 := Aside0.mk hy182
                clear hy182
                have H' := Aside0.mk H
                clear H
                go_wp2_with (first | ((with_reducible refine gate_builtin (b := .append) (xs := #[.tmp 33, .tmp 35]) rfl ?_); (try (refine gate_guard (by rfl) ?_; dsimp only)); at_builtin; refine Kd.R_append k74 (w0 := w) w.heap.size rfl (.tmp 33) (.tmp 35) 72 74 (.agg #[(.string ⟨#[]⟩), (.string ⟨#[]⟩)]) 32 rfl Try.underlying72 info74 rfl (by decide) (by omega) (.slice none 0 0) ([] : List (S74)) (⟨(⟨#[]⟩ : ByteArray), (⟨#[]⟩ : ByteArray)⟩ : S74) [.string (⟨#[]⟩ : ByteArray), .string (⟨#[]⟩ : ByteArray)] (fun _ => True) (fun _ => False) rfl rfl ?aP (fun _ hk => hk.elim) ?aF ?aO ?aB ?aS ?aL ?_; (case aP => exact k74_mkM _ _ _ (⟨(⟨#[]⟩ : ByteArray), (⟨#[]⟩ : ByteArray)⟩ : S74)); (case aB => exact (by repeat (first | (with_reducible first | exact HB.out | apply below_alloc | apply pw_below_drewN | apply below_drew1) | exact HB.out))); (case aF => exact (fun _ _ => trivial)); (case aO => exact ((Kd.R_nil _ _ _ _ (fun _ => True)))); (case aS => exact (below_size (by repeat (first | (with_reducible first | exact HB.out | apply below_alloc | apply pw_below_drewN | apply below_drew1) | exact HB.out)))); (case aL => have := LMc13.out; omega); intro v183 w14 ho hb hg hat; rw [← Ny182.out] at ho; have n0_ := Aside0.mk (hb); have n1_ := Aside0.mk (ho); clear HB; have HB := n0_; have HO184 := n1_; clear n0_ n1_; clear ho hb hg hat))
                go_meet
                case rel => exact ⟨_, (y182), H', ⟨by have := HJ1.out; first | omega | exact Nat.le_refl _⟩, ⟨by (with_reducible repeat (first | apply Kd.R_alloc | apply Kd.R_drewN | apply Kd.R_drew)); exact HO184.out⟩, ⟨by repeat (first | (with_reducible first | exact HB.out | apply below_alloc | apply pw_below_drewN | apply below_drew1) | exact HB.out)⟩⟩
              · rw [if_neg c13] at H
                exact absurd H (by simp)
            · rw [if_neg c12] at H
              have c12b0 : (((rd_T37 l0 0).f1) == 4) = false := beq_eq_false_iff_ne.mpr c12
              have c12b1 : (((rd_T37 l0 0).f1) != 4) = true := bne_iff_ne.mpr c12
              (first | rw [c12b0] | (simp only [i64_w, i32_w]; rw [c12b0]) | skip)
              have H' := Aside0.mk H
              clear H
              go_wp2
              go_meet
              case rel => exact ⟨_, (([] : List (S74))), H', ⟨by have := HJ1.out; first | omega | exact Nat.le_refl _⟩, ⟨by first | exact Kd.R_nil _ _ _ _ _ | exact Kd.N_nil _ _ _ _ _ | exact Kd.V_nil _ _ _ _ _ | exact Kd.Q_nil _ _ _ _ _ | exact Kd.S_nil _ _ _ _ _⟩, ⟨by repeat (first | (with_reducible first | exact HB.out | apply below_alloc | apply pw_below_drewN | apply below_drew1) | exact HB.out)⟩⟩
          case rest =>
            clear HC11
            try clear c1
            try clear p1
            try clear q1
            try clear hx1
            try clear qi1
            try clear p2
            try clear c3
            try clear c3b0
            try clear c3b1
            try clear c4
            try clear c4b0
            try clear c4b1
            try clear c5
            try clear c5b0
            try clear c5b1
            try clear c6
            try clear c6b0
            try clear c6b1
            try clear c9
            try clear c10
            try clear c10b0
            try clear c10b1
            try clear c12
            try clear c12b0
            try clear c12b1
            try clear c13
            try clear c14
            try clear hx179_0
            try clear hx179_1
            try clear hx179_2
            try clear hx181_0
            try clear hx181_1
            try clear hx181_2
            try clear p1
            try clear p179
            try clear p181
            try clear p2
            try clear q1
            try clear q179
            try clear q181
            obtain ⟨kq, x3_10, HA, HJ10, HO_3, HB⟩ := hcut
            cases kq with
            | zero => exact absurd HA.out (by simp [nar_May.j1])
            | succ kj10 =>
              have H := HA.out
              clear HA
              simp only [nar_May.j1] at H
              by_cases c15 : 1 ≤ (l0.length : Int)
              · rw [if_pos c15] at H
                have c15b0 := eq_true c15
                have c15b1 : decide (1 ≤ (l0.length : Int)) = true := decide_eq_true c15
                clear c15
                obtain ⟨y185, hy185⟩ : ∃ y_ : List (S37), y_ = (l0.drop 1) := ⟨_, rfl⟩
                replace H : (nar_May.l0 kj10 x3_10 y185 (y185.length : Int) 0) = some r := by first | (rw [hy185]; with_reducible exact H) | (have H2_ := (Option.bind_some _ _).symm.trans H; rw [hy185]; with_reducible exact H2_) | (have H2_ := (Option.bind_some _ _).symm.trans H; with_reducible exact H2_) | with_reducible exact H | (rw [hy185]; exact H) | exact H
                have Ny185 := Aside0.mk hy185
                clear hy185
                have H' := Aside0.mk H
                clear H
                have q16 : (1 : Int) ≤ ((l0.length : Int) : Int) := of_decide_eq_true (by first | (with_reducible assumption) | assumption)
                obtain ⟨i016, hi016, _, hsz16, _⟩ := info_parts info37
                have hroom16 : l0.length ≤ c0 := HC0.out
                have hC16 : Kd.C k37 _ (some ad181) l0.length l0 := HR0.out
                have hcut16 := cut_from (P := Try.prog) 25 37 .i64 Try.underlying25 hi016 3 hsz16 (some ad181) l0.length c0 1 (by omega) q16
                have hr16 := Kd.C_drop (m := (1 : Int).toNat) (c := c0) hC16 (by omega) hroom16
                obtain ⟨A16, hA16⟩ : ∃ A1, A1 = (if c0 = (1 : Int).toNat then (some ad181) else ((some ad181) : Option Addr).map (·.add ((1 : Int).toNat * 3))) := ⟨_, rfl⟩
                obtain ⟨c16, hc16⟩ : ∃ c1, c1 = c0 - (1 : Int).toNat := ⟨_, rfl⟩
                have hy16 : y185.length = l0.length - (1 : Int).toNat := (by rw [Ny185.out, List.length_drop] <;> omega)
                rw [show (l0).drop (1 : Int).toNat = y185 from Ny185.out.symm] at hr16
                replace hr16 : Kd.C k37 _ A16 y185.length y185 := (by rw [hA16]; exact hr16)
                rw [← hy16, ← hA16, ← hc16] at hcut16
                have HR188 := Aside0.mk hr16
                have HC188 := Aside0.mk (show y185.length ≤ c16 from by rw [hy16, hc16]; exact Nat.sub_le_sub_right hroom16 _)
                clear hr16 hC16 hroom16 hi016 hsz16 hc16
                have KY16 := Aside0.mk hy16
                have KA16 := Aside0.mk hA16
                clear hy16 hA16
                replace q16 := eq_true q16
                go_wp2
                go_loopg [3, 40] kj10 (fun kq v3 v40 w' => ∃ (x3_3 : List (S74)) (x40_3 : Int), v40 = .int .i64 x40_3 ∧ Aside0 (nar_May.l0 kq x3_3 y185 (y185.length : Int) x40_3 = some r) ∧ Aside0 (kq ≤ kj10) ∧ Aside0 (Kd.R k74 74 w' w.heap.size (fun _ => True) v3 x3_3) ∧ Aside0 (Below w.heap.size w w'))
                case atStart => exact ⟨(x3_10), (0), (by first | rfl | (simp; done) | (simp [*]; done) | (congr 1; rw [Bool.eq_iff_iff]; simp [bne]; done) | (rw [Bool.eq_iff_iff]; simp [bne]; done)), H', ⟨Nat.le_refl _⟩, ⟨by (with_reducible repeat (first | apply Kd.R_alloc | apply Kd.R_drewN | apply Kd.R_drew)); exact HO_3.out⟩, ⟨by repeat (first | (with_reducible first | exact HB.out | apply below_alloc | apply pw_below_drewN | apply below_drew1) | exact HB.out)⟩⟩
                case round =>
                  clear H'
                  try clear c1
                  try clear p1
                  try clear q1
                  try clear hx1
                  try clear qi1
                  try clear p2
                  try clear c3
                  try clear c3b0
                  try clear c3b1
                  try clear c4
                  try clear c4b0
                  try clear c4b1
                  try clear c5
                  try clear c5b0
                  try clear c5b1
                  try clear c6
                  try clear c6b0
                  try clear c6b1
                  try clear c9
                  try clear c10
                  try clear c10b0
                  try clear c10b1
                  try clear c12
                  try clear c12b0
                  try clear c12b1
                  try clear c13
                  try clear c14
                  try clear c15
                  try clear c15b0
                  try clear c15b1
                  try clear c16
                  try clear q16
                  try clear hx179_0
                  try clear hx179_1
                  try clear hx179_2
                  try clear hx181_0
                  try clear hx181_1
                  try clear hx181_2
                  try clear p1
                  try clear p179
                  try clear p181
                  try clear p2
                  try clear q1
                  try clear q16
                  try clear q179
                  try clear q181
                  obtain ⟨x3_3, x40_3, rfl, HA, HK3, HO_3, HB⟩ := hrel
                  cases gk with
                  | zero => exact absurd HA.out (by simp [nar_May.l0])
                  | succ k3 =>
                    have H := HA.out
                    clear HA
                    simp only [nar_May.l0] at H
                    by_cases c17 : x40_3 < (y185.length : Int)
                    · rw [if_pos c17] at H
                      have c17b0 : decide (x40_3 < (y185.length : Int)) = true := decide_eq_true c17
                      clear c17
                      by_cases c18 : 0 ≤ x40_3
                      · rw [if_pos c18] at H
                        have c18b0 : decide (0 ≤ x40_3) = true := decide_eq_true c18
                        clear c18
                        by_cases c19 : x40_3 < (y185.length : Int)
                        · rw [if_pos c19] at H
                          have c19b0 : decide (x40_3 < (y185.length : Int)) = true := decide_eq_true c19
                          clear c19
                          replace H := Option.bind_eq_some_iff.mp H
                          obtain ⟨⟨t191, t192, t193⟩, A200, H⟩ := H
                          replace H : (if t193 = true then ((nar_MayName.f t192).bind fun t194 => (if t194 = true then (if 0 ≤ t191 then (if t191 < (x3_3.length : Int) then (if (Op.bytesLess t192.toList (((rd_T74 x3_3 t191).f1).toList) || t192.toList == (((rd_T74 x3_3 t191).f1).toList)) = true then (nar_May.j3 k3 x3_3 t191 t192 y185 (y185.length : Int) x40_3 true ((rd_T37 y185 x40_3).f0) ((rd_T37 y185 x40_3).f1) ((rd_T37 y185 x40_3).f2)) else (nar_May.j3 k3 x3_3 t191 t192 y185 (y185.length : Int) x40_3 (decide (t191 ≥ 64)) ((rd_T37 y185 x40_3).f0) ((rd_T37 y185 x40_3).f1) ((rd_T37 y185 x40_3).f2))) else (none)) else (none)) else (nar_May.j3 k3 x3_3 t191 t192 y185 (y185.length : Int) x40_3 true ((rd_T37 y185 x40_3).f0) ((rd_T37 y185 x40_3).f1) ((rd_T37 y185 x40_3).f2)))) else (nar_May.j3 k3 x3_3 t191 t192 y185 (y185.length : Int) x40_3 true ((rd_T37 y185 x40_3).f0) ((rd_T37 y185 x40_3).f1) ((rd_T37 y185 x40_3).f2))) = some r := H
                          have A20 := Aside0.mk A200
                          clear A200
                          have HC21 := Aside0.mk H
                          clear H
                          have p189 : 0 ≤ (x40_3 : Int) := of_decide_eq_true (by first | (with_reducible assumption) | assumption)
                          have q189 : x40_3 < (y185.length : Int) := of_decide_eq_true (by first | (with_reducible assumption) | assumption)
                          obtain ⟨ad189, e189, hx189_0, hx189_1, hx189_2⟩ := at_T37 HR188.out x40_3 p189 q189
                          cases e189
                          replace hx189_0 := (HB.out.cell (World.block_lt_of_cell? w _ hx189_0)).trans hx189_0
                          replace hx189_1 := (HB.out.cell (World.block_lt_of_cell? w _ hx189_1)).trans hx189_1
                          replace hx189_2 := (HB.out.cell (World.block_lt_of_cell? w _ hx189_2)).trans hx189_2
                          replace p189 := eq_true p189
                          replace q189 := eq_true q189
                          go_upto_region 10 with (first | ((with_reducible refine gate_dst (N := 5) rfl ?_); (try (refine gate_guard (by rfl) ?_; dsimp only)); refine box_event ?hg (N := 5) ?hd (cs := #[.string (⟨#[]⟩ : ByteArray), .int .i64 0, .string (⟨#[]⟩ : ByteArray)]) (t := 37) ?hr ?_; (case hd => rfl); (case hg => rfl); (case hr => first | (go_simp; done) | (go_simp; rfl)); intro gb190 hg w22 hbox hb; have n0_ := Aside0.mk (Kd.R_below (by (with_reducible repeat (first | apply Kd.R_alloc | apply Kd.R_drewN | apply Kd.R_drew)); exact HO_3.out) hb); have n1_ := Aside0.mk (below_step (by repeat (first | (with_reducible first | exact HB.out | apply below_alloc | apply pw_below_drewN | apply below_drew1) | exact HB.out)) hb); have n2_ := Aside0.mk (hbox); have n3_ := Aside0.mk ((by rw [hg]; exact (below_size (by repeat (first | (with_reducible first | exact HB.out | apply below_alloc | apply pw_below_drewN | apply below_drew1) | exact HB.out))) : w.heap.size ≤ gb190)); have n4_ := Aside0.mk ((by rw [hg]; exact (below_size (by repeat (first | (with_reducible first | exact HB.out | apply below_alloc | apply pw_below_drewN | apply below_drew1) | exact HB.out))) : w.heap.size ≤ gb190)); clear HO_3; clear HB; have HO_3 := n0_; have HB := n1_; have BK190 := n2_; have GW190 := n3_; have GE190 := n4_; clear n0_ n1_ n2_ n3_ n4_; clear hb hbox hg; have hcz23_0 : w22.cell? ⟨gb190, 0, none⟩ = some (.string (⟨#[]⟩ : ByteArray)) := (blk_cell BK190.out 0).trans rfl; have hcz23_1 : w22.cell? ⟨gb190, 1, none⟩ = some (.int .i64 0) := (blk_cell BK190.out 1).trans rfl; have hcz23_2 : w22.cell? ⟨gb190, 2, none⟩ = some (.string (⟨#[]⟩ : ByteArray)) := (blk_cell BK190.out 2).trans rfl; have hfz23_0 := blk_frozen BK190.out 0; have hfz23_1 := blk_frozen BK190.out 1; have hfz23_2 := blk_frozen BK190.out 2; obtain ⟨Ao24, co24, eo24⟩ := Kd.R_slice HO_3.out; subst eo24) | ((with_reducible refine gate_callee (f := 44) rfl ?_); refine goesL_ (some 48) rfl rfl Try.func44 (by kernel_rfl) rfl #[.slice Ao24 x3_3.length co24, .string ((rd_T37 y185 x40_3).f0)] rfl (by (try simp only [List.map_toArray, List.map_cons, List.map_nil]); first | done | rfl | (simp only [List.length_drop, List.length_take]; rfl)) ?_; (with_reducible refine (nar_within.calls _ _ x3_3 ((rd_T37 y185 x40_3).f0) t191 t192 t193 _ ?side1 ?side2 A20.out).mono ?_); (case side1 => refine (Kd.R_reads' (e := 74) (base := w.heap.size) (ok := fun k_ => True) (n := x3_3.length) (c := co24) ?_).2.2; exact (by (with_reducible repeat (first | apply Kd.R_alloc | apply Kd.R_drewN | apply Kd.R_drew)); exact (Kd.R_mono (Kd.R_far (p := ⟨gb190, 2, none⟩) (Kd.R_far (p := ⟨gb190, 1, none⟩) (Kd.R_far (p := ⟨gb190, 0, none⟩) (Kd.R_types HO_3.out BK190.out (by decide)) (fun _ hk => hk.2) (.string ((rd_T37 y185 x40_3).f0))) (fun _ hk => hk.2) (.int .i64 ((rd_T37 y185 x40_3).f1))) (fun _ hk => hk.2) (.string ((rd_T37 y185 x40_3).f2))) (fun _ h_ => h_.1)))); (case side2 => exact (Kd.R_reads' HO_3.out).2.1); rintro e w25 ⟨rfl, hb⟩; refine ⟨_, rfl, ?_⟩; have n0_ := Aside0.mk (Kd.R_below (by (with_reducible repeat (first | apply Kd.R_alloc | apply Kd.R_drewN | apply Kd.R_drew)); exact (Kd.R_mono (Kd.R_far (p := ⟨gb190, 2, none⟩) (Kd.R_far (p := ⟨gb190, 1, none⟩) (Kd.R_far (p := ⟨gb190, 0, none⟩) (Kd.R_types HO_3.out BK190.out (by decide)) (fun _ hk => hk.2) (.string ((rd_T37 y185 x40_3).f0))) (fun _ hk => hk.2) (.int .i64 ((rd_T37 y185 x40_3).f1))) (fun _ hk => hk.2) (.string ((rd_T37 y185 x40_3).f2))) (fun _ h_ => h_.1))) hb); have n1_ := Aside0.mk (blk_below (g := gb190) (o := .cells #[.string ((rd_T37 y185 x40_3).f0), .int .i64 ((rd_T37 y185 x40_3).f1), .string ((rd_T37 y185 x40_3).f2)] 37 (0, 0)) (by (with_reducible repeat (first | refine blk_drewN ?_ _ | refine blk_drew ?_ | refine blk_alloc ?_ _)); refine blk_put (cs := #[.string ((rd_T37 y185 x40_3).f0), .int .i64 ((rd_T37 y185 x40_3).f1), .string (⟨#[]⟩ : ByteArray)]) ?_ 2 _ rfl; (with_reducible repeat (first | refine blk_drewN ?_ _ | refine blk_drew ?_ | refine blk_alloc ?_ _)); refine blk_put (cs := #[.string ((rd_T37 y185 x40_3).f0), .int .i64 0, .string (⟨#[]⟩ : ByteArray)]) ?_ 1 _ rfl; (with_reducible repeat (first | refine blk_drewN ?_ _ | refine blk_drew ?_ | refine blk_alloc ?_ _)); refine blk_put (cs := #[.string (⟨#[]⟩ : ByteArray), .int .i64 0, .string (⟨#[]⟩ : ByteArray)]) ?_ 0 _ rfl; (with_reducible repeat (first | refine blk_drewN ?_ _ | refine blk_drew ?_ | refine blk_alloc ?_ _)); exact BK190.out) hb); have n2_ := Aside0.mk (below_step (by repeat (first | (with_reducible first | exact HB.out | apply below_alloc | apply pw_below_drewN | apply below_drew1 | refine below_set ?_ GE190.out) | exact HB.out)) hb); clear HO_3; clear BK190; clear HB; have HO_3 := n0_; have BK190 := n1_; have HB := n2_; clear n0_ n1_ n2_; (try clear hb); (try clear hb2); (try clear hk); (try clear hi)))
                          (try simp only [Act.put, List.setIfInBounds_toArray, List.set_cons_zero, List.set_cons_succ])
                          go_cut [71] (fun v71 wc => ∃ (kq : Nat) (x71_20 : Bool), v71 = .bool x71_20 ∧ Aside0 (nar_May.j3 kq x3_3 t191 t192 y185 (y185.length : Int) x40_3 x71_20 ((rd_T37 y185 x40_3).f0) ((rd_T37 y185 x40_3).f1) ((rd_T37 y185 x40_3).f2) = some r) ∧ Aside0 (kq ≤ k3) ∧ Aside0 (Kd.R k74 74 wc w.heap.size (fun _ => True) (.slice Ao24 x3_3.length co24) x3_3) ∧ Aside0 (wc.heap[gb190]? = some (.cells #[.string ((rd_T37 y185 x40_3).f0), .int .i64 ((rd_T37 y185 x40_3).f1), .string ((rd_T37 y185 x40_3).f2)] 37 (0, 0))) ∧ Aside0 (Below w.heap.size w wc))
                          case first =>
                            have H := HC21.out
                            clear HC21
                            by_cases c26 : t193 = true
                            · subst c26
                              have H1 : ((nar_MayName.f t192).bind fun t194 => (if t194 = true then (if 0 ≤ t191 then (if t191 < (x3_3.length : Int) then (if (Op.bytesLess t192.toList (((rd_T74 x3_3 t191).f1).toList) || t192.toList == (((rd_T74 x3_3 t191).f1).toList)) = true then (nar_May.j3 k3 x3_3 t191 t192 y185 (y185.length : Int) x40_3 true ((rd_T37 y185 x40_3).f0) ((rd_T37 y185 x40_3).f1) ((rd_T37 y185 x40_3).f2)) else (nar_May.j3 k3 x3_3 t191 t192 y185 (y185.length : Int) x40_3 (decide (t191 ≥ 64)) ((rd_T37 y185 x40_3).f0) ((rd_T37 y185 x40_3).f1) ((rd_T37 y185 x40_3).f2))) else (none)) else (none)) else (nar_May.j3 k3 x3_3 t191 t192 y185 (y185.length : Int) x40_3 true ((rd_T37 y185 x40_3).f0) ((rd_T37 y185 x40_3).f1) ((rd_T37 y185 x40_3).f2)))) = some r := by rw [if_pos rfl] at H; exact H
                              clear H
                              have H := H1
                              clear H1
                              replace H := Option.bind_eq_some_iff.mp H
                              obtain ⟨t194, A270, H⟩ := H
                              replace H : (if t194 = true then (if 0 ≤ t191 then (if t191 < (x3_3.length : Int) then (if (Op.bytesLess t192.toList (((rd_T74 x3_3 t191).f1).toList) || t192.toList == (((rd_T74 x3_3 t191).f1).toList)) = true then (nar_May.j3 k3 x3_3 t191 t192 y185 (y185.length : Int) x40_3 true ((rd_T37 y185 x40_3).f0) ((rd_T37 y185 x40_3).f1) ((rd_T37 y185 x40_3).f2)) else (nar_May.j3 k3 x3_3 t191 t192 y185 (y185.length : Int) x40_3 (decide (t191 ≥ 64)) ((rd_T37 y185 x40_3).f0) ((rd_T37 y185 x40_3).f1) ((rd_T37 y185 x40_3).f2))) else (none)) else (none)) else (nar_May.j3 k3 x3_3 t191 t192 y185 (y185.length : Int) x40_3 true ((rd_T37 y185 x40_3).f0) ((rd_T37 y185 x40_3).f1) ((rd_T37 y185 x40_3).f2))) = some r := H
                              have A27 := Aside0.mk A270
                              clear A270
                              by_cases c28 : t194 = true
                              · subst c28
                                have H1 : (if 0 ≤ t191 then (if t191 < (x3_3.length : Int) then (if (Op.bytesLess t192.toList (((rd_T74 x3_3 t191).f1).toList) || t192.toList == (((rd_T74 x3_3 t191).f1).toList)) = true then (nar_May.j3 k3 x3_3 t191 t192 y185 (y185.length : Int) x40_3 true ((rd_T37 y185 x40_3).f0) ((rd_T37 y185 x40_3).f1) ((rd_T37 y185 x40_3).f2)) else (nar_May.j3 k3 x3_3 t191 t192 y185 (y185.length : Int) x40_3 (decide (t191 ≥ 64)) ((rd_T37 y185 x40_3).f0) ((rd_T37 y185 x40_3).f1) ((rd_T37 y185 x40_3).f2))) else (none)) else (none)) = some r := by rw [if_pos rfl] at H; exact H
                                clear H
                                have H := H1
                                clear H1
                                by_cases c29 : 0 ≤ t191
                                · rw [if_pos c29] at H
                                  have c29b0 : decide (0 ≤ t191) = true := decide_eq_true c29
                                  clear c29
                                  (first | rw [c29b0] | (simp only [i64_w, i32_w]; rw [c29b0]) | skip)
                                  by_cases c30 : t191 < (x3_3.length : Int)
                                  · rw [if_pos c30] at H
                                    have c30b0 : decide (t191 < (x3_3.length : Int)) = true := decide_eq_true c30
                                    clear c30
                                    by_cases c31 : (Op.bytesLess t192.toList (((rd_T74 x3_3 t191).f1).toList) || t192.toList == (((rd_T74 x3_3 t191).f1).toList)) = true
                                    · rw [if_pos c31] at H
                                      have c31b0 : (Op.bytesLess t192.toList (((rd_T74 x3_3 t191).f1).toList) || t192.toList == (((rd_T74 x3_3 t191).f1).toList)) = true := c31
                                      (try (have c31b1 : decide (Op.bytesLess t192.toList (((rd_T74 x3_3 t191).f1).toList) || t192.toList = (((rd_T74 x3_3 t191).f1).toList)) = true := by simpa using c31))
                                      (try (have c31b2 : (Op.bytesLess t192.toList (((rd_T74 x3_3 t191).f1).toList) || t192.toList == (((rd_T74 x3_3 t191).f1).toList)) = true := by simpa using c31))
                                      clear c31
                                      have H' := Aside0.mk H
                                      clear H
                                      go_wp2_with (first | (go_at_call 21; (with_reducible refine (nar_MayName.calls t192 true _ A27.out).mono ?_); rintro e w32 ⟨rfl, hb⟩; have n0_ := Aside0.mk (Kd.R_below (by (with_reducible repeat (first | apply Kd.R_alloc | apply Kd.R_drewN | apply Kd.R_drew)); exact HO_3.out) hb); have n1_ := Aside0.mk (blk_below (g := gb190) (o := .cells #[.string ((rd_T37 y185 x40_3).f0), .int .i64 ((rd_T37 y185 x40_3).f1), .string ((rd_T37 y185 x40_3).f2)] 37 (0, 0)) (by (with_reducible repeat (first | refine blk_drewN ?_ _ | refine blk_drew ?_ | refine blk_alloc ?_ _)); exact BK190.out) hb); have n2_ := Aside0.mk (below_step (by repeat (first | (with_reducible first | exact HB.out | apply below_alloc | apply pw_below_drewN | apply below_drew1 | refine below_set ?_ GE190.out) | exact HB.out)) hb); clear HO_3; clear BK190; clear HB; have HO_3 := n0_; have BK190 := n1_; have HB := n2_; clear n0_ n1_ n2_; (try clear hb); (try clear hb2); (try clear hk); (try clear hi); have p195 : 0 ≤ (t191 : Int) := of_decide_eq_true (by first | (with_reducible assumption) | assumption); have q195 : t191 < (x3_3.length : Int) := of_decide_eq_true (by first | (with_reducible assumption) | assumption); obtain ⟨ad195, e195, hx195_0, hx195_1⟩ := at_T74 (Kd.R_reads' HO_3.out).2.2 t191 p195 q195; cases e195; replace p195 := eq_true p195; replace q195 := eq_true q195))
                                      go_meet
                                      case rel => exact ⟨_, (true), (by first | rfl | (simp; done) | (simp [*]; done) | (congr 1; rw [Bool.eq_iff_iff]; simp [bne]; done) | (rw [Bool.eq_iff_iff]; simp [bne]; done)), H', ⟨by have := HJ1.out; have := HJ10.out; have := HK3.out; first | omega | exact Nat.le_refl _⟩, ⟨by (with_reducible repeat (first | apply Kd.R_alloc | apply Kd.R_drewN | apply Kd.R_drew)); exact HO_3.out⟩, ⟨by (with_reducible repeat (first | refine blk_drewN ?_ _ | refine blk_drew ?_ | refine blk_alloc ?_ _)); exact BK190.out⟩, ⟨by repeat (first | (with_reducible first | exact HB.out | apply below_alloc | apply pw_below_drewN | apply below_drew1 | refine below_set ?_ GE190.out) | exact HB.out)⟩⟩
                                    · rw [if_neg c31] at H
                                      have c31b0 : (Op.bytesLess t192.toList (((rd_T74 x3_3 t191).f1).toList) || t192.toList == (((rd_T74 x3_3 t191).f1).toList)) = false := by simpa using c31
                                      (try (have c31b1 : decide (Op.bytesLess t192.toList (((rd_T74 x3_3 t191).f1).toList) || t192.toList = (((rd_T74 x3_3 t191).f1).toList)) = false := by simpa using c31))
                                      (try (have c31b2 : (Op.bytesLess t192.toList (((rd_T74 x3_3 t191).f1).toList) || t192.toList == (((rd_T74 x3_3 t191).f1).toList)) = false := by simpa using c31))
                                      (try (have c31b3 : ¬ (Op.bytesLess t192.toList (((rd_T74 x3_3 t191).f1).toList) || t192.toList = (((rd_T74 x3_3 t191).f1).toList)) := by simpa using c31))
                                      clear c31
                                      have H' := Aside0.mk H
                                      clear H
                                      go_wp2_with (first | (go_at_call 21; (with_reducible refine (nar_MayName.calls t192 true _ A27.out).mono ?_); rintro e w33 ⟨rfl, hb⟩; have n0_ := Aside0.mk (Kd.R_below (by (with_reducible repeat (first | apply Kd.R_alloc | apply Kd.R_drewN | apply Kd.R_drew)); exact HO_3.out) hb); have n1_ := Aside0.mk (blk_below (g := gb190) (o := .cells #[.string ((rd_T37 y185 x40_3).f0), .int .i64 ((rd_T37 y185 x40_3).f1), .string ((rd_T37 y185 x40_3).f2)] 37 (0, 0)) (by (with_reducible repeat (first | refine blk_drewN ?_ _ | refine blk_drew ?_ | refine blk_alloc ?_ _)); exact BK190.out) hb); have n2_ := Aside0.mk (below_step (by repeat (first | (with_reducible first | exact HB.out | apply below_alloc | apply pw_below_drewN | apply below_drew1 | refine below_set ?_ GE190.out) | exact HB.out)) hb); clear HO_3; clear BK190; clear HB; have HO_3 := n0_; have BK190 := n1_; have HB := n2_; clear n0_ n1_ n2_; (try clear hb); (try clear hb2); (try clear hk); (try clear hi); have p195 : 0 ≤ (t191 : Int) := of_decide_eq_true (by first | (with_reducible assumption) | assumption); have q195 : t191 < (x3_3.length : Int) := of_decide_eq_true (by first | (with_reducible assumption) | assumption); obtain ⟨ad195, e195, hx195_0, hx195_1⟩ := at_T74 (Kd.R_reads' HO_3.out).2.2 t191 p195 q195; cases e195; replace p195 := eq_true p195; replace q195 := eq_true q195))
                                      go_meet
                                      case rel => exact ⟨_, (decide (t191 ≥ 64)), (by first | rfl | (simp; done) | (simp [*]; done) | (congr 1; rw [Bool.eq_iff_iff]; simp [bne]; done) | (rw [Bool.eq_iff_iff]; simp [bne]; done)), H', ⟨by have := HJ1.out; have := HJ10.out; have := HK3.out; first | omega | exact Nat.le_refl _⟩, ⟨by (with_reducible repeat (first | apply Kd.R_alloc | apply Kd.R_drewN | apply Kd.R_drew)); exact HO_3.out⟩, ⟨by (with_reducible repeat (first | refine blk_drewN ?_ _ | refine blk_drew ?_ | refine blk_alloc ?_ _)); exact BK190.out⟩, ⟨by repeat (first | (with_reducible first | exact HB.out | apply below_alloc | apply pw_below_drewN | apply below_drew1 | refine below_set ?_ GE190.out) | exact HB.out)⟩⟩
                                  · rw [if_neg c30] at H
                                    exact absurd H (by simp)
                                · rw [if_neg c29] at H
                                  exact absurd H (by simp)
                              · replace c28 := Bool.eq_false_iff.mpr c28
                                subst c28
                                have H1 : (nar_May.j3 k3 x3_3 t191 t192 y185 (y185.length : Int) x40_3 true ((rd_T37 y185 x40_3).f0) ((rd_T37 y185 x40_3).f1) ((rd_T37 y185 x40_3).f2)) = some r := by rw [if_neg (show ¬ (false = true) by decide)] at H; exact H
                                clear H
                                have H := H1
                                clear H1
                                have H' := Aside0.mk H
                                clear H
                                go_wp2_with (first | (go_at_call 21; (with_reducible refine (nar_MayName.calls t192 false _ A27.out).mono ?_); rintro e w34 ⟨rfl, hb⟩; have n0_ := Aside0.mk (Kd.R_below (by (with_reducible repeat (first | apply Kd.R_alloc | apply Kd.R_drewN | apply Kd.R_drew)); exact HO_3.out) hb); have n1_ := Aside0.mk (blk_below (g := gb190) (o := .cells #[.string ((rd_T37 y185 x40_3).f0), .int .i64 ((rd_T37 y185 x40_3).f1), .string ((rd_T37 y185 x40_3).f2)] 37 (0, 0)) (by (with_reducible repeat (first | refine blk_drewN ?_ _ | refine blk_drew ?_ | refine blk_alloc ?_ _)); exact BK190.out) hb); have n2_ := Aside0.mk (below_step (by repeat (first | (with_reducible first | exact HB.out | apply below_alloc | apply pw_below_drewN | apply below_drew1 | refine below_set ?_ GE190.out) | exact HB.out)) hb); clear HO_3; clear BK190; clear HB; have HO_3 := n0_; have BK190 := n1_; have HB := n2_; clear n0_ n1_ n2_; (try clear hb); (try clear hb2); (try clear hk); (try clear hi)))
                                go_meet
                                case rel => exact ⟨_, (true), (by first | rfl | (simp; done) | (simp [*]; done) | (congr 1; rw [Bool.eq_iff_iff]; simp [bne]; done) | (rw [Bool.eq_iff_iff]; simp [bne]; done)), H', ⟨by have := HJ1.out; have := HJ10.out; have := HK3.out; first | omega | exact Nat.le_refl _⟩, ⟨by (with_reducible repeat (first | apply Kd.R_alloc | apply Kd.R_drewN | apply Kd.R_drew)); exact HO_3.out⟩, ⟨by (with_reducible repeat (first | refine blk_drewN ?_ _ | refine blk_drew ?_ | refine blk_alloc ?_ _)); exact BK190.out⟩, ⟨by repeat (first | (with_reducible first | exact HB.out | apply below_alloc | apply pw_below_drewN | apply below_drew1 | refine below_set ?_ GE190.out) | exact HB.out)⟩⟩
                            · replace c26 := Bool.eq_false_iff.mpr c26
                              subst c26
                              have H1 : (nar_May.j3 k3 x3_3 t191 t192 y185 (y185.length : Int) x40_3 true ((rd_T37 y185 x40_3).f0) ((rd_T37 y185 x40_3).f1) ((rd_T37 y185 x40_3).f2)) = some r := by rw [if_neg (show ¬ (false = true) by decide)] at H; exact H
                              clear H
                              have H := H1
                              clear H1
                              have H' := Aside0.mk H
                              clear H
                              go_wp2
                              go_meet
                              case rel => exact ⟨_, (true), (by first | rfl | (simp; done) | (simp [*]; done) | (congr 1; rw [Bool.eq_iff_iff]; simp [bne]; done) | (rw [Bool.eq_iff_iff]; simp [bne]; done)), H', ⟨by have := HJ1.out; have := HJ10.out; have := HK3.out; first | omega | exact Nat.le_refl _⟩, ⟨by (with_reducible repeat (first | apply Kd.R_alloc | apply Kd.R_drewN | apply Kd.R_drew)); exact HO_3.out⟩, ⟨by (with_reducible repeat (first | refine blk_drewN ?_ _ | refine blk_drew ?_ | refine blk_alloc ?_ _)); exact BK190.out⟩, ⟨by repeat (first | (with_reducible first | exact HB.out | apply below_alloc | apply pw_below_drewN | apply below_drew1 | refine below_set ?_ GE190.out) | exact HB.out)⟩⟩
                          case rest =>
                            clear HC21
                            try clear c1
                            try clear p1
                            try clear q1
                            try clear hx1
                            try clear qi1
                            try clear c2
                            try clear p2
                            try clear c3
                            try clear c3b0
                            try clear c3b1
                            try clear c4
                            try clear c4b0
                            try clear c4b1
                            try clear c5
                            try clear c5b0
                            try clear c5b1
                            try clear c6
                            try clear c6b0
                            try clear c6b1
                            try clear c9
                            try clear c10
                            try clear c10b0
                            try clear c10b1
                            try clear c12
                            try clear c12b0
                            try clear c12b1
                            try clear c13
                            try clear c14
                            try clear c15
                            try clear c15b0
                            try clear c15b1
                            try clear c16
                            try clear q16
                            try clear c17
                            try clear c17b0
                            try clear p17
                            try clear q17
                            try clear hx17
                            try clear qi17
                            try clear c18
                            try clear c18b0
                            try clear p18
                            try clear q18
                            try clear hx18
                            try clear qi18
                            try clear c19
                            try clear c19b0
                            try clear p19
                            try clear q19
                            try clear hx19
                            try clear c26
                            try clear c28
                            try clear c29
                            try clear c29b0
                            try clear c30
                            try clear c30b0
                            try clear c31
                            try clear c31b0
                            try clear c31b1
                            try clear c31b2
                            try clear hcz23_0
                            try clear hcz23_1
                            try clear hcz23_2
                            try clear hfz23_0
                            try clear hfz23_1
                            try clear hfz23_2
                            try clear hx179_0
                            try clear hx179_1
                            try clear hx179_2
                            try clear hx181_0
                            try clear hx181_1
                            try clear hx181_2
                            try clear hx189_0
                            try clear hx189_1
                            try clear hx189_2
                            try clear hx195_0
                            try clear hx195_1
                            try clear p1
                            try clear p179
                            try clear p181
                            try clear p189
                            try clear p195
                            try clear p2
                            try clear q1
                            try clear q16
                            try clear q179
                            try clear q181
                            try clear q189
                            try clear q195
                            obtain ⟨kq, x71_20, rfl, HA, HJ20, HO_3, BK190, HB⟩ := hcut
                            cases kq with
                            | zero => exact absurd HA.out (by simp [nar_May.j3])
                            | succ kj20 =>
                              have H := HA.out
                              clear HA
                              simp only [nar_May.j3] at H
                              by_cases c35 : x71_20 = true
                              · subst c35
                                have H1 : (some false) = some r := by rw [if_pos rfl] at H; exact H
                                clear H
                                have H := H1
                                clear H1
                                obtain rfl := Option.some.inj H
                                go_wp2
                                go_ret
                                exact ⟨by first | rfl | (simp [errW_none, errW_some] <;> rfl) | (simp [*, errW_none, errW_some] <;> rfl), by repeat (first | (with_reducible first | exact HB.out | apply below_alloc | apply pw_below_drewN | apply below_drew1 | refine below_set ?_ GE190.out) | exact HB.out)⟩
                              · replace c35 := Bool.eq_false_iff.mpr c35
                                subst c35
                                have H1 : (if 0 ≤ (wrap64 (t191 + 1)) then (if (wrap64 (t191 + 1)) ≤ (x3_3.length : Int) then ((some (x3_3.take ((wrap64 (t191 + 1)) : Int).toNat : List (S74))).bind fun y196 => (if 0 ≤ t191 then (if t191 < (y196.length : Int) then ((some (y196.set (t191 : Int).toNat (⟨(rd_T74 y196 t191).f0, t192⟩ : S74) : List (S74))).bind fun y199 => (if ((rd_T37 y185 x40_3).f1) = 4 then (if y199.length < 4398046511104 then (nar_May.l0 kj20 (y199 ++ [(⟨((rd_T37 y185 x40_3).f0), (⟨#[]⟩ : ByteArray)⟩ : S74)]) y185 (y185.length : Int) (wrap64 (x40_3 + 1))) else (none)) else (nar_May.l0 kj20 y199 y185 (y185.length : Int) (wrap64 (x40_3 + 1))))) else (none)) else (none))) else (none)) else (none)) = some r := by rw [if_neg (show ¬ (false = true) by decide)] at H; exact H
                                clear H
                                have H := H1
                                clear H1
                                obtain ⟨ji36, hji36⟩ : ∃ j_ : Int, (wrap64 (t191 + 1)) = j_ := ⟨_, rfl⟩
                                replace H : (if 0 ≤ (ji36) then (if (ji36) ≤ (x3_3.length : Int) then ((some (x3_3.take ((ji36) : Int).toNat : List (S74))).bind fun y196 => (if 0 ≤ t191 then (if t191 < (y196.length : Int) then ((some (y196.set (t191 : Int).toNat (⟨(rd_T74 y196 t191).f0, t192⟩ : S74) : List (S74))).bind fun y199 => (if ((rd_T37 y185 x40_3).f1) = 4 then (if y199.length < 4398046511104 then (nar_May.l0 kj20 (y199 ++ [(⟨((rd_T37 y185 x40_3).f0), (⟨#[]⟩ : ByteArray)⟩ : S74)]) y185 (y185.length : Int) (wrap64 (x40_3 + 1))) else (none)) else (nar_May.l0 kj20 y199 y185 (y185.length : Int) (wrap64 (x40_3 + 1))))) else (none)) else (none))) else (none)) else (none)) = some r := by first | (rw [hji36] at H; exact H) | (simp only [hji36] at H ⊢; exact H)
                                have hji36w : (IntKind.i64.wrap (t191 + 1)) = ji36 := (i64_w _).trans hji36
                                by_cases c37 : 0 ≤ (ji36)
                                · rw [if_pos c37] at H
                                  have c37b0 := eq_true c37
                                  have c37b1 : decide (0 ≤ (ji36)) = true := decide_eq_true c37
                                  clear c37
                                  by_cases c38 : (ji36) ≤ (x3_3.length : Int)
                                  · rw [if_pos c38] at H
                                    have c38b0 := eq_true c38
                                    have c38b1 : decide ((ji36) ≤ (x3_3.length : Int)) = true := decide_eq_true c38
                                    clear c38
                                    obtain ⟨y196, hy196⟩ : ∃ y_ : List (S74), y_ = (x3_3.take ((ji36) : Int).toNat) := ⟨_, rfl⟩
                                    replace H : (if 0 ≤ t191 then (if t191 < (y196.length : Int) then ((some (y196.set (t191 : Int).toNat (⟨(rd_T74 y196 t191).f0, t192⟩ : S74) : List (S74))).bind fun y199 => (if ((rd_T37 y185 x40_3).f1) = 4 then (if y199.length < 4398046511104 then (nar_May.l0 kj20 (y199 ++ [(⟨((rd_T37 y185 x40_3).f0), (⟨#[]⟩ : ByteArray)⟩ : S74)]) y185 (y185.length : Int) (wrap64 (x40_3 + 1))) else (none)) else (nar_May.l0 kj20 y199 y185 (y185.length : Int) (wrap64 (x40_3 + 1))))) else (none)) else (none)) = some r := by first | (rw [hy196]; with_reducible exact H) | (have H2_ := (Option.bind_some _ _).symm.trans H; rw [hy196]; with_reducible exact H2_) | (have H2_ := (Option.bind_some _ _).symm.trans H; with_reducible exact H2_) | with_reducible exact H | (rw [hy196]; exact H) | exact H
                                    have Ny196 := Aside0.mk hy196
                                    clear hy196
                                    by_cases c39 : 0 ≤ t191
                                    · rw [if_pos c39] at H
                                      have c39b0 : decide (0 ≤ t191) = true := decide_eq_true c39
                                      clear c39
                                      by_cases c40 : t191 < (y196.length : Int)
                                      · rw [if_pos c40] at H
                                        have c40b0 : decide (t191 < (y196.length : Int)) = true := decide_eq_true c40
                                        clear c40
                                        obtain ⟨y199, hy199⟩ : ∃ y_ : List (S74), y_ = (y196.set (t191 : Int).toNat (⟨(rd_T74 y196 t191).f0, t192⟩ : S74)) := ⟨_, rfl⟩
                                        replace H : (if ((rd_T37 y185 x40_3).f1) = 4 then (if y199.length < 4398046511104 then (nar_May.l0 kj20 (y199 ++ [(⟨((rd_T37 y185 x40_3).f0), (⟨#[]⟩ : ByteArray)⟩ : S74)]) y185 (y185.length : Int) (wrap64 (x40_3 + 1))) else (none)) else (nar_May.l0 kj20 y199 y185 (y185.length : Int) (wrap64 (x40_3 + 1)))) = some r := by first | (rw [hy199]; with_reducible exact H) | (have H2_ := (Option.bind_some _ _).symm.trans H; rw [hy199]; with_reducible exact H2_) | (have H2_ := (Option.bind_some _ _).symm.trans H; with_reducible exact H2_) | with_reducible exact H | (rw [hy199]; exact H) | exact H
                                        have Ny199 := Aside0.mk hy199
                                        clear hy199
                                        by_cases c42 : ((rd_T37 y185 x40_3).f1) = 4
                                        · rw [if_pos c42] at H
                                          have c42b0 : (((rd_T37 y185 x40_3).f1) == 4) = true := beq_iff_eq.mpr c42
                                          have c42b1 : (((rd_T37 y185 x40_3).f1) != 4) = false := bne_eq_false_iff_eq.mpr c42
                                          clear c42
                                          by_cases c43 : y199.length < 4398046511104
                                          · rw [if_pos c43] at H
                                            have LMc43 := Aside0.mk c43
                                            clear c43
                                            obtain ⟨y200, hy200⟩ : ∃ y_ : List (S74), y_ = (y199 ++ [(⟨((rd_T37 y185 x40_3).f0), (⟨#[]⟩ : ByteArray)⟩ : S74)]) := ⟨_, rfl⟩
                                            replace H : (nar_May.l0 kj20 y200 y185 (y185.length : Int) (wrap64 (x40_3 + 1))) = some r := by first | (rw [hy200]; with_reducible exact H) | (have H2_ := (Option.bind_some _ _).symm.trans H; rw [hy200]; with_reducible exact H2_) | (have H2_ := (Option.bind_some _ _).symm.trans H; with_reducible exact H2_) | with_reducible exact H | (rw [hy200]; exact H) | exact H
                                            have Ny200 := Aside0.mk hy200
                                            clear hy200
                                            have H' := Aside0.mk H
                                            clear H
                                            have q44 : ((ji36) : Int) ≤ ((x3_3.length : Int) : Int) := of_decide_eq_true (by first | (with_reducible assumption) | assumption)
                                            obtain ⟨i044, hi044, _, hsz44, _⟩ := info_parts info74
                                            have hcut44 := cut_to (P := Try.prog) 72 74 .i64 Try.underlying72 hi044 Ao24 x3_3.length co24 (ji36) (of_decide_eq_true (by first | (with_reducible assumption) | assumption)) q44 (Kd.R_reads' HO_3.out).2.1
                                            have hr44 := Kd.R_take (m := ((ji36) : Int).toNat) HO_3.out (by omega)
                                            have hy44 : y196.length = ((ji36) : Int).toNat := (by rw [Ny196.out, List.length_take]; omega)
                                            rw [← Ny196.out] at hr44
                                            rw [← hy44] at hr44 hcut44
                                            clear hy44 hi044 hsz44 HO_3
                                            have HO198 := Aside0.mk hr44
                                            clear hr44
                                            replace q44 := eq_true q44
                                            have p41 : 0 ≤ (t191 : Int) := of_decide_eq_true (by first | (with_reducible assumption) | assumption)
                                            have q41 : (t191 : Int) < ((y196.length : Int) : Int) := of_decide_eq_true (by first | (with_reducible assumption) | assumption)
                                            obtain ⟨go41, co41, eo41, gb41, gl41, cl41, HG41⟩ := Kd.R_form HO198.out (by omega)
                                            (first | cases eo41 | (injection eo41 with ea_ en_ ec_; (first | subst ea_ | (injection ea_ with ea_; subst ea_)); subst ec_; clear en_))
                                            have GB41 := Aside0.mk gb41
                                            have GG41 := Aside0.mk HG41
                                            clear gb41 gl41 HG41
                                            obtain ⟨ce41, hcl41, hM41, hcc41, hfr41⟩ := Kd.R_elem HO198.out z74 (t191 : Int) p41 q41
                                            obtain rfl := k74_openM hM41
                                            have hx41_0 : wc.cell? ⟨go41, (t191 : Int).toNat * 2, none⟩ = some (.string ((rd_T74 y196 t191).f0)) := hcc41 0 _ rfl
                                            have hx41_1 : wc.cell? ⟨go41, (t191 : Int).toNat * 2 + 1, none⟩ = some (.string ((rd_T74 y196 t191).f1)) := hcc41 1 _ rfl
                                            have hf41_0 : wc.frozen? ⟨go41, (t191 : Int).toNat * 2, none⟩ = false := hfr41 0
                                            have hf41_1 : wc.frozen? ⟨go41, (t191 : Int).toNat * 2 + 1, none⟩ = false := hfr41 1
                                            clear hcl41 hcc41 hfr41 hM41
                                            replace p41 := eq_true p41
                                            replace q41 := eq_true q41
                                            have HX45 := Aside0.mk (show Kd.R k74 74 wc w.heap.size (fun _ => True) (.slice (some ⟨go41, 0, none⟩) y196.length co24) y196 from (by (with_reducible repeat (first | apply Kd.R_alloc | apply Kd.R_drewN | apply Kd.R_drew)); exact HO198.out))
                                            obtain ⟨ce45, hcl45, hM45, hcc45, hfr45⟩ := Kd.R_elem HX45.out z74 (t191 : Int) (of_decide_eq_true (by first | (with_reducible assumption) | assumption)) (by have h_ : (t191 : Int) < ((y196.length : Int) : Int) := of_decide_eq_true (by first | (with_reducible assumption) | assumption); first | exact h_ | (have e_ := (Kd.R_reads' HO198.out).1; omega) | simpa using h_)
                                            obtain rfl := k74_openM hM45
                                            have HP45 := Kd.R_seg HX45.out (t191 : Int) (of_decide_eq_true (by first | (with_reducible assumption) | assumption)) (by have h_ : (t191 : Int) < ((y196.length : Int) : Int) := of_decide_eq_true (by first | (with_reducible assumption) | assumption); first | exact h_ | (have e_ := (Kd.R_reads' HO198.out).1; omega) | simpa using h_) (seg := [.string t192]) (j := 1) hcl45 hcc45 (show 2 ≤ 2 from by decide) (x' := (⟨(rd_T74 y196 t191).f0, t192⟩ : S74)) (k74_mkM _ _ _ (⟨(rd_T74 y196 t191).f0, t192⟩ : S74) ) (fun _ hk => hk)
                                            have hx45_1 := hcc45 1 _ rfl
                                            (try simp only [show (k74).sz = 2 from rfl, Nat.mul_one, Nat.add_zero] at hx45_1)
                                            have hf45_1 := hfr45 1
                                            (try simp only [show (k74).sz = 2 from rfl, Nat.mul_one, Nat.add_zero] at hf45_1)
                                            clear hcl45 hcc45 hfr45 hM45
                                            go_wp2_with (first | ((with_reducible refine gate_store (t := 9) (p := 80) rfl ?_); refine store_event (t := 9) (p := 80) (v := ?vo_w46) (w1 := (wc.setCell ⟨go41, (t191 : Int).toNat * 2 + 1, none⟩ (.string t192))) ?hg ?ho ?hn ?hr ?_; (case ho => rfl); (case hg => rfl); (case hn => rfl); (case hr => first | (go_simp; done) | (go_simp; rfl)); intro w46 hw; have hg : wc.grownBy w46 (some go41) := (by rw [hw]; exact HP45.2); have hp_ : Kd.R k74 74 w46 w.heap.size (fun _ => True) (.slice (some ⟨go41, 0, none⟩) y196.length co24) y199 := (by rw [hw, Ny199.out]; exact HP45.1); clear HP45; have n0_ := Aside0.mk (hp_); have n1_ := Aside0.mk (blk_grown (g := gb190) (o := .cells #[.string ((rd_T37 y185 x40_3).f0), .int .i64 ((rd_T37 y185 x40_3).f1), .string ((rd_T37 y185 x40_3).f2)] 37 (0, 0)) (by (with_reducible repeat (first | refine blk_drewN ?_ _ | refine blk_drew ?_ | refine blk_alloc ?_ _)); exact BK190.out) hg (Kd.R_ne HO198.out BK190.out (by decide))); have n2_ := Aside0.mk ((by rw [hw]; exact below_set (HB.out) GB41.out : Below w.heap.size w w46)); clear HO198; clear BK190; clear HB; have HO198 := n0_; have BK190 := n1_; have HB := n2_; clear n0_ n1_ n2_; clear hg hw hp_; have hcz47_0 : w46.cell? ⟨gb190, 0, none⟩ = some (.string ((rd_T37 y185 x40_3).f0)) := (blk_cell BK190.out 0).trans rfl; have hcz47_1 : w46.cell? ⟨gb190, 1, none⟩ = some (.int .i64 ((rd_T37 y185 x40_3).f1)) := (blk_cell BK190.out 1).trans rfl; have hcz47_2 : w46.cell? ⟨gb190, 2, none⟩ = some (.string ((rd_T37 y185 x40_3).f2)) := (blk_cell BK190.out 2).trans rfl; have hfz47_0 := blk_frozen BK190.out 0; have hfz47_1 := blk_frozen BK190.out 1; have hfz47_2 := blk_frozen BK190.out 2) | ((with_reducible refine gate_builtin (b := .append) (xs := #[.tmp 84, .tmp 88]) rfl ?_); (try (refine gate_guard (by rfl) ?_; dsimp only)); at_builtin; refine Kd.R_append k74 (w0 := w) w.heap.size rfl (.tmp 84) (.tmp 88) 72 74 (.agg #[(.string ⟨#[]⟩), (.string ⟨#[]⟩)]) 32 rfl Try.underlying72 info74 rfl (by decide) (by omega) (.slice (some ⟨go41, 0, none⟩) y196.length co24) y199 (⟨((rd_T37 y185 x40_3).f0), (⟨#[]⟩ : ByteArray)⟩ : S74) [.string ((rd_T37 y185 x40_3).f0), .string (⟨#[]⟩ : ByteArray)] (fun _ => True) (fun _ => False) rfl rfl ?aP (fun _ hk => hk.elim) ?aF ?aO ?aB ?aS ?aL ?_; (case aP => exact k74_mkM _ _ _ (⟨((rd_T37 y185 x40_3).f0), (⟨#[]⟩ : ByteArray)⟩ : S74)); (case aB => exact (by repeat (first | (with_reducible first | exact HB.out | apply below_alloc | apply pw_below_drewN | apply below_drew1 | refine below_set ?_ GE190.out) | exact HB.out))); (case aF => exact (fun _ _ => trivial)); (case aO => exact (by (with_reducible repeat (first | apply Kd.R_alloc | apply Kd.R_drewN | apply Kd.R_drew)); exact HO198.out)); (case aS => exact (below_size (by repeat (first | (with_reducible first | exact HB.out | apply below_alloc | apply pw_below_drewN | apply below_drew1 | refine below_set ?_ GE190.out) | exact HB.out)))); (case aL => have := LMc43.out; omega); intro v201 w48 ho hb hg hat; rw [← Ny200.out] at ho; have n0_ := Aside0.mk (blk_grown (g := gb190) (o := .cells #[.string ((rd_T37 y185 x40_3).f0), .int .i64 ((rd_T37 y185 x40_3).f1), .string ((rd_T37 y185 x40_3).f2)] 37 (0, 0)) (by (with_reducible repeat (first | refine blk_drewN ?_ _ | refine blk_drew ?_ | refine blk_alloc ?_ _)); exact BK190.out) hg (Kd.R_ne HO198.out BK190.out (by decide))); have n1_ := Aside0.mk (hb); have n2_ := Aside0.mk (ho); clear BK190; clear HB; clear HO198; have BK190 := n0_; have HB := n1_; have HO202 := n2_; clear n0_ n1_ n2_; clear ho hb hg hat))
                                            go_roundg kj20
                                            case measure => have := HJ1.out; have := HJ10.out; have := HK3.out; have := HJ20.out; omega
                                            case rel => exact ⟨(y200), (wrap64 (x40_3 + 1)), (by first | rfl | (simp; done) | (simp [*]; done) | (congr 1; rw [Bool.eq_iff_iff]; simp [bne]; done) | (rw [Bool.eq_iff_iff]; simp [bne]; done)), H', ⟨by have := HJ1.out; have := HJ10.out; have := HK3.out; have := HJ20.out; omega⟩, ⟨by (with_reducible repeat (first | apply Kd.R_alloc | apply Kd.R_drewN | apply Kd.R_drew)); exact HO202.out⟩, ⟨by repeat (first | (with_reducible first | exact HB.out | apply below_alloc | apply pw_below_drewN | apply below_drew1 | refine below_set ?_ GE190.out) | exact HB.out)⟩⟩
                                          · rw [if_neg c43] at H
                                            exact absurd H (by simp)
                                        · rw [if_neg c42] at H
                                          have c42b0 : (((rd_T37 y185 x40_3).f1) == 4) = false := beq_eq_false_iff_ne.mpr c42
                                          have c42b1 : (((rd_T37 y185 x40_3).f1) != 4) = true := bne_iff_ne.mpr c42
                                          have H' := Aside0.mk H
                                          clear H
                                          have q49 : ((ji36) : Int) ≤ ((x3_3.length : Int) : Int) := of_decide_eq_true (by first | (with_reducible assumption) | assumption)
                                          obtain ⟨i049, hi049, _, hsz49, _⟩ := info_parts info74
                                          have hcut49 := cut_to (P := Try.prog) 72 74 .i64 Try.underlying72 hi049 Ao24 x3_3.length co24 (ji36) (of_decide_eq_true (by first | (with_reducible assumption) | assumption)) q49 (Kd.R_reads' HO_3.out).2.1
                                          have hr49 := Kd.R_take (m := ((ji36) : Int).toNat) HO_3.out (by omega)
                                          have hy49 : y196.length = ((ji36) : Int).toNat := (by rw [Ny196.out, List.length_take]; omega)
                                          rw [← Ny196.out] at hr49
                                          rw [← hy49] at hr49 hcut49
                                          clear hy49 hi049 hsz49 HO_3
                                          have HO198 := Aside0.mk hr49
                                          clear hr49
                                          replace q49 := eq_true q49
                                          have p41 : 0 ≤ (t191 : Int) := of_decide_eq_true (by first | (with_reducible assumption) | assumption)
                                          have q41 : (t191 : Int) < ((y196.length : Int) : Int) := of_decide_eq_true (by first | (with_reducible assumption) | assumption)
                                          obtain ⟨go41, co41, eo41, gb41, gl41, cl41, HG41⟩ := Kd.R_form HO198.out (by omega)
                                          (first | cases eo41 | (injection eo41 with ea_ en_ ec_; (first | subst ea_ | (injection ea_ with ea_; subst ea_)); subst ec_; clear en_))
                                          have GB41 := Aside0.mk gb41
                                          have GG41 := Aside0.mk HG41
                                          clear gb41 gl41 HG41
                                          obtain ⟨ce41, hcl41, hM41, hcc41, hfr41⟩ := Kd.R_elem HO198.out z74 (t191 : Int) p41 q41
                                          obtain rfl := k74_openM hM41
                                          have hx41_0 : wc.cell? ⟨go41, (t191 : Int).toNat * 2, none⟩ = some (.string ((rd_T74 y196 t191).f0)) := hcc41 0 _ rfl
                                          have hx41_1 : wc.cell? ⟨go41, (t191 : Int).toNat * 2 + 1, none⟩ = some (.string ((rd_T74 y196 t191).f1)) := hcc41 1 _ rfl
                                          have hf41_0 : wc.frozen? ⟨go41, (t191 : Int).toNat * 2, none⟩ = false := hfr41 0
                                          have hf41_1 : wc.frozen? ⟨go41, (t191 : Int).toNat * 2 + 1, none⟩ = false := hfr41 1
                                          clear hcl41 hcc41 hfr41 hM41
                                          replace p41 := eq_true p41
                                          replace q41 := eq_true q41
                                          have HX50 := Aside0.mk (show Kd.R k74 74 wc w.heap.size (fun _ => True) (.slice (some ⟨go41, 0, none⟩) y196.length co24) y196 from (by (with_reducible repeat (first | apply Kd.R_alloc | apply Kd.R_drewN | apply Kd.R_drew)); exact HO198.out))
                                          obtain ⟨ce50, hcl50, hM50, hcc50, hfr50⟩ := Kd.R_elem HX50.out z74 (t191 : Int) (of_decide_eq_true (by first | (with_reducible assumption) | assumption)) (by have h_ : (t191 : Int) < ((y196.length : Int) : Int) := of_decide_eq_true (by first | (with_reducible assumption) | assumption); first | exact h_ | (have e_ := (Kd.R_reads' HO198.out).1; omega) | simpa using h_)
                                          obtain rfl := k74_openM hM50
                                          have HP50 := Kd.R_seg HX50.out (t191 : Int) (of_decide_eq_true (by first | (with_reducible assumption) | assumption)) (by have h_ : (t191 : Int) < ((y196.length : Int) : Int) := of_decide_eq_true (by first | (with_reducible assumption) | assumption); first | exact h_ | (have e_ := (Kd.R_reads' HO198.out).1; omega) | simpa using h_) (seg := [.string t192]) (j := 1) hcl50 hcc50 (show 2 ≤ 2 from by decide) (x' := (⟨(rd_T74 y196 t191).f0, t192⟩ : S74)) (k74_mkM _ _ _ (⟨(rd_T74 y196 t191).f0, t192⟩ : S74) ) (fun _ hk => hk)
                                          have hx50_1 := hcc50 1 _ rfl
                                          (try simp only [show (k74).sz = 2 from rfl, Nat.mul_one, Nat.add_zero] at hx50_1)
                                          have hf50_1 := hfr50 1
                                          (try simp only [show (k74).sz = 2 from rfl, Nat.mul_one, Nat.add_zero] at hf50_1)
                                          clear hcl50 hcc50 hfr50 hM50
                                          go_wp2_with (first | ((with_reducible refine gate_store (t := 9) (p := 80) rfl ?_); refine store_event (t := 9) (p := 80) (v := ?vo_w51) (w1 := (wc.setCell ⟨go41, (t191 : Int).toNat * 2 + 1, none⟩ (.string t192))) ?hg ?ho ?hn ?hr ?_; (case ho => rfl); (case hg => rfl); (case hn => rfl); (case hr => first | (go_simp; done) | (go_simp; rfl)); intro w51 hw; have hg : wc.grownBy w51 (some go41) := (by rw [hw]; exact HP50.2); have hp_ : Kd.R k74 74 w51 w.heap.size (fun _ => True) (.slice (some ⟨go41, 0, none⟩) y196.length co24) y199 := (by rw [hw, Ny199.out]; exact HP50.1); clear HP50; have n0_ := Aside0.mk (hp_); have n1_ := Aside0.mk (blk_grown (g := gb190) (o := .cells #[.string ((rd_T37 y185 x40_3).f0), .int .i64 ((rd_T37 y185 x40_3).f1), .string ((rd_T37 y185 x40_3).f2)] 37 (0, 0)) (by (with_reducible repeat (first | refine blk_drewN ?_ _ | refine blk_drew ?_ | refine blk_alloc ?_ _)); exact BK190.out) hg (Kd.R_ne HO198.out BK190.out (by decide))); have n2_ := Aside0.mk ((by rw [hw]; exact below_set (HB.out) GB41.out : Below w.heap.size w w51)); clear HO198; clear BK190; clear HB; have HO198 := n0_; have BK190 := n1_; have HB := n2_; clear n0_ n1_ n2_; clear hg hw hp_; have hcz52_0 : w51.cell? ⟨gb190, 0, none⟩ = some (.string ((rd_T37 y185 x40_3).f0)) := (blk_cell BK190.out 0).trans rfl; have hcz52_1 : w51.cell? ⟨gb190, 1, none⟩ = some (.int .i64 ((rd_T37 y185 x40_3).f1)) := (blk_cell BK190.out 1).trans rfl; have hcz52_2 : w51.cell? ⟨gb190, 2, none⟩ = some (.string ((rd_T37 y185 x40_3).f2)) := (blk_cell BK190.out 2).trans rfl; have hfz52_0 := blk_frozen BK190.out 0; have hfz52_1 := blk_frozen BK190.out 1; have hfz52_2 := blk_frozen BK190.out 2))
                                          go_roundg kj20
                                          case measure => have := HJ1.out; have := HJ10.out; have := HK3.out; have := HJ20.out; omega
                                          case rel => exact ⟨(y199), (wrap64 (x40_3 + 1)), (by first | rfl | (simp; done) | (simp [*]; done) | (congr 1; rw [Bool.eq_iff_iff]; simp [bne]; done) | (rw [Bool.eq_iff_iff]; simp [bne]; done)), H', ⟨by have := HJ1.out; have := HJ10.out; have := HK3.out; have := HJ20.out; omega⟩, ⟨by (with_reducible repeat (first | apply Kd.R_alloc | apply Kd.R_drewN | apply Kd.R_drew)); exact HO198.out⟩, ⟨by repeat (first | (with_reducible first | exact HB.out | apply below_alloc | apply pw_below_drewN | apply below_drew1 | refine below_set ?_ GE190.out) | exact HB.out)⟩⟩
                                      · rw [if_neg c40] at H
                                        exact absurd H (by simp)
                                    · rw [if_neg c39] at H
                                      exact absurd H (by simp)
                                  · rw [if_neg c38] at H
                                    exact absurd H (by simp)
                                · rw [if_neg c37] at H
                                  exact absurd H (by simp)
                        · rw [if_neg c19] at H
                          exact absurd H (by simp)
                      · rw [if_neg c18] at H
                        exact absurd H (by simp)
                    · rw [if_neg c17] at H
                      have c17b0 : decide (x40_3 < (y185.length : Int)) = false := decide_eq_false c17
                      clear c17
                      obtain rfl := Option.some.inj H
                      go_wp2
                      go_ret
                      exact ⟨by first | rfl | (simp [errW_none, errW_some] <;> rfl) | (simp [*, errW_none, errW_some] <;> rfl), by repeat (first | (with_reducible first | exact HB.out | apply below_alloc | apply pw_below_drewN | apply below_drew1) | exact HB.out)⟩
              · rw [if_neg c15] at H
                exact absurd H (by simp)
        · rw [if_neg c10] at H
          exact absurd H (by simp)
end Go.Proofs.Ytncokgdfkbgflaa.P

namespace Go.Proofs.Ytncokgdfkbgflaa
def le8 (n : Nat) : List UInt8 := [UInt8.ofNat n, UInt8.ofNat (n / 2 ^ 8), UInt8.ofNat (n / 2 ^ 16), UInt8.ofNat (n / 2 ^ 24), UInt8.ofNat (n / 2 ^ 32), UInt8.ofNat (n / 2 ^ 40), UInt8.ofNat (n / 2 ^ 48), UInt8.ofNat (n / 2 ^ 56)]
def pad (n : Nat) : Nat := (8 - n % 8) % 8
def strB (s : List UInt8) : List UInt8 := le8 s.length ++ s ++ List.replicate (pad s.length) 0
def strsB : List (List UInt8) → List UInt8
  | [] => []
  | s :: l => strB s ++ strsB l
theorem le8_length (n : Nat) : (le8 n).length = 8 := rfl
theorem strB_length (s : List UInt8) : (strB s).length = 8 + s.length + pad s.length := by simp [strB, le8_length]; omega
theorem strB_le (s : List UInt8) : (strB s).length ≤ s.length + 15 := by rw [strB_length]; unfold pad; omega
theorem strB_mod (s : List UInt8) : (strB s).length % 8 = 0 := by rw [strB_length]; unfold pad; omega
theorem strsB_append (a b : List (List UInt8)) : strsB (a ++ b) = strsB a ++ strsB b := by
  induction a with
  | nil => rfl
  | cons s l ih => simp [strsB, ih]
end Go.Proofs.Ytncokgdfkbgflaa

namespace Go.Proofs.Ytncokgdfkbgflaa
open Go.RowKit Go.Proofs.YtncokgdfkbgflaaW.PrintWords P
theorem info64 : (Try.prog.info? 64).map (fun i => i.size) = some 2 := by kernel_rfl
set_option maxHeartbeats 1000000 in
set_option maxRecDepth 100000 in
theorem copyCheck_used (g : Nat) (w : World) (h0 : w.cell? ⟨g, 0, none⟩ = some (.pointer (some ⟨g, 0, none⟩))) :
    Calls Try.prog 81 #[.pointer (some ⟨g, 0, none⟩)] w fun e w' => e = .returned (.tuple #[]) ∧ w' = w := by
  obtain ⟨j, hj, _⟩ := Option.map_eq_some_iff.1 info64
  go_enter Try.func81, Try.ntmps81
  go_wp2
  rw [Lib.run_neq_ptr_same w _ Try.underlying62 hj]
  go_wp2
  go_end0
  exact ⟨rfl, rfl⟩
set_option maxHeartbeats 1000000 in
set_option maxRecDepth 100000 in
theorem copyCheck_fresh (g : Nat) (w : World) (h0 : w.cell? ⟨g, 0, none⟩ = some (.pointer none)) (hsh : w.shape? g = some (66, 3)) (hfz : w.frozen? ⟨g, 0, none⟩ = false) :
    Calls Try.prog 81 #[.pointer (some ⟨g, 0, none⟩)] w fun e w' => e = .returned (.tuple #[]) ∧ w' = w.setCell ⟨g, 0, none⟩ (.pointer (some ⟨g, 0, none⟩)) := by
  obtain ⟨j, hj, hjs⟩ := Option.map_eq_some_iff.1 info64
  go_enter Try.func81, Try.ntmps81
  go_wp2
  rw [Lib.run_to_unsafe w ⟨g, 0, none⟩ Try.underlying62 Try.underlying148 hj (by rw [hjs]; decide) hsh (Nat.zero_lt_succ 2)]
  simp only [Result.andThen]
  rw [Oper.upon_value]
  go_wp2
  rw [run_callFunc_extern Try.func111 (by kernel_rfl) (by kernel_rfl) (by kernel_rfl) (e := Extern.AbiNoEscape.same) (by kernel_rfl)]
  rw [Lib.run_noEscape]
  simp only [Result.andThen]
  rw [Oper.upon_value]
  go_wp2
  rw [Lib.run_from_unsafe w ⟨g, 0, none⟩ Try.underlying148 Try.underlying62 hj hsh (by kernel_rfl)]
  simp only [Result.andThen]
  rw [Oper.upon_value]
  go_wp2
  go_end0
  exact ⟨rfl, rfl⟩
theorem info5' : (Try.prog.info? 5).map (fun i => (i.zero, i.size, i.bytes)) = some (some (.int .u8 0), 1, 1) := by kernel_rfl
def PkAt (B g : Nat) (bs : List UInt8) (lv : Value) (w : World) : Prop :=
  B ≤ g ∧ ∃ p v, (p = .pointer none ∨ p = .pointer (some ⟨g, 0, none⟩)) ∧ w.heap[g]? = some (.cells #[p, v, lv] 66 (0, 0)) ∧ w.ownsRow B 5 1 v bs.length (Lib.byteCells bs)
def PkStep (B g : Nat) (w w' : World) : Prop := Below B w w' ∧ Lib.OthersKept 5 (some g) w w'
theorem PkStep.refl (B g : Nat) (w : World) : PkStep B g w w := ⟨Below.refl _ _, Lib.OthersKept.refl _ _ _⟩
theorem PkStep.trans {B g : Nat} {a b c : World} (h : PkStep B g a b) (k : PkStep B g b c) : PkStep B g a c := ⟨h.1.trans k.1, h.2.trans k.2⟩
theorem PkStep.alloc {B g : Nat} {a w : World} (h : PkStep B g a w) (hB : B ≤ w.heap.size) (o : Obj) : PkStep B g a (w.alloc o) := ⟨h.1.alloc hB o, h.2.alloc o⟩
theorem PkStep.drew {B g : Nat} {a w : World} (h : PkStep B g a w) : PkStep B g a w.drew := ⟨below_drew h.1, h.2⟩
theorem PkAt.step {B g : Nat} {bs : List UInt8} {lv : Value} {w w' : World} (h : PkAt B g bs lv w) (row : Option Nat) (hg : w.grownBy w' row) (hr : ∀ r, row = some r → ∃ o : Obj, w.heap[r]? = some o ∧ o.isCells = false) : PkAt B g bs lv w' := by
  obtain ⟨hB, p, v, hp, hb, hown⟩ := h
  have hne : ∀ k cs e fz, w.heap[k]? = some (.cells cs e fz) → some k ≠ row := by
    intro k cs e fz hk he
    obtain ⟨o, ho, hc⟩ := hr k he.symm
    rw [hk] at ho; cases ho; simp [Obj.isCells] at hc
  refine ⟨hB, p, v, hp, blk_grown hb hg (hne _ _ _ _ hb), own_move hown (fun k hk => ?_)⟩
  obtain ⟨cells, hc⟩ := own_typed hown k hk
  exact hg.block k (blk_lt hc) (hne _ _ _ _ hc)
theorem PkAt.alloc {B g : Nat} {bs : List UInt8} {lv : Value} {w : World} (h : PkAt B g bs lv w) (o : Obj) : PkAt B g bs lv (w.alloc o) := h.step none (World.grownBy_alloc w o none) (fun _ e => by cases e)
theorem PkAt.drew {B g : Nat} {bs : List UInt8} {lv : Value} {w : World} (h : PkAt B g bs lv w) : PkAt B g bs lv w.drew := h
theorem PkAt.lt {B g : Nat} {bs : List UInt8} {lv : Value} {w : World} (h : PkAt B g bs lv w) : g < w.heap.size := by
  obtain ⟨hB, p, v, hp, hb, hown⟩ := h
  exact blk_lt hb
theorem PkAt.cell2 {B g : Nat} {bs : List UInt8} {lv : Value} {w : World} (h : PkAt B g bs lv w) : w.cell? ⟨g, 2, none⟩ = some lv := by
  obtain ⟨hB, p, v, hp, hb, hown⟩ := h
  rw [blk_cell hb]; rfl
set_option maxHeartbeats 2000000 in
set_option maxRecDepth 100000 in
theorem pkWrite_calls (B g : Nat) (bs : List UInt8) (lv : Value) (s : ByteArray) (w : World) (h : PkAt B g bs lv w) (hlen : bs.length + s.size ≤ 140737488355328) (hBw : B ≤ w.heap.size) :
    Calls Try.prog 62 #[.pointer (some ⟨g, 0, none⟩), .string s] w fun e w' => e = .returned (.tuple #[.int .i64 s.size, .nilIface]) ∧ PkAt B g (bs ++ s.data.toList) lv w' ∧ PkStep B g w w' := by
  obtain ⟨i0, hi, hz0, hz1, hz2⟩ := info_parts info5'
  obtain ⟨hB, p, v, hp, hbk, hown⟩ := h
  have hne : v.ownBlock ≠ some g := Lib.ownBlock_ne hown hbk (by decide)
  have hcc : Calls Try.prog 81 #[.pointer (some ⟨g, 0, none⟩)] w fun e w' => e = .returned (.tuple #[]) ∧ w'.heap[g]? = some (.cells #[.pointer (some ⟨g, 0, none⟩), v, lv] 66 (0, 0)) ∧ w'.ownsRow B 5 1 v bs.length (Lib.byteCells bs) ∧ PkStep B g w w' := by
    rcases hp with rfl | rfl
    · refine (copyCheck_fresh g w (by rw [blk_cell hbk]; rfl) (by simp [World.shape?, hbk]) (blk_frozen hbk 0)).mono ?_
      rintro e w' ⟨rfl, rfl⟩
      refine ⟨rfl, (blk_set hbk 0 _).trans rfl, ?_, (Below.refl B w).setCell (p := ⟨g, 0, none⟩) hB _, (Lib.OthersKept.refl _ _ w).setCell ⟨g, 0, none⟩ rfl _⟩
      exact own_move hown (fun k hk => Below.heap_setCell _ _ _ _ (fun e => hne (by rw [hk, e])))
    · refine (copyCheck_used g w (by rw [blk_cell hbk]; rfl)).mono ?_
      rintro e w' ⟨rfl, rfl⟩
      exact ⟨rfl, hbk, hown, PkStep.refl _ _ _⟩
  clear hp hbk hown
  go_enter Try.func62, Try.ntmps62
  go_wp2_with (go_at_call 81; refine hcc.mono ?_)
  rintro e w1 ⟨rfl, hbk, hown, hst⟩
  have hlt : g < w1.heap.size := blk_lt hbk
  have c0 : w1.cell? ⟨g, 0, none⟩ = some (.pointer (some ⟨g, 0, none⟩)) := by rw [blk_cell hbk]; rfl
  have c1 : w1.cell? ⟨g, 1, none⟩ = some v := by rw [blk_cell hbk]; rfl
  go_wp2_with (at_builtin; refine Lib.wpList_append_own_string _ rfl _ _ 22 9 rfl B 5 i0 Try.underlying22 Try.underlying9 hi hz0 hz1 hz2 _ _ _ rfl hown s rfl ?c3 ?c4 ?c5 ?_)
  case c3 => unfold maxLen; omega
  case c4 => omega
  case c5 => have := hst.1.size; omega
  intro v' w2 hown' hgrow _
  have hb2 : w2.heap[g]? = some (.cells #[.pointer (some ⟨g, 0, none⟩), v, lv] 66 (0, 0)) := blk_grown hbk hgrow (fun e => hne e.symm)
  have d0 : w2.cell? ⟨g, 0, none⟩ = some (.pointer (some ⟨g, 0, none⟩)) := by rw [blk_cell hb2]; rfl
  have d1 : w2.cell? ⟨g, 1, none⟩ = some v := by rw [blk_cell hb2]; rfl
  have f1 : w2.frozen? ⟨g, 1, none⟩ = false := blk_frozen hb2 1
  obtain ⟨ao, n', cap, rfl⟩ : ∃ ao n' cap, v' = .slice ao n' cap := by
    rcases hown'.2 with ⟨hv, _⟩ | ⟨g, cap, cur, hv, _⟩
    · exact ⟨_, _, _, hv⟩
    · exact ⟨_, _, _, hv⟩
  go_wp2
  go_ret2
  have hown2 : w2.ownsRow B 5 1 (.slice ao n' cap) (bs ++ s.data.toList).length (Lib.byteCells (bs ++ s.data.toList)) := by
    rw [Lib.byteCells_append, List.length_append, ← Lib.size_eq, ← Lib.strCells_eq]; exact hown'
  have hne2 : (Value.slice ao n' cap).ownBlock ≠ some g := Lib.ownBlock_ne hown2 hb2 (by decide)
  refine ⟨rfl, ⟨hB, _, _, .inr rfl, blk_put hb2 1 _ rfl, own_move hown2 (fun k hk => Below.heap_setCell _ _ _ _ (fun e => hne2 (by rw [hk, e])))⟩, ?_⟩
  refine hst.trans ⟨((Below.refl B w1).grown hgrow (by have := hst.1.size; omega) (fun k hk => own_base hown k hk)).setCell (p := ⟨g, 1, none⟩) hB _, ?_⟩
  exact ((Lib.OthersKept.refl _ _ w1).grown hgrow (fun k hk => by obtain ⟨c, hc⟩ := own_typed hown k hk; exact ⟨c, _, hc⟩)).setCell ⟨g, 1, none⟩ rfl _
end Go.Proofs.Ytncokgdfkbgflaa

namespace Go.Proofs.Ytncokgdfkbgflaa
open Go.RowKit Go.Proofs.YtncokgdfkbgflaaW.PrintWords Go.Proofs.YtncokgdfkbgflaaW.PrintMore P
def bs (l : List UInt8) : ByteArray := ⟨l.toArray⟩
theorem bs_size (l : List UInt8) : (bs l).size = l.length := by simp [bs, ByteArray.size]
theorem bs_toList (l : List UInt8) : (bs l).data.toList = l := by simp [bs]
theorem bs_append (a b : List UInt8) : bs a ++ bs b = bs (a ++ b) := by
  apply ByteArray.ext; simp [bs]
theorem bs_data (s : ByteArray) : bs s.data.toList = s := by cases s; simp [bs]
theorem word_step (k : Nat) (n : Nat) (xs : List Int) (i : Nat) (hi : i < 8) (hx : xs.length = 8) :
    nar_Word.l0 (k + 1) (n : Int) xs 8 (i : Int) = nar_Word.l0 k (n : Int) (xs.set i (((n / 2 ^ (8 * i) : Nat) : Int) % 256)) 8 ((i + 1 : Nat) : Int) := by
  have hw : wrap64 (8 * (i : Int)) = ((8 * i : Nat) : Int) := by unfold wrap64; omega
  have hw2 : wrap64 ((i : Int) + 1) = ((i + 1 : Nat) : Int) := by unfold wrap64; omega
  have hs : shr .i64 (n : Int) ((8 * i : Nat) : Int) = ((n / 2 ^ (8 * i) : Nat) : Int) := by
    unfold shr
    rw [Int.toNat_natCast, Nat.min_eq_left (by show 8 * i ≤ 64; omega)]
    simp
  simp only [nar_Word.l0]
  rw [if_pos (by omega), hw, if_pos (by omega), if_pos (by omega), if_pos (by rw [hx]; omega), hw2, hs, Int.toNat_natCast]
theorem word_any (k : Nat) (n : Nat) : nar_Word.f (k + 9) (n : Int) = some (bs (le8 n)) := by
  unfold nar_Word.f
  rw [if_pos (by decide)]
  simp only [Option.bind_some]
  have hm : mx 0 (n : Int) = n := by unfold mx; split <;> omega
  rw [hm]
  have e8 : (((List.replicate 8 (0 : Int)).length : Nat) : Int) = 8 := rfl
  rw [e8]
  show nar_Word.l0 (k + 8 + 1) (n : Int) _ 8 ((0 : Nat) : Int) = _
  rw [word_step (k + 8) n _ 0 (by omega) rfl]
  rw [show k + 8 = (k + 7) + 1 from rfl, word_step (k + 7) n _ 1 (by omega) (by simp)]
  rw [show k + 7 = (k + 6) + 1 from rfl, word_step (k + 6) n _ 2 (by omega) (by simp)]
  rw [show k + 6 = (k + 5) + 1 from rfl, word_step (k + 5) n _ 3 (by omega) (by simp)]
  rw [show k + 5 = (k + 4) + 1 from rfl, word_step (k + 4) n _ 4 (by omega) (by simp)]
  rw [show k + 4 = (k + 3) + 1 from rfl, word_step (k + 3) n _ 5 (by omega) (by simp)]
  rw [show k + 3 = (k + 2) + 1 from rfl, word_step (k + 2) n _ 6 (by omega) (by simp)]
  rw [show k + 2 = (k + 1) + 1 from rfl, word_step (k + 1) n _ 7 (by omega) (by simp)]
  simp only [nar_Word.l0]
  rw [if_neg (by omega)]
  congr 1
  have hb : ∀ m : Nat, UInt8.ofNat (((m : Int) % 256).toNat) = UInt8.ofNat m := by
    intro m
    have : ((m : Int) % 256).toNat = m % 256 := by omega
    rw [this]
    apply UInt8.toNat_inj.mp
    simp
  simp only [List.replicate_succ, List.replicate_zero, List.set_cons_zero, List.set_cons_succ, strOfNums, List.map_cons, List.map_nil, hb, bs, le8]
  simp
theorem leo_up {α : Type} {f : Nat → Option α} (h : ∀ k, LeO (f k) (f (k + 1))) {k : Nat} {r : α} (hr : f k = some r) : ∀ m, k ≤ m → f m = some r := by
  intro m hm
  induction m with
  | zero => obtain rfl : k = 0 := by omega
            exact hr
  | succ m ih =>
    by_cases e : k = m + 1
    · subst e; exact hr
    · exact h m r (ih (by omega))
theorem str_any (k : Nat) (s : ByteArray) (hs : s.size ≤ 4611686018427387904) : nar_Str.f (k + 9) s = some (bs (strB s.data.toList)) := by
  unfold nar_Str.f
  rw [word_any]
  simp only [Option.bind_some]
  rw [bs_size, le8_length, if_pos (by omega)]
  have hp : (8 - ((s.size : Int) % 8)) % 8 = ((pad s.size : Nat) : Int) := by unfold pad; omega
  have hp8 : pad s.size < 8 := by unfold pad; omega
  rw [hp]
  have hr : strings_Repeat.f (⟨#[0]⟩ : ByteArray) ((pad s.size : Nat) : Int) = some (bs (List.replicate (pad s.size) 0)) := by
    unfold strings_Repeat.f
    rw [if_pos ⟨by omega, by omega, by rw [Int.toNat_natCast]; show 1 * _ ≤ _; omega⟩, Int.toNat_natCast]
    have := Lib.repeatL_replicate 0 1 (pad s.size)
    rw [Nat.mul_one] at this
    rw [← this]; rfl
  rw [hr]
  simp only [Option.bind_some]
  rw [ByteArray.size_append, bs_size, bs_size, le8_length, List.length_replicate, if_pos (by omega)]
  rw [show s = bs s.data.toList from (bs_data s).symm, bs_append, bs_append, bs_data, strB, ← Lib.size_eq]
end Go.Proofs.Ytncokgdfkbgflaa

namespace Go.Proofs.Ytncokgdfkbgflaa
open Go.RowKit Go.Proofs.YtncokgdfkbgflaaW.PrintWords Go.Proofs.YtncokgdfkbgflaaW.PrintMore P
theorem PkAt.below {B g : Nat} {bs : List UInt8} {lv : Value} {w w' : World} (h : PkAt B g bs lv w) (hb : Below w.heap.size w w') : PkAt B g bs lv w' := h.step none (grown_of_below hb none) (fun _ e => by cases e)
theorem PkStep.below {B g : Nat} {a w w' : World} (h : PkStep B g a w) (hB : B ≤ w.heap.size) (hb : Below w.heap.size w w') : PkStep B g a w' :=
  ⟨below_then h.1 hB hb, fun k o hk hg ho => by
    have h1 := h.2 k o hk hg ho
    exact (hb.block k (blk_lt h1)).trans h1⟩
theorem PkStep.size {B g : Nat} {a w : World} (h : PkStep B g a w) : a.heap.size ≤ w.heap.size := h.1.size
theorem PkStep.blk {B g b : Nat} {a w : World} {cs : Array Value} {t : TypeId} (h : PkStep B g a w) (hb : a.heap[b]? = some (.cells cs t (0, 0))) (hne : b ≠ g) (ht : t ≠ 5) : w.heap[b]? = some (.cells cs t (0, 0)) :=
  h.2 b _ hb (by simpa using hne) (fun c fz e => by injection e with _ e2 _; exact ht e2)
theorem PkStep.obj {B g b : Nat} {a w : World} {o : Obj} (h : PkStep B g a w) (hb : a.heap[b]? = some o) (hne : b ≠ g) (ho : o.isCells = false) : w.heap[b]? = some o :=
  h.2 b _ hb (by simpa using hne) (fun c fz e => by subst e; simp [Obj.isCells] at ho)
def strsOf (ss : List ByteArray) : List (List UInt8) := ss.map fun s => s.data.toList
theorem strsOf_append (a b : List ByteArray) : strsOf (a ++ b) = strsOf a ++ strsOf b := by simp only [strsOf, List.map_append]
theorem strs_next (ss : List ByteArray) (k : Nat) (h : k < ss.length) : strsB (strsOf (ss.take (k + 1))) = strsB (strsOf (ss.take k)) ++ strB ss[k].data.toList := by
  rw [List.take_succ_eq_append_getElem h, strsOf_append, strsB_append]
  simp only [strsOf, List.map_cons, List.map_nil, strsB, List.append_nil]
theorem strs_split (ss : List ByteArray) (k : Nat) : strsB (strsOf ss) = strsB (strsOf (ss.take k)) ++ strsB (strsOf (ss.drop k)) := by
  rw [← strsB_append, ← strsOf_append, List.take_append_drop]
set_option maxHeartbeats 4000000 in
set_option maxRecDepth 100000 in
theorem put_calls (B g : Nat) (xs : List UInt8) (lv : Value) (b : Nat) (ss : List ByteArray) (w : World) (h : PkAt B g xs lv w) (hB : B ≤ w.heap.size)
    (hb : w.heap[b]? = some (.cells (ss.map Value.string).toArray 9 (0, 0))) (hl : xs.length + (strsB (strsOf ss)).length ≤ 70368744177664) (hs : ∀ s ∈ ss, s.size ≤ 4611686018427387904) (hn : ss.length ≤ 100) :
    Calls Try.prog 38 #[.pointer (some ⟨g, 0, none⟩), .slice (some ⟨b, 0, none⟩) ss.length ss.length] w fun e w' => e = .returned (.tuple #[]) ∧ PkAt B g (xs ++ strsB (strsOf ss)) lv w' ∧ PkStep B g w w' := by
  have hbg : b ≠ g := by
    obtain ⟨_, p, v, _, hg, _⟩ := h
    exact blk_ne hb hg (by decide)
  have H0 := Aside0.mk h
  have HB := Aside0.mk hB
  have Hb := Aside0.mk hb
  have HL := Aside0.mk hl
  have HS := Aside0.mk hs
  clear h hB hb hl hs
  go_enter Try.func38, Try.ntmps38
  go_wp2
  go_loopw [8] (fun v8 wr => ∃ k : Nat, k ≤ ss.length ∧ v8 = .int .i64 k ∧ Aside0 (PkAt B g (xs ++ strsB (strsOf (ss.take k))) lv wr) ∧ Aside0 (PkStep B g w wr)) (fun v8 _ => ss.length - (intOf v8).toNat)
  case atStart => exact ⟨0, by omega, rfl, ⟨by simpa [strsOf, strsB] using H0.out⟩, ⟨PkStep.refl _ _ _⟩⟩
  case round =>
    obtain ⟨k, hk, rfl, HP, HT⟩ := hrel
    by_cases hlt : k < ss.length
    · have hd : decide ((k : Int) < (ss.length : Int)) = true := decide_eq_true (by omega)
      obtain ⟨s, hsk⟩ : ∃ s, s = ss[k] := ⟨_, rfl⟩
      have hcell : wr.cell? ⟨b, k, none⟩ = some (.string s) := by
        rw [blk_cell (HT.out.blk Hb.out hbg (by decide))]
        simp [List.getElem?_eq_getElem hlt, hsk]
      have HSK := Aside0.mk hsk
      clear hsk
      have hss : s.size ≤ 4611686018427387904 := HS.out s (by rw [HSK.out]; exact List.getElem_mem hlt)
      have hroom : (xs ++ strsB (strsOf (ss.take k))).length + (bs (strB s.data.toList)).size ≤ 140737488355328 := by
        have h1 := HL.out
        have h2 := strs_split ss (k + 1)
        rw [strs_next ss k hlt, ← HSK.out] at h2
        rw [h2] at h1
        simp only [List.length_append] at h1 ⊢
        rw [bs_size]; omega
      have hnext : xs ++ strsB (strsOf (ss.take k)) ++ (bs (strB s.data.toList)).data.toList = xs ++ strsB (strsOf (ss.take (k + 1))) := by
        rw [bs_toList, strs_next ss k hlt, ← HSK.out, List.append_assoc]
      have HN := Aside0.mk hnext
      clear hnext
      go_wp2
      go_region_with (first
        | (go_at_call 18; refine (nar_Str.calls 9 s (bs (strB s.data.toList)) _ (str_any 0 s hss)).mono ?_; rintro e w1 ⟨rfl, hb1⟩; have HP1 := Aside0.mk (HP.out.drew.below hb1); have HT1 := Aside0.mk (HT.out.drew.below (Nat.le_trans HB.out HT.out.size) hb1); clear hb1)
        | (go_at_call 62; refine (pkWrite_calls B g (xs ++ strsB (strsOf (ss.take k))) lv (bs (strB s.data.toList)) _ HP1.out hroom (Nat.le_trans HB.out HT1.out.size)).mono ?_; rintro e w2 ⟨rfl, hp2, ht2⟩; have HP2 := Aside0.mk hp2; have HT2 := Aside0.mk (HT1.out.trans ht2); clear hp2 ht2))
      all_goals go_wp2
      all_goals go_roundw
      case rel => exact ⟨k + 1, by omega, by go_num, ⟨by rw [← HN.out]; exact HP2.out⟩, ⟨HT2.out⟩⟩
      case measure => simp [intOf]; omega
    · have hd : decide ((k : Int) < (ss.length : Int)) = false := decide_eq_false (by omega)
      go_wp2
      go_end0
      obtain rfl : k = ss.length := by omega
      exact ⟨rfl, by simpa using HP.out, HT.out⟩
end Go.Proofs.Ytncokgdfkbgflaa

namespace Go.Proofs.Ytncokgdfkbgflaa
structure Nd where
  path : List UInt8
  kind : Int
  data : List UInt8
def headOf (p : List UInt8) : List UInt8 := if p = [] then [] else p ++ [47]
def belowFrom (head : List UInt8) : Nat → List Nd → List (Nat × List UInt8)
  | _, [] => []
  | i, n :: l =>
    if Lib.hasPrefix n.path head then
      if (n.path.drop head.length).contains 47 then belowFrom head (i + 1) l else (i, n.path.drop head.length) :: belowFrom head (i + 1) l
    else []
def wOpen : List UInt8 := [40]
def wType : List UInt8 := [116, 121, 112, 101]
def wRegular : List UInt8 := [114, 101, 103, 117, 108, 97, 114]
def wContents : List UInt8 := [99, 111, 110, 116, 101, 110, 116, 115]
def wExec : List UInt8 := [101, 120, 101, 99, 117, 116, 97, 98, 108, 101]
def wSymlink : List UInt8 := [115, 121, 109, 108, 105, 110, 107]
def wTarget : List UInt8 := [116, 97, 114, 103, 101, 116]
def wDir : List UInt8 := [100, 105, 114, 101, 99, 116, 111, 114, 121]
def wEntry : List UInt8 := [101, 110, 116, 114, 121]
def wName : List UInt8 := [110, 97, 109, 101]
def wNode : List UInt8 := [110, 111, 100, 101]
def wShut : List UInt8 := [41]
def wMark : List UInt8 := [110, 105, 120, 45, 97, 114, 99, 104, 105, 118, 101, 45, 49]
def leafB (n : Nd) : List UInt8 :=
  if n.kind = 1 then strsB [wRegular, wContents, n.data]
  else if n.kind = 2 then strsB [wRegular, wExec, [], wContents, n.data]
  else strsB [wSymlink, wTarget, n.data]
def entryB (name body : List UInt8) : List UInt8 := strsB [wEntry, wOpen, wName, name, wNode] ++ body ++ strsB [wShut]
def packN : Nat → List Nd → Nat → List UInt8
  | 0, _, _ => []
  | f + 1, l, i =>
    match l[i]? with
    | none => []
    | some n =>
      strsB [wOpen, wType] ++ (if n.kind = 1 ∨ n.kind = 2 ∨ n.kind = 3 then leafB n
        else strsB [wDir] ++ (belowFrom (headOf n.path) (i + 1) (l.drop (i + 1))).flatMap (fun x => entryB x.2 (packN f l x.1))) ++ strsB [wShut]
end Go.Proofs.Ytncokgdfkbgflaa

namespace Go.Proofs.Ytncokgdfkbgflaa
set_option linter.unusedVariables false
set_option linter.unusedSimpArgs false
open Go.RowKit Go.Shelf Go.Proofs.YtncokgdfkbgflaaW.PrintWords Go.Proofs.YtncokgdfkbgflaaW.PrintMore P
attribute [local go_sem] Oper.semAt_some
def nd (x : S37) : Nd := ⟨x.f0.data.toList, x.f1, x.f2.data.toList⟩
def nds (l : List S37) : List Nd := l.map nd
def CellsKept (g : Nat) (w w' : World) : Prop := ∀ k c e fz, w.heap[k]? = some (.cells c e fz) → k ≠ g → e ≠ 5 → w'.heap[k]? = some (.cells c e fz)
structure PkKeep (B g : Nat) (lv : Value) (w w' : World) : Prop where
  below : Below B w w'
  cells : CellsKept g w w'
  pk : ∀ xs, PkAt B g xs lv w → ∃ ys, PkAt B g ys lv w'
theorem PkKeep.trans {B g : Nat} {lv : Value} {a b c : World} (h : PkKeep B g lv a b) (k : PkKeep B g lv b c) : PkKeep B g lv a c :=
  ⟨h.below.trans k.below, fun i cs e fz hi hne ht => k.cells i cs e fz (h.cells i cs e fz hi hne ht) hne ht, fun xs hx => by obtain ⟨ys, hy⟩ := h.pk xs hx; exact k.pk ys hy⟩
theorem PkKeep.putObj {B g : Nat} {lv : Value} {w : World} (hB : B ≤ w.heap.size) (W : World) (l : Nat) (o o' : Obj) (hl : w.heap.size ≤ l) (h : W.heap[l]? = some o) (hc : o.isCells = false) (_ : o.isWalk = false) : PkKeep B g lv W (W.putObj l o') := by
  refine ⟨(Below.refl B W).grown (grownBy_putObj' W l o') (by have := (Array.getElem?_eq_some_iff.1 h).1; omega) (fun k e => by cases e; omega), ?_, ?_⟩
  · intro k c e fz hk _ _
    have hne : k ≠ l := by rintro rfl; rw [h] at hk; cases hk; simp [Obj.isCells] at hc
    exact (World.putObj_heap_other hne).trans hk
  · intro xs hx
    exact ⟨xs, hx.step (some l) (grownBy_putObj' W l o') (fun r e => by cases e; exact ⟨o, h, hc⟩)⟩
abbrev El (at_ L : Nat) := { x : Nat × List UInt8 // at_ < x.1 ∧ x.1 < L ∧ x.2.length ≤ 1048576 }
def elEnc {at_ L : Nat} (x : El at_ L) : Array Value := #[.int .i64 (x.1.1 : Int), .string (bs x.1.2)]
structure BelowAt (B g b2 b3 b5 at_ : Nat) (head : ByteArray) (lv : Value) (w : World) : Prop where
  v2 : w.heap[b2]? = some (.cells #[.pointer (some ⟨g, 0, none⟩)] 61 (0, 0))
  v3 : w.heap[b3]? = some (.cells #[.int .i64 (at_ : Int)] 3 (0, 0))
  v5 : w.heap[b5]? = some (.cells #[.string head] 9 (0, 0))
  pk : ∃ xs, PkAt B g xs lv w
theorem BelowAt.ne {B g b2 b3 b5 at_ : Nat} {head : ByteArray} {lv : Value} {w : World} (h : BelowAt B g b2 b3 b5 at_ head lv w) : b2 ≠ g ∧ b3 ≠ g ∧ b5 ≠ g := by
  obtain ⟨xs, _, p, v, _, hg, _⟩ := h.pk
  exact ⟨blk_ne h.v2 hg (by decide), blk_ne h.v3 hg (by decide), blk_ne h.v5 hg (by decide)⟩
theorem BelowAt.keep {B g b2 b3 b5 at_ : Nat} {head : ByteArray} {lv : Value} {w w' : World} (h : BelowAt B g b2 b3 b5 at_ head lv w) (k : PkKeep B g lv w w') : BelowAt B g b2 b3 b5 at_ head lv w' := by
  obtain ⟨n2, n3, n5⟩ := h.ne
  refine ⟨k.cells _ _ _ _ h.v2 n2 (by decide), k.cells _ _ _ _ h.v3 n3 (by decide), k.cells _ _ _ _ h.v5 n5 (by decide), ?_⟩
  obtain ⟨xs, hx⟩ := h.pk
  exact k.pk xs hx
theorem BelowAt.below {B g b2 b3 b5 at_ : Nat} {head : ByteArray} {lv : Value} {w w' : World} (h : BelowAt B g b2 b3 b5 at_ head lv w) (k : Below w.heap.size w w') : BelowAt B g b2 b3 b5 at_ head lv w' := by
  obtain ⟨xs, hx⟩ := h.pk
  exact ⟨blk_below h.v2 k, blk_below h.v3 k, blk_below h.v5 k, ⟨xs, hx.below k⟩⟩
theorem belowFrom_here (head : List UInt8) (l : List Nd) (i : Nat) (h : i < l.length) : belowFrom head i (l.drop i) =
    if Lib.hasPrefix l[i].path head then
      if (l[i].path.drop head.length).contains 47 then belowFrom head (i + 1) (l.drop (i + 1)) else (i, l[i].path.drop head.length) :: belowFrom head (i + 1) (l.drop (i + 1))
    else [] := by
  rw [List.drop_eq_getElem_cons h]
  rfl
theorem belowFrom_end (head : List UInt8) (l : List Nd) (i : Nat) (h : l.length ≤ i) : belowFrom head i (l.drop i) = [] := by
  rw [List.drop_eq_nil_of_le h]; rfl
theorem slash_one (l : List UInt8) : decide (0 ≤ Lib.indexByte l 47) = l.contains 47 := (Lib.contains_iff_indexByte l 47).symm
theorem nds_at (l0 : List S37) (i : Nat) (h : i < l0.length) (h2 : i < (nds l0).length) : (nds l0)[i].path = l0[i].f0.data.toList := by simp [nds, nd]
theorem below_stop (head : List UInt8) (l0 : List S37) (i : Nat) (h : i < l0.length) (hp : Lib.hasPrefix l0[i].f0.data.toList head = false) : belowFrom head i ((nds l0).drop i) = [] := by
  have h2 : i < (nds l0).length := by simpa [nds] using h
  rw [belowFrom_here head _ i h2, nds_at l0 i h h2, if_neg (by rw [hp]; decide)]
theorem below_pass (head : List UInt8) (l0 : List S37) (i : Nat) (h : i < l0.length) (hp : Lib.hasPrefix l0[i].f0.data.toList head = true) (hq : (Lib.trimPrefix l0[i].f0.data.toList head).contains 47 = true) : belowFrom head i ((nds l0).drop i) = belowFrom head (i + 1) ((nds l0).drop (i + 1)) := by
  have h2 : i < (nds l0).length := by simpa [nds] using h
  unfold Lib.trimPrefix at hq
  rw [if_pos hp] at hq
  rw [belowFrom_here head _ i h2, nds_at l0 i h h2, if_pos hp, if_pos hq]
theorem below_take (head : List UInt8) (l0 : List S37) (i : Nat) (h : i < l0.length) (hp : Lib.hasPrefix l0[i].f0.data.toList head = true) (hq : (Lib.trimPrefix l0[i].f0.data.toList head).contains 47 = false) : belowFrom head i ((nds l0).drop i) = (i, Lib.trimPrefix l0[i].f0.data.toList head) :: belowFrom head (i + 1) ((nds l0).drop (i + 1)) := by
  have h2 : i < (nds l0).length := by simpa [nds] using h
  have ht : Lib.trimPrefix l0[i].f0.data.toList head = l0[i].f0.data.toList.drop head.length := by unfold Lib.trimPrefix; rw [if_pos hp]
  rw [ht] at hq ⊢
  rw [belowFrom_here head _ i h2, nds_at l0 i h h2, if_pos hp, if_neg (by rw [hq]; decide)]
theorem trim_le (s p : List UInt8) : (Lib.trimPrefix s p).length ≤ s.length := by
  unfold Lib.trimPrefix; split
  · simp
  · exact Nat.le_refl _
set_option maxRecDepth 100000 in
set_option maxHeartbeats 8000000 in
theorem below1_in (n : Nat) (hn : 1 ≤ n) (yl B g b2 b3 b5 at_ : Nat) (head : ByteArray) (A0 : Option Addr) (c0 : Nat) (l0 : List S37) (J Jx : List (El at_ l0.length) → World → Prop) (W : World)
    (hR : ∀ W', Below B W W' → Kd.C k37 W' A0 l0.length l0) (hA : BelowAt B g b2 b3 b5 at_ head (.slice A0 l0.length c0) W) (hB : B ≤ W.heap.size)
    (hJ : ∀ s w w', J s w → w.heap.size ≥ W.heap.size → w' = w.drew → J s w')
    (hsz : ∀ x ∈ l0, x.f0.size ≤ 1048576) (hat : at_ < l0.length) (hN : l0.length ≤ 1000000)
    (hY : ∀ pre x W1, J pre W1 → pre.length < l0.length → YieldAt Fence.wide (n - 1) Try.prog yl (elEnc x) W1 fun e W' =>
      (e = .returned (.bool true) ∧ J (pre ++ [x]) W' ∧ PkKeep B g (.slice A0 l0.length c0) W1 W') ∨ (e = .returned (.bool false) ∧ Jx (pre ++ [x]) W'))
    (h0 : J [] W) :
    CallsIn Fence.wide n Try.prog 82 #[.func (.yield yl) #[] #[], .pointer (some ⟨b3, 0, none⟩), .pointer (some ⟨b2, 0, none⟩), .pointer (some ⟨b5, 0, none⟩)] W fun e W' => (∃ v, e = .returned v) ∧
      ((∃ ys : List (El at_ l0.length), ys.map (·.1) = belowFrom head.data.toList (at_ + 1) ((nds l0).drop (at_ + 1)) ∧ J ys W') ∨ (∃ pre, Jx pre W')) := by
  have HY := Aside0.mk hY
  have HR := Aside0.mk hR
  have HJ := Aside0.mk hJ
  have HS := Aside0.mk hsz
  have hlen : (nds l0).length = l0.length := by simp [nds]
  have HL := Aside0.mk hlen
  have H0 := Aside0.mk h0
  have HA := Aside0.mk hA
  have hu37 := Try.underlying37
  have hmix : Try.prog.follows .mixedOrders = true := by kernel_rfl
  have e3 : W.cell? ⟨b3, 0, none⟩ = some (.int .i64 (at_ : Int)) := by rw [blk_cell hA.v3]; rfl
  clear hY hR hJ hsz hlen h0 hA
  refine callsIn_of_wp Try.func82 rfl trivial ?_ rfl
  simp only [Try.ntmps82, List.size_toArray, List.length_cons, List.length_nil, Nat.reduceAdd, Nat.reduceSub, Array.replicate_succ, Array.replicate_zero, List.push_toArray, List.append_toArray, List.nil_append, List.cons_append]
  gi_wp2
  gi_loopw [5] (fun v5 wr => ∃ (i : Nat) (pre : List (El at_ l0.length)), at_ < i ∧ i ≤ l0.length ∧ v5 = .int .i64 (i : Int) ∧ Aside0 (pre.map (·.1) ++ belowFrom head.data.toList i ((nds l0).drop i) = belowFrom head.data.toList (at_ + 1) ((nds l0).drop (at_ + 1)) ∧ pre.length + at_ < i) ∧ Aside0 (J pre wr) ∧ Aside0 (Below B W wr) ∧ Aside0 (BelowAt B g b2 b3 b5 at_ head (.slice A0 l0.length c0) wr))
    (fun v5 _ => l0.length - (intOf v5).toNat)
  case atStart =>
    exact ⟨at_ + 1, [], by omega, by omega, by go_num, ⟨by simp, by simp⟩, H0, ⟨Below.refl _ _⟩, HA⟩
  case round =>
    obtain ⟨i, pre, hi0, hi1, rfl, HP, HJp, HBl, HAt⟩ := hrel
    have e2 : wr.cell? ⟨b2, 0, none⟩ = some (.pointer (some ⟨g, 0, none⟩)) := by rw [blk_cell HAt.out.v2]; rfl
    have e5 : wr.cell? ⟨b5, 0, none⟩ = some (.string head) := by rw [blk_cell HAt.out.v5]; rfl
    have eg : wr.cell? ⟨g, 2, none⟩ = some (.slice A0 l0.length c0) := by obtain ⟨xs, hx⟩ := HAt.out.pk; exact hx.cell2
    by_cases hlt : i < l0.length
    · have hd : decide ((i : Int) < (l0.length : Int)) = true := decide_eq_true (by omega)
      obtain ⟨ad, ea, hx0, hx1, hx2⟩ := at_T37 (HR.out _ HBl.out) (i : Int) (by omega) (by omega)
      rw [Int.toNat_natCast] at hx0 hx1 hx2
      rw [rd37_at l0 i hlt] at hx0 hx1 hx2
      obtain ⟨x, hx⟩ : ∃ x, x = l0[i] := ⟨_, rfl⟩
      rw [← hx] at hx0 hx1 hx2
      have HX := Aside0.mk hx
      clear hx
      cases ea
      obtain ⟨nm, hnm⟩ : ∃ nm, nm = Lib.trimPrefix x.f0.data.toList head.data.toList := ⟨_, rfl⟩
      have HNM := Aside0.mk hnm
      have hcall : ∀ w, Calls Try.prog 83 #[.string x.f0, .string head] w fun e w' => e = .returned (.tuple #[.string ⟨nm.toArray⟩, .bool (Lib.hasPrefix x.f0.data.toList head.data.toList)]) ∧ w' = w := fun w => by rw [hnm]; exact Try.strings_CutPrefix x.f0 head w
      have HC := Aside0.mk hcall
      clear hnm hcall
      cases hp : Lib.hasPrefix x.f0.data.toList head.data.toList with
      | false =>
        have Hp := Aside0.mk hp
        clear hp
        gi_wp2
        gi_region_with_o (refine ⟨trivial, ?_⟩; gi_at_call 83; refine (callsIn_wide.2 (HC.out _)).mono ?_; rw [Hp.out]; rintro e w' ⟨rfl, rfl⟩)
        all_goals gi_wp2
        all_goals refine bodyPost_ret (results_none rfl _ _ _) rfl ?_
        all_goals exact ⟨⟨_, rfl⟩, .inl ⟨pre, by
          have h1 := HP.out.1
          rw [below_stop head.data.toList l0 i hlt (by rw [← HX.out]; exact Hp.out), List.append_nil] at h1
          exact h1, HJ.out _ _ _ HJp.out HBl.out.size rfl⟩⟩
      | true =>
        have Hp := Aside0.mk hp
        clear hp
        cases hq : nm.contains 47 with
        | true =>
          have Hq := Aside0.mk hq
          clear hq
          gi_wp2
          gi_region_with_o (refine ⟨trivial, ?_⟩; gi_at_call 83; refine (callsIn_wide.2 (HC.out _)).mono ?_; rw [Hp.out]; rintro e w' ⟨rfl, rfl⟩)
          all_goals gi_wp2_with (first | (refine ⟨trivial, ?_⟩; gi_at_call 65; refine (callsIn_wide.2 (Try.strings_Contains_one ⟨nm.toArray⟩ 47 _)).mono ?_; rw [slash_one]; rw [show (⟨nm.toArray⟩ : ByteArray).data.toList = nm from rfl, Hq.out]; rintro e w' ⟨rfl, rfl⟩) | ((with_reducible refine And.intro ?_ ?_); focus (intro _ h_; cases h_)))
          all_goals
            go_roundw
            case rel => exact ⟨i + 1, pre, by omega, by omega, by go_num, ⟨by
              have h1 := HP.out.1
              rw [below_pass head.data.toList l0 i hlt (by rw [← HX.out]; exact Hp.out) (by rw [← HX.out, ← HNM.out]; exact Hq.out)] at h1
              exact h1, by have := HP.out.2; omega⟩, ⟨HJ.out _ _ _ HJp.out HBl.out.size rfl⟩, ⟨below_drew HBl.out⟩, ⟨HAt.out.below (below_drew (Below.refl _ _))⟩⟩
            case measure => simp [intOf]; omega
        | false =>
          have Hq := Aside0.mk hq
          clear hq
          have hnl : nm.length ≤ 1048576 := by
            rw [HNM.out]
            have h1 := HS.out x (by rw [HX.out]; exact List.getElem_mem hlt)
            have h2 := trim_le x.f0.data.toList head.data.toList
            rw [← Lib.size_eq] at h2
            omega
          obtain ⟨fn, tmps, assign, body, hy, hRd⟩ := HY.out pre ⟨(i, nm), hi0, hlt, hnl⟩ wr.drew (HJ.out _ _ _ HJp.out HBl.out.size rfl) (by have := HP.out.2; omega)
          dsimp only [elEnc, bs] at hy
          gi_wp2
          gi_region_with_o (refine ⟨trivial, ?_⟩; gi_at_call 83; refine (callsIn_wide.2 (HC.out _)).mono ?_; rw [Hp.out]; rintro e w' ⟨rfl, rfl⟩)
          all_goals gi_wp2_with (first | (refine ⟨trivial, ?_⟩; gi_at_call 65; refine (callsIn_wide.2 (Try.strings_Contains_one ⟨nm.toArray⟩ 47 _)).mono ?_; rw [slash_one]; rw [show (⟨nm.toArray⟩ : ByteArray).data.toList = nm from rfl, Hq.out]; rintro e w' ⟨rfl, rfl⟩))
          all_goals
            refine hRd.mono ?_
            rintro e W3 (⟨rfl, hJ3, hk3⟩ | ⟨rfl, hJx3⟩)
            · have HJ3 := Aside0.mk hJ3
              have HK3 := Aside0.mk hk3
              clear hJ3 hk3
              gi_wp2
              go_roundw
              case rel => exact ⟨i + 1, pre ++ [⟨(i, nm), hi0, hlt, hnl⟩], by omega, by omega, by go_num, ⟨by
                have h1 := HP.out.1
                rw [below_take head.data.toList l0 i hlt (by rw [← HX.out]; exact Hp.out) (by rw [← HX.out, ← HNM.out]; exact Hq.out), ← HX.out, ← HNM.out] at h1
                rw [← h1, List.map_append, List.append_assoc]; rfl, by have := HP.out.2; rw [List.length_append]; simp only [List.length_cons, List.length_nil]; omega⟩, HJ3, ⟨(below_drew HBl.out).trans HK3.out.below⟩, ⟨(HAt.out.below (below_drew (Below.refl _ _))).keep HK3.out⟩⟩
              case measure => simp [intOf]; omega
            · have HJ3 := Aside0.mk hJx3
              clear hJx3
              gi_wp2
              refine bodyPost_ret (results_none rfl _ _ _) rfl ?_
              exact ⟨⟨_, rfl⟩, .inr ⟨_, HJ3.out⟩⟩
    · have hd : decide ((i : Int) < (l0.length : Int)) = false := decide_eq_false (by omega)
      gi_wp2
      go_end0
      exact ⟨⟨_, rfl⟩, .inl ⟨pre, by
        have h1 := HP.out.1
        rw [belowFrom_end head.data.toList (nds l0) i (by rw [HL.out]; omega), List.append_nil] at h1
        exact h1, HJp.out⟩⟩
end Go.Proofs.Ytncokgdfkbgflaa

namespace Go.Proofs.Ytncokgdfkbgflaa
set_option linter.unusedVariables false
set_option linter.unusedSimpArgs false
open Go.RowKit Go.Shelf Go.Proofs.YtncokgdfkbgflaaW.PrintWords Go.Proofs.YtncokgdfkbgflaaW.PrintMore P
def belowW (W : World) (g at_ : Nat) (h : ByteArray) : World := (((W.alloc (.cells #[.pointer (some ⟨g, 0, none⟩)] 61)).alloc (.cells #[.int .i64 (at_ : Int)] 3)).alloc (.cells #[.string h] 9)).drew
theorem belowW_below (W : World) (g at_ : Nat) (h : ByteArray) : Below W.heap.size W (belowW W g at_ h) := below_drew (below_alloc (below_alloc (below_alloc (Below.refl _ _) _) _) _)
theorem belowW_at {B g at_ : Nat} {xs : List UInt8} {lv : Value} {W : World} (hP : PkAt B g xs lv W) (h : ByteArray) : BelowAt B g W.heap.size (W.heap.size + 1) (W.heap.size + 1 + 1) at_ h lv (belowW W g at_ h) := by
  refine ⟨?_, ?_, ?_, xs, hP.below (belowW_below W g at_ h)⟩
  · exact blk_alloc (blk_alloc (blk_new W _) _) _
  · have h1 := blk_new (W.alloc (.cells #[.pointer (some ⟨g, 0, none⟩)] 61)) (.cells #[.int .i64 (at_ : Int)] 3)
    rw [World.size_alloc] at h1
    exact blk_alloc h1 _
  · have h1 := blk_new ((W.alloc (.cells #[.pointer (some ⟨g, 0, none⟩)] 61)).alloc (.cells #[.int .i64 (at_ : Int)] 3)) (.cells #[.string h] 9)
    rw [World.size_alloc, World.size_alloc] at h1
    exact h1
theorem head_nil (s : ByteArray) (h : s.toList = []) : s = bs (headOf s.data.toList) := by
  have h1 : s.data.toList = [] := by rw [← toList_data]; exact h
  rw [h1]; show s = bs []; rw [← h1, bs_data]
theorem head_some (s : ByteArray) (h : ¬ s.toList = []) : s ++ ⟨#[47]⟩ = bs (headOf s.data.toList) := by
  have h1 : ¬ s.data.toList = [] := by rw [← toList_data]; exact h
  rw [headOf, if_neg h1, ← bs_append, bs_data]; rfl
set_option maxRecDepth 100000 in
set_option maxHeartbeats 4000000 in
theorem below_calls (B g at_ : Nat) (xs : List UInt8) (A0 : Option Addr) (c0 : Nat) (l0 : List S37) (W : World) (hP : PkAt B g xs (.slice A0 l0.length c0) W) (hR : Kd.C k37 W A0 l0.length l0) (hat : at_ < l0.length) (hsz : l0[at_].f0.size ≤ 1048576) :
    Calls Try.prog 63 #[.pointer (some ⟨g, 0, none⟩), .int .i64 (at_ : Int)] W fun e w' => ∃ b2 b3 b5, e = .returned (.func (.func 82) #[] #[.pointer (some ⟨b3, 0, none⟩), .pointer (some ⟨b2, 0, none⟩), .pointer (some ⟨b5, 0, none⟩)]) ∧
      BelowAt B g b2 b3 b5 at_ (bs (headOf l0[at_].f0.data.toList)) (.slice A0 l0.length c0) w' ∧ Below W.heap.size W w' := by
  have hm := Kd.C_max hR
  obtain ⟨ad, ea, hx0, hx1, hx2⟩ := at_T37 hR (at_ : Int) (by omega) (by omega)
  rw [Int.toNat_natCast] at hx0 hx1 hx2
  rw [rd37_at l0 at_ hat] at hx0 hx1 hx2
  obtain ⟨x, hx⟩ : ∃ x, x = l0[at_] := ⟨_, rfl⟩
  rw [← hx] at hx0 hx1 hx2 hsz
  have HX := Aside0.mk hx
  clear hx
  cases ea
  have eg : W.cell? ⟨g, 2, none⟩ = some (.slice (some ad) l0.length c0) := hP.cell2
  have hgl := hP.lt
  have hal : (ad.add (at_ * 3)).block < W.heap.size := World.block_lt_of_cell? W _ hx0
  have hd : decide ((at_ : Int) < (l0.length : Int)) = true := decide_eq_true (by omega)
  have HP := Aside0.mk hP
  clear hP hR hx1 hx2
  have hu37 := Try.underlying37
  have k1 : ∀ o1 o2, ((W.alloc o1).alloc o2).cell? (ad.add (at_ * 3)) = some (.string x.f0) := fun o1 o2 => pw_cell_below (below_alloc (below_alloc (Below.refl _ _) o1) o2) hx0
  have k2 : ∀ o1 o2 o3, (((W.alloc o1).alloc o2).alloc o3).cell? (ad.add (at_ * 3)) = some (.string x.f0) := fun o1 o2 o3 => pw_cell_below (below_alloc (below_alloc (below_alloc (Below.refl _ _) o1) o2) o3) hx0
  have k3 : ∀ o1 o2, ((W.alloc o1).alloc o2).cell? ⟨g, 2, none⟩ = some (.slice (some ad) l0.length c0) := fun o1 o2 => pw_cell_below (below_alloc (below_alloc (Below.refl _ _) o1) o2) eg
  have k4 : ∀ o1 o2 o3, (((W.alloc o1).alloc o2).alloc o3).cell? ⟨g, 2, none⟩ = some (.slice (some ad) l0.length c0) := fun o1 o2 o3 => pw_cell_below (below_alloc (below_alloc (below_alloc (Below.refl _ _) o1) o2) o3) eg
  by_cases hp : x.f0.toList = []
  · have e1 : (x.f0.toList == []) = true := by rw [hp]; rfl
    have e2 : (x.f0.toList != []) = false := by rw [hp]; rfl
    have e3 : x.f0.toList.isEmpty = true := by rw [hp]; rfl
    have HH := Aside0.mk hp
    clear hp
    go_enter Try.func63, Try.ntmps63
    go_wp2
    go_region
    all_goals
      go_wp2
      go_ret
      refine ⟨W.heap.size, W.heap.size + 1, W.heap.size + 1 + 1, rfl, ?_, belowW_below W g at_ _⟩
      rw [← HX.out, ← head_nil x.f0 HH.out]
      exact belowW_at (at_ := at_) HP.out _
  · have e1 : (x.f0.toList == []) = false := beq_eq_false_iff_ne.2 hp
    have e2 : (x.f0.toList != []) = true := bne_iff_ne.2 hp
    have e3 : x.f0.toList.isEmpty = false := by rw [List.isEmpty_eq_false_iff]; exact hp
    have HH := Aside0.mk hp
    clear hp
    go_enter Try.func63, Try.ntmps63
    go_wp2
    go_region
    all_goals
      go_wp2
      go_ret
      refine ⟨W.heap.size, W.heap.size + 1, W.heap.size + 1 + 1, rfl, ?_, belowW_below W g at_ _⟩
      rw [← HX.out, ← head_some x.f0 HH.out]
      exact belowW_at (at_ := at_) HP.out _
end Go.Proofs.Ytncokgdfkbgflaa

namespace Go.Proofs.Ytncokgdfkbgflaa
set_option linter.unusedVariables false
set_option linter.unusedSimpArgs false
open Go.RowKit Go.Shelf Go.Proofs.YtncokgdfkbgflaaW.PrintWords Go.Proofs.YtncokgdfkbgflaaW.PrintMore P
attribute [local go_sem] Oper.semAt_some
structure NodeSt (B g : Nat) (lv : Value) (b2 b4 : Nat) (x : S37) (W0 : World) (xs : List UInt8) (W : World) : Prop where
  pk : PkAt B g xs lv W
  st : PkStep B g W0 W
  v2 : W.heap[b2]? = some (.cells #[.pointer (some ⟨g, 0, none⟩)] 61 (0, 0))
  v4 : W.heap[b4]? = some (.cells #[.string x.f0, .int .i64 x.f1, .string x.f2] 37 (0, 0))
theorem NodeSt.ne {B g : Nat} {lv : Value} {b2 b4 : Nat} {x : S37} {W0 : World} {xs : List UInt8} {W : World} (h : NodeSt B g lv b2 b4 x W0 xs W) : b2 ≠ g ∧ b4 ≠ g := by
  obtain ⟨_, p, v, _, hg, _⟩ := h.pk
  exact ⟨blk_ne h.v2 hg (by decide), blk_ne h.v4 hg (by decide)⟩
theorem NodeSt.put {B g : Nat} {lv : Value} {b2 b4 : Nat} {x : S37} {W0 : World} {xs ys : List UInt8} {W W' : World} (h : NodeSt B g lv b2 b4 x W0 xs W) (hp : PkAt B g ys lv W') (hs : PkStep B g W W') : NodeSt B g lv b2 b4 x W0 ys W' :=
  ⟨hp, h.st.trans hs, hs.blk h.v2 h.ne.1 (by decide), hs.blk h.v4 h.ne.2 (by decide)⟩
theorem NodeSt.below {B g : Nat} {lv : Value} {b2 b4 : Nat} {x : S37} {W0 : World} {xs : List UInt8} {W W' : World} (h : NodeSt B g lv b2 b4 x W0 xs W) (hB : B ≤ W.heap.size) (hb : Below W.heap.size W W') : NodeSt B g lv b2 b4 x W0 xs W' :=
  ⟨h.pk.below hb, h.st.below hB hb, blk_below h.v2 hb, blk_below h.v4 hb⟩
theorem NodeSt.c2 {B g : Nat} {lv : Value} {b2 b4 : Nat} {x : S37} {W0 : World} {xs : List UInt8} {W : World} (h : NodeSt B g lv b2 b4 x W0 xs W) : W.cell? ⟨b2, 0, none⟩ = some (.pointer (some ⟨g, 0, none⟩)) := by rw [blk_cell h.v2]; rfl
theorem NodeSt.c40 {B g : Nat} {lv : Value} {b2 b4 : Nat} {x : S37} {W0 : World} {xs : List UInt8} {W : World} (h : NodeSt B g lv b2 b4 x W0 xs W) : W.cell? ⟨b4, 1, none⟩ = some (.int .i64 x.f1) := by rw [blk_cell h.v4]; rfl
theorem NodeSt.c41 {B g : Nat} {lv : Value} {b2 b4 : Nat} {x : S37} {W0 : World} {xs : List UInt8} {W : World} (h : NodeSt B g lv b2 b4 x W0 xs W) : W.cell? ⟨b4, 2, none⟩ = some (.string x.f2) := by rw [blk_cell h.v4]; rfl
theorem put_st {B g : Nat} {lv : Value} {b2 b4 : Nat} {x : S37} {W0 : World} {xs : List UInt8} {W V : World} (ss : List ByteArray) (k b : Nat) (hk : k = ss.length) (hbs : b = W.heap.size) (cs : Array Value) (hcs : cs = (ss.map Value.string).toArray) (h : NodeSt B g lv b2 b4 x W0 xs W) (hB : B ≤ W.heap.size)
    (hV : V = W.alloc (.cells cs 9)) (hl : xs.length + (strsB (strsOf ss)).length ≤ 70368744177664) (hs : ∀ s ∈ ss, s.size ≤ 4611686018427387904) (hn : ss.length ≤ 100) :
    Calls Try.prog 38 #[.pointer (some ⟨g, 0, none⟩), .slice (some ⟨b, 0, none⟩) k k] V fun e w' => e = .returned (.tuple #[]) ∧ Aside0 (NodeSt B g lv b2 b4 x W0 (xs ++ strsB (strsOf ss)) w' ∧ PkStep B g W w' ∧ B ≤ w'.heap.size) := by
  subst hV hk hcs hbs
  have hb : Below W.heap.size W (W.alloc (.cells (ss.map Value.string).toArray 9)) := below_alloc (Below.refl _ _) _
  have h1 := h.below hB hb
  refine (put_calls B g xs lv W.heap.size ss _ h1.pk (Nat.le_trans hB hb.size) (blk_new W _) hl hs hn).mono ?_
  rintro e w' ⟨rfl, hp, hs⟩
  have h2 : PkStep B g W w' := ((PkStep.refl B g W).below hB hb).trans hs
  exact ⟨rfl, ⟨h1.put hp hs, h2, Nat.le_trans hB h2.size⟩⟩
theorem packN_at (f : Nat) (l0 : List S37) (i : Nat) (h : i < l0.length) : packN (f + 1) (nds l0) i = strsB [wOpen, wType] ++ (if (nd l0[i]).kind = 1 ∨ (nd l0[i]).kind = 2 ∨ (nd l0[i]).kind = 3 then leafB (nd l0[i])
        else strsB [wDir] ++ (belowFrom (headOf (nd l0[i]).path) (i + 1) ((nds l0).drop (i + 1))).flatMap (fun x => entryB x.2 (packN f (nds l0) x.1))) ++ strsB [wShut] := by
  have h1 : (nds l0)[i]? = some (nd l0[i]) := by simp [nds, h]
  rw [packN, h1]
theorem packN_leaf (f : Nat) (l0 : List S37) (i : Nat) (h : i < l0.length) (x : S37) (hx : x = l0[i]) (hk : x.f1 = 1 ∨ x.f1 = 2 ∨ x.f1 = 3) : packN (f + 1) (nds l0) i = strsB [wOpen, wType] ++ leafB (nd x) ++ strsB [wShut] := by
  rw [packN_at f l0 i h, ← hx, if_pos (show (nd x).kind = 1 ∨ (nd x).kind = 2 ∨ (nd x).kind = 3 from hk)]
theorem NodeSt.own {β : Type} {B g : Nat} {lv : Value} {b2 b4 : Nat} {x : S37} {W0 : World} (bytes : β → List UInt8) {D : Nat} (h0 : W0.heap.size ≤ D) (hD : B ≤ D) (hB0 : B ≤ W0.heap.size) : OwnFrom D (fun s W => NodeSt B g lv b2 b4 x W0 (bytes s) W) := by
  intro s W W' row h hg hr
  have hn : ∀ k cs e fz, W.heap[k]? = some (.cells cs e fz) → some k ≠ row := by
    intro k cs e fz hk he
    obtain ⟨_, o, ho, hc⟩ := hr k he.symm
    rw [hk] at ho; cases ho; simp [Obj.isCells] at hc
  refine ⟨h.pk.step row hg (fun r e => (hr r e).2), ⟨h.st.1.grown hg (Nat.le_trans hB0 h.st.size) (fun k e => Nat.le_trans hD (hr k e).1), fun k o hk hne ho => ?_⟩, blk_grown h.v2 hg (hn _ _ _ _ h.v2), blk_grown h.v4 hg (hn _ _ _ _ h.v4)⟩
  have h1 := h.st.2 k o hk hne ho
  have h2 := blk_lt hk
  exact (hg.block k (blk_lt h1) (fun e => by have := (hr k e.symm).1; omega)).trans h1
theorem PkStep.keepsOthers {B g : Nat} {lv : Value} {xs : List UInt8} {V V' : World} (h : PkStep B g V V') (hp : PkAt B g xs lv V) : KeepsOthers V V' := by
  obtain ⟨_, p, v, _, hg, _⟩ := hp
  exact ⟨h.size, fun k o hk ho => h.obj hk (fun e => by subst e; rw [hg] at hk; cases hk; simp [Obj.isCells] at ho) ho⟩
theorem PkStep.keep {B g : Nat} {lv : Value} {ys : List UInt8} {V V' : World} (h : PkStep B g V V') (hp : PkAt B g ys lv V') : PkKeep B g lv V V' :=
  ⟨h.1, fun k c e fz hk hne ht => h.2 k _ hk (by simpa using hne) (fun c fz e => by injection e with _ e2 _; exact ht e2), fun _ _ => ⟨ys, hp⟩⟩
theorem below_stops (m : Nat) (hm : 1 ≤ m) (B g b2 b3 b5 at_ : Nat) (head : ByteArray) (A0 : Option Addr) (c0 : Nat) (l0 : List S37) (w : World)
    (hR : ∀ W', Below B w W' → Kd.C k37 W' A0 l0.length l0) (hA : BelowAt B g b2 b3 b5 at_ head (.slice A0 l0.length c0) w) (hB : B ≤ w.heap.size)
    (hsz : ∀ x ∈ l0, x.f0.size ≤ 1048576) (hat : at_ < l0.length) (hN : l0.length ≤ 1000000) :
    SeqStopsK Fence.wide m Try.prog 82 #[.pointer (some ⟨b3, 0, none⟩), .pointer (some ⟨b2, 0, none⟩), .pointer (some ⟨b5, 0, none⟩)] (elEnc (at_ := at_) (L := l0.length)) (PkKeep B g (.slice A0 l0.length c0))
      (fun ys => ys.map (·.1) = belowFrom head.data.toList (at_ + 1) ((nds l0).drop (at_ + 1))) (fun _ => True) l0.length w := by
  intro l J Jx V hV hJ hJx hY h0
  refine (below1_in m hm l B g b2 b3 b5 at_ head A0 c0 l0 J Jx V (fun W' h => hR W' ((below_then (Below.refl B w) hB hV).trans h)) (hA.below hV) (Nat.le_trans hB hV.size) ?_ hsz hat hN hY h0).mono ?_
  · intro s a b hs ha hb
    subst hb
    exact hJ s a _ none hs (grown_of_below (below_drew (Below.refl _ a)) none) (fun r e => by cases e)
  · rintro e W' ⟨hv, ⟨ys, h1, h2⟩ | ⟨pre, h⟩⟩
    · exact ⟨hv, .inl ⟨ys, h1, h2⟩⟩
    · exact ⟨hv, .inr ⟨pre, trivial, h⟩⟩
theorem flat_len (M : Nat) (F : Nat × List UInt8 → List UInt8) : ∀ (ys : List (Nat × List UInt8)), (∀ y ∈ ys, (F y).length ≤ M) → (ys.flatMap F).length ≤ ys.length * M
  | [], _ => by simp
  | y :: ys, h => by
    have h1 := h y List.mem_cons_self
    have h2 := flat_len M F ys (fun z hz => h z (List.mem_cons_of_mem _ hz))
    rw [List.flatMap_cons, List.length_append, List.length_cons, Nat.succ_mul]
    omega
set_option maxRecDepth 100000 in
set_option maxHeartbeats 8000000 in
theorem node_calls (B g M : Nat) (A0 : Option Addr) (c0 : Nat) (l0 : List S37)
    (hM : ∀ f i nm, i < l0.length → nm.length ≤ 1048576 → (entryB nm (packN f (nds l0) i)).length ≤ M)
    (hsz : ∀ x ∈ l0, x.f0.size ≤ 1048576 ∧ x.f2.size ≤ 4611686018427387904) (hN : l0.length ≤ 1000000) :
    ∀ (f at_ : Nat) (xs : List UInt8) (W : World), at_ < l0.length → l0.length - at_ ≤ f → PkAt B g xs (.slice A0 l0.length c0) W → (∀ W', Below B W W' → Kd.C k37 W' A0 l0.length l0) → B ≤ W.heap.size →
      xs.length + f * ((l0.length + 1) * M) ≤ 70368744177664 →
      Calls Try.prog 39 #[.pointer (some ⟨g, 0, none⟩), .int .i64 (at_ : Int)] W fun e W' => e = .returned (.tuple #[]) ∧ PkAt B g (xs ++ packN f (nds l0) at_) (.slice A0 l0.length c0) W' ∧ PkStep B g W W' := by
  intro f
  induction f with
  | zero => intro at_ xs W h1 h2; omega
  | succ f ih =>
    intro at_ xs W hat hf hP hC hB hroom
    have hm := Kd.C_max (hC W (Below.refl _ _))
    obtain ⟨ad, ea, hx0, hx1, hx2⟩ := at_T37 (hC W (Below.refl _ _)) (at_ : Int) (by omega) (by omega)
    rw [Int.toNat_natCast] at hx0 hx1 hx2
    rw [rd37_at l0 at_ hat] at hx0 hx1 hx2
    obtain ⟨x, hx⟩ : ∃ x, x = l0[at_] := ⟨_, rfl⟩
    rw [← hx] at hx0 hx1 hx2
    cases ea
    have eg : W.cell? ⟨g, 2, none⟩ = some (.slice (some ad) l0.length c0) := hP.cell2
    have hgl := hP.lt
    have hal : (ad.add (at_ * 3)).block < W.heap.size := World.block_lt_of_cell? W _ hx0
    have hd : decide ((at_ : Int) < (l0.length : Int)) = true := decide_eq_true (by omega)
    have hbb : Below W.heap.size W ((W.alloc (.cells #[.pointer (some ⟨g, 0, none⟩)] 61)).alloc (.cells #[.string x.f0, .int .i64 x.f1, .string x.f2] 37)) := below_alloc (below_alloc (Below.refl _ _) _) _
    have hv4 := blk_new (W.alloc (.cells #[.pointer (some ⟨g, 0, none⟩)] 61)) (.cells #[.string x.f0, .int .i64 x.f1, .string x.f2] 37)
    rw [World.size_alloc] at hv4
    have ST0 : Aside0 (NodeSt B g (.slice (some ad) l0.length c0) W.heap.size (W.heap.size + 1) x W xs ((W.alloc (.cells #[.pointer (some ⟨g, 0, none⟩)] 61)).alloc (.cells #[.string x.f0, .int .i64 x.f1, .string x.f2] 37))) :=
      ⟨hP.below hbb, (PkStep.refl B g W).below hB hbb, blk_alloc (blk_new W _) _, hv4⟩
    have HB0 : Aside0 (B ≤ ((W.alloc (.cells #[.pointer (some ⟨g, 0, none⟩)] 61)).alloc (.cells #[.string x.f0, .int .i64 x.f1, .string x.f2] 37)).heap.size) := ⟨Nat.le_trans hB hbb.size⟩
    have hsx := hsz x (by rw [hx]; exact List.getElem_mem hat)
    have hMx : (packN (f + 1) (nds l0) at_).length ≤ M := by
      have h1 := hM (f + 1) at_ [] hat (by simp)
      simp only [entryB, List.length_append] at h1
      omega
    have hroom1 : xs.length + (packN (f + 1) (nds l0) at_).length ≤ 70368744177664 := by
      have h1 : 1 * (1 * M) ≤ (f + 1) * ((l0.length + 1) * M) := Nat.mul_le_mul (by omega) (Nat.mul_le_mul (by omega) (Nat.le_refl M))
      omega
    have HX := Aside0.mk hx
    have HP := Aside0.mk hP
    have HC := Aside0.mk hC
    have HM := Aside0.mk hM
    have HS := Aside0.mk hsz
    have HR := Aside0.mk hroom
    have HR1 := Aside0.mk hroom1
    have HSX := Aside0.mk hsx
    have IH := Aside0.mk ih
    have hu37 := Try.underlying37
    clear hx hP hC hM hsz hroom ih hroom1 hbb hv4 hsx
    refine (callsIn_wide (n := 3)).1 ?_
    by_cases hk1 : x.f1 = 1
    · have hpk := packN_leaf f l0 at_ hat x HX.out (.inl hk1)
      have hpl : leafB (nd x) = strsB (strsOf [bs wRegular, bs wContents, x.f2]) := by
        rw [leafB, if_pos (show (nd x).kind = 1 from hk1)]; rfl
      rw [hpl] at hpk
      have hq := HR1.out
      rw [hpk] at hq
      simp only [List.length_append] at hq
      have HPK := Aside0.mk hpk
      have HQ := Aside0.mk hq
      have t1 : decide (x.f1 = 1) = true := decide_eq_true hk1
      have u1 : (x.f1 == 1) = true := beq_iff_eq.2 hk1
      have K1 := Aside0.mk hk1
      clear hk1
      clear hpk hpl hq
      refine callsIn_of_wp_marks Try.func39 rfl trivial ?_ rfl
      simp only [Try.ntmps39, List.size_toArray, List.length_cons, List.length_nil, Nat.reduceAdd, Nat.reduceSub, Array.replicate_succ, Array.replicate_zero, List.push_toArray, List.append_toArray, List.nil_append, List.cons_append]
      gi_wp2_with (refine ⟨trivial, ?_⟩; gi_at_call 38; refine (callsIn_wide.2 (put_st [bs wOpen, bs wType] 2 _ rfl (by simp) _ rfl ST0.out HB0.out rfl (by have := HQ.out; show xs.length + (strsB [wOpen, wType]).length ≤ _; omega) (by decide) (by decide))).mono ?_)
      rintro e w1 ⟨rfl, ST1⟩
      have c2 := ST1.out.1.c2
      have c40 := ST1.out.1.c40
      have c41 := ST1.out.1.c41
      gi_wp2_with (refine ⟨trivial, ?_⟩; gi_at_call 38; refine (callsIn_wide.2 (put_st [bs wRegular, bs wContents, x.f2] 3 _ rfl rfl _ rfl ST1.out.1 ST1.out.2.2 rfl (by have := HQ.out; rw [List.length_append]; show xs.length + (strsB [wOpen, wType]).length + _ ≤ _; omega) (by intro s hs; simp only [List.mem_cons, List.not_mem_nil, or_false] at hs; rcases hs with rfl | rfl | rfl; all_goals first | exact HSX.out.2 | decide) (by simp))).mono ?_)
      rintro e w2 ⟨rfl, ST2⟩
      have d2 := ST2.out.1.c2
      gi_wp2_with (refine ⟨trivial, ?_⟩; gi_at_call 38; refine (callsIn_wide.2 (put_st [bs wShut] 1 _ rfl rfl _ rfl ST2.out.1 ST2.out.2.2 rfl (by have := HQ.out; rw [List.length_append, List.length_append]; show xs.length + (strsB [wOpen, wType]).length + _ + (strsB [wShut]).length ≤ _; omega) (by decide) (by decide))).mono ?_)
      rintro e w3 ⟨rfl, ST3⟩
      gi_wp2
      exact ⟨_, results_none rfl _ _ _, rfl, by
        rw [HPK.out]
        have h := ST3.out.1.pk
        simp only [List.append_assoc] at h ⊢
        exact h, ST3.out.1.st⟩
    by_cases hk2 : x.f1 = 2
    · have hpk := packN_leaf f l0 at_ hat x HX.out (.inr (.inl hk2))
      have hpl : leafB (nd x) = strsB (strsOf [bs wRegular, bs wExec, bs [], bs wContents, x.f2]) := by
        rw [leafB, if_neg (show ¬ (nd x).kind = 1 from hk1), if_pos (show (nd x).kind = 2 from hk2)]; rfl
      rw [hpl] at hpk
      have hq := HR1.out
      rw [hpk] at hq
      simp only [List.length_append] at hq
      have HPK := Aside0.mk hpk
      have HQ := Aside0.mk hq
      have t1 : decide (x.f1 = 1) = false := decide_eq_false hk1
      have u1 : (x.f1 == 1) = false := beq_eq_false_iff_ne.2 hk1
      have K1 := Aside0.mk hk1
      clear hk1
      have t2 : decide (x.f1 = 2) = true := decide_eq_true hk2
      have u2 : (x.f1 == 2) = true := beq_iff_eq.2 hk2
      have K2 := Aside0.mk hk2
      clear hk2
      clear hpk hpl hq
      refine callsIn_of_wp_marks Try.func39 rfl trivial ?_ rfl
      simp only [Try.ntmps39, List.size_toArray, List.length_cons, List.length_nil, Nat.reduceAdd, Nat.reduceSub, Array.replicate_succ, Array.replicate_zero, List.push_toArray, List.append_toArray, List.nil_append, List.cons_append]
      gi_wp2_with (refine ⟨trivial, ?_⟩; gi_at_call 38; refine (callsIn_wide.2 (put_st [bs wOpen, bs wType] 2 _ rfl (by simp) _ rfl ST0.out HB0.out rfl (by have := HQ.out; show xs.length + (strsB [wOpen, wType]).length ≤ _; omega) (by decide) (by decide))).mono ?_)
      rintro e w1 ⟨rfl, ST1⟩
      have c2 := ST1.out.1.c2
      have c40 := ST1.out.1.c40
      have c41 := ST1.out.1.c41
      gi_wp2_with (refine ⟨trivial, ?_⟩; gi_at_call 38; refine (callsIn_wide.2 (put_st [bs wRegular, bs wExec, bs [], bs wContents, x.f2] 5 _ rfl rfl _ rfl ST1.out.1 ST1.out.2.2 rfl (by have := HQ.out; rw [List.length_append]; show xs.length + (strsB [wOpen, wType]).length + _ ≤ _; omega) (by intro s hs; simp only [List.mem_cons, List.not_mem_nil, or_false] at hs; rcases hs with rfl | rfl | rfl | rfl | rfl; all_goals first | exact HSX.out.2 | decide) (by simp))).mono ?_)
      rintro e w2 ⟨rfl, ST2⟩
      have d2 := ST2.out.1.c2
      gi_wp2_with (refine ⟨trivial, ?_⟩; gi_at_call 38; refine (callsIn_wide.2 (put_st [bs wShut] 1 _ rfl rfl _ rfl ST2.out.1 ST2.out.2.2 rfl (by have := HQ.out; rw [List.length_append, List.length_append]; show xs.length + (strsB [wOpen, wType]).length + _ + (strsB [wShut]).length ≤ _; omega) (by decide) (by decide))).mono ?_)
      rintro e w3 ⟨rfl, ST3⟩
      gi_wp2
      exact ⟨_, results_none rfl _ _ _, rfl, by
        rw [HPK.out]
        have h := ST3.out.1.pk
        simp only [List.append_assoc] at h ⊢
        exact h, ST3.out.1.st⟩
    by_cases hk3 : x.f1 = 3
    · have hpk := packN_leaf f l0 at_ hat x HX.out (.inr (.inr hk3))
      have hpl : leafB (nd x) = strsB (strsOf [bs wSymlink, bs wTarget, x.f2]) := by
        rw [leafB, if_neg (show ¬ (nd x).kind = 1 from hk1), if_neg (show ¬ (nd x).kind = 2 from hk2)]; rfl
      rw [hpl] at hpk
      have hq := HR1.out
      rw [hpk] at hq
      simp only [List.length_append] at hq
      have HPK := Aside0.mk hpk
      have HQ := Aside0.mk hq
      have t1 : decide (x.f1 = 1) = false := decide_eq_false hk1
      have u1 : (x.f1 == 1) = false := beq_eq_false_iff_ne.2 hk1
      have K1 := Aside0.mk hk1
      clear hk1
      have t2 : decide (x.f1 = 2) = false := decide_eq_false hk2
      have u2 : (x.f1 == 2) = false := beq_eq_false_iff_ne.2 hk2
      have K2 := Aside0.mk hk2
      clear hk2
      have t3 : decide (x.f1 = 3) = true := decide_eq_true hk3
      have u3 : (x.f1 == 3) = true := beq_iff_eq.2 hk3
      have K3 := Aside0.mk hk3
      clear hk3
      clear hpk hpl hq
      refine callsIn_of_wp_marks Try.func39 rfl trivial ?_ rfl
      simp only [Try.ntmps39, List.size_toArray, List.length_cons, List.length_nil, Nat.reduceAdd, Nat.reduceSub, Array.replicate_succ, Array.replicate_zero, List.push_toArray, List.append_toArray, List.nil_append, List.cons_append]
      gi_wp2_with (refine ⟨trivial, ?_⟩; gi_at_call 38; refine (callsIn_wide.2 (put_st [bs wOpen, bs wType] 2 _ rfl (by simp) _ rfl ST0.out HB0.out rfl (by have := HQ.out; show xs.length + (strsB [wOpen, wType]).length ≤ _; omega) (by decide) (by decide))).mono ?_)
      rintro e w1 ⟨rfl, ST1⟩
      have c2 := ST1.out.1.c2
      have c40 := ST1.out.1.c40
      have c41 := ST1.out.1.c41
      gi_wp2_with (refine ⟨trivial, ?_⟩; gi_at_call 38; refine (callsIn_wide.2 (put_st [bs wSymlink, bs wTarget, x.f2] 3 _ rfl rfl _ rfl ST1.out.1 ST1.out.2.2 rfl (by have := HQ.out; rw [List.length_append]; show xs.length + (strsB [wOpen, wType]).length + _ ≤ _; omega) (by intro s hs; simp only [List.mem_cons, List.not_mem_nil, or_false] at hs; rcases hs with rfl | rfl | rfl; all_goals first | exact HSX.out.2 | decide) (by simp))).mono ?_)
      rintro e w2 ⟨rfl, ST2⟩
      have d2 := ST2.out.1.c2
      gi_wp2_with (refine ⟨trivial, ?_⟩; gi_at_call 38; refine (callsIn_wide.2 (put_st [bs wShut] 1 _ rfl rfl _ rfl ST2.out.1 ST2.out.2.2 rfl (by have := HQ.out; rw [List.length_append, List.length_append]; show xs.length + (strsB [wOpen, wType]).length + _ + (strsB [wShut]).length ≤ _; omega) (by decide) (by decide))).mono ?_)
      rintro e w3 ⟨rfl, ST3⟩
      gi_wp2
      exact ⟨_, results_none rfl _ _ _, rfl, by
        rw [HPK.out]
        have h := ST3.out.1.pk
        simp only [List.append_assoc] at h ⊢
        exact h, ST3.out.1.st⟩
    · have hpk := packN_at f l0 at_ hat
      rw [← HX.out, if_neg (show ¬ ((nd x).kind = 1 ∨ (nd x).kind = 2 ∨ (nd x).kind = 3) from by simp only [not_or]; exact ⟨hk1, hk2, hk3⟩)] at hpk
      have hq := HR1.out
      rw [hpk] at hq
      simp only [List.length_append] at hq
      have HPK := Aside0.mk hpk
      have HQ := Aside0.mk hq
      have t1 : decide (x.f1 = 1) = false := decide_eq_false hk1
      have u1 : (x.f1 == 1) = false := beq_eq_false_iff_ne.2 hk1
      have K1 := Aside0.mk hk1
      clear hk1
      have t2 : decide (x.f1 = 2) = false := decide_eq_false hk2
      have u2 : (x.f1 == 2) = false := beq_eq_false_iff_ne.2 hk2
      have K2 := Aside0.mk hk2
      clear hk2
      have t3 : decide (x.f1 = 3) = false := decide_eq_false hk3
      have u3 : (x.f1 == 3) = false := beq_eq_false_iff_ne.2 hk3
      have K3 := Aside0.mk hk3
      clear hk3
      clear hpk hq
      refine callsIn_of_wp_marks Try.func39 rfl trivial ?_ rfl
      simp only [Try.ntmps39, List.size_toArray, List.length_cons, List.length_nil, Nat.reduceAdd, Nat.reduceSub, Array.replicate_succ, Array.replicate_zero, List.push_toArray, List.append_toArray, List.nil_append, List.cons_append]
      gi_wp2_with (refine ⟨trivial, ?_⟩; gi_at_call 38; refine (callsIn_wide.2 (put_st [bs wOpen, bs wType] 2 _ rfl (by simp) _ rfl ST0.out HB0.out rfl (by have := HQ.out; show xs.length + (strsB [wOpen, wType]).length ≤ _; omega) (by decide) (by decide))).mono ?_)
      rintro e w1 ⟨rfl, ST1⟩
      have c2 := ST1.out.1.c2
      have c40 := ST1.out.1.c40
      have c41 := ST1.out.1.c41
      gi_wp2_with (refine ⟨trivial, ?_⟩; gi_at_call 38; refine (callsIn_wide.2 (put_st [bs wDir] 1 _ rfl rfl _ rfl ST1.out.1 ST1.out.2.2 rfl (by have := HQ.out; rw [List.length_append]; show xs.length + (strsB [wOpen, wType]).length + (strsB [wDir]).length ≤ _; omega) (by decide) (by decide))).mono ?_)
      rintro e w2 ⟨rfl, ST2⟩
      have d2 := ST2.out.1.c2
      have hbel := below_calls B g at_ _ (some ad) c0 l0 w2 ST2.out.1.pk (HC.out _ ST2.out.1.st.1) hat (by rw [← HX.out]; exact HSX.out.1)
      have HBEL := Aside0.mk hbel
      clear hbel
      gi_wp2_with (refine ⟨trivial, ?_⟩; gi_at_call 63; refine (callsIn_wide.2 HBEL.out).mono ?_)
      rintro e w3 ⟨b2, b3, b5, rfl, hba, hb3⟩
      have HBA := Aside0.mk hba
      have ST3 := Aside0.mk (ST2.out.1.below ST2.out.2.2 hb3)
      have HB3 := Aside0.mk (Nat.le_trans ST2.out.2.2 hb3.size)
      clear hba hb3
      gi_wp2
      have hot : (strsB [wOpen, wType]).length + (strsB [wDir]).length ≤ M := by
        have h1 := hMx
        rw [HPK.out] at h1
        simp only [List.length_append] at h1
        omega
      have hsz3 := ST3.out.st.size
      refine wpIn_rangeFunc_ownF (α := El at_ l0.length) rfl (by decide) (gf := 82) (lb := #[.pointer (some ⟨b3, 0, none⟩), .pointer (some ⟨b2, 0, none⟩), .pointer (some ⟨b5, 0, none⟩)]) rfl trivial (enters_of Try.func82 (by kernel_rfl) rfl)
        (below_stops 2 (by decide) B g b2 b3 b5 at_ _ (some ad) c0 l0 w3 (fun W' h => HC.out W' (ST3.out.st.1.trans h)) HBA.out HB3.out (fun z hz => (HS.out z hz).1) hat hN)
        (fun h k => h.trans k) (PkKeep.putObj HB3.out) (Below.refl _ _) (fun _ => rfl)
        (fun pre V => NodeSt B g (.slice (some ad) l0.length c0) W.heap.size (W.heap.size + 1) x W (xs ++ strsB (strsOf [bs wOpen, bs wType]) ++ strsB (strsOf [bs wDir]) ++ (pre.map (·.1)).flatMap (fun y => entryB y.2 (packN f (nds l0) y.1))) V)
        (fun _ _ _ => False)
        (NodeSt.own _ hsz3 HB3.out hB)
        (fun _ _ _ _ _ h _ _ => h)
        (by have h := ST3.out; simpa using h)
        (fun y => { tmps := #[Value.pointer (some { block := g, off := 0 }), Value.int IntKind.i64 ↑at_, Value.pointer (some { block := W.heap.size, off := 0 }), undef, Value.pointer (some { block := W.heap.size + 1, off := 0 }), .int .i64 (y.1.1 : Int), .string (bs y.1.2), Value.pointer (some { block := g, off := 0 }), Value.pointer (some { block := g, off := 0 }), Value.pointer (some { block := g, off := 2 }), Value.slice (some ad) l0.length c0, Value.int IntKind.i64 ↑at_, Value.pointer (some (ad.add (at_ * 3))), Value.agg #[Value.string x.f0, Value.int IntKind.i64 x.f1, Value.string x.f2], Value.pointer (some { block := g, off := 0 }), Value.slice (some { block := W.heap.size + 1 + 1, off := 0 }) 2 2, Value.tuple #[], Value.pointer (some { block := W.heap.size + 1, off := 1 }), Value.int IntKind.i64 x.f1, Value.pointer (some { block := g, off := 0 }), Value.slice (some { block := w1.heap.size, off := 0 }) 1 1, Value.tuple #[], Value.pointer (some { block := g, off := 0 }), Value.int IntKind.i64 ↑at_, Value.func (Fn.func 82) #[] #[Value.pointer (some { block := b3, off := 0 }), Value.pointer (some { block := b2, off := 0 }), Value.pointer (some { block := b5, off := 0 })], .int .i64 (y.1.1 : Int), .string (bs y.1.2), undef, undef, undef, undef, undef, undef, undef, undef, undef, undef, Value.bool false, Value.bool false, undef, undef, undef, undef, undef, Value.bool false, Value.bool false, undef, undef, undef, undef, undef, Value.bool false, Value.bool false, undef, undef, undef, undef, undef, undef, undef, undef], defers := [] }) ?assign ?body ?done ?stop
      case assign =>
        intro l y V K hK
        dsimp only [elEnc]
        gi_wp2
        exact hK
      case body =>
        rintro l pre y V hI hlen
        have I := Aside0.mk hI
        have hBV := Aside0.mk (Nat.le_trans hB hI.st.size)
        have hy0 := y.2.1
        have hy1 := y.2.2.1
        have hy2 := y.2.2.2
        have hfl := flat_len M (fun y => entryB y.2 (packN f (nds l0) y.1)) (pre.map (·.1)) (by
          intro z hz
          obtain ⟨z', hz', rfl⟩ := List.mem_map.1 hz
          exact HM.out f z'.1.1 z'.1.2 z'.2.2.1 z'.2.2.2)
        rw [List.length_map] at hfl
        have he := HM.out f y.1.1 y.1.2 hy1 hy2
        rw [entryB, List.length_append, List.length_append] at he
        have hmul : pre.length * M + M ≤ l0.length * M := by
          rw [← Nat.succ_mul]; exact Nat.mul_le_mul (by omega) (Nat.le_refl M)
        have hr := HR.out
        rw [Nat.succ_mul f, Nat.succ_mul l0.length] at hr
        have hcur : (xs ++ strsB (strsOf [bs wOpen, bs wType]) ++ strsB (strsOf [bs wDir]) ++ (pre.map (·.1)).flatMap (fun y => entryB y.2 (packN f (nds l0) y.1))).length ≤ xs.length + M + pre.length * M := by
          simp only [List.length_append]
          show xs.length + (strsB [wOpen, wType]).length + (strsB [wDir]).length + _ ≤ _
          omega
        have HFL := Aside0.mk hfl
        have HE := Aside0.mk he
        have HMUL := Aside0.mk hmul
        have HRR := Aside0.mk hr
        have HCUR := Aside0.mk hcur
        have c2 := hI.c2
        clear hI hfl he hmul hr hcur
        have hput := put_st [bs wEntry, bs wOpen, bs wName, bs y.1.2, bs wNode] 5 V.heap.size rfl rfl _ rfl I.out hBV.out rfl (by
          have h1 := HCUR.out; have h2 := HE.out; have h3 := HMUL.out; have h4 := HRR.out
          show _ + (strsB [wEntry, wOpen, wName, y.1.2, wNode]).length ≤ _
          omega) (by
          intro s hs
          simp only [List.mem_cons, List.not_mem_nil, or_false] at hs
          rcases hs with rfl | rfl | rfl | rfl | rfl
          all_goals first | decide | (rw [bs_size]; omega)) (by simp)
        have HPUT := Aside0.mk hput
        clear hput
        gi_wp2
        refine ⟨trivial, ?_⟩
        gi_at_call 38
        refine (CallsIn.inRound l (callsIn_wide.2 HPUT.out)).mono ?_
        rintro e v1 ⟨rfl, T1⟩
        have c2 := T1.out.1.c2
        gi_wp2_with (refine ⟨trivial, ?_⟩; gi_at_call 39; refine (CallsIn.inRound l (callsIn_wide.2 (IH.out y.1.1 _ v1 hy1 (by omega) T1.out.1.pk (fun W' h => HC.out W' (T1.out.1.st.1.trans h)) T1.out.2.2 (by
          have h1 := HCUR.out; have h2 := HE.out; have h3 := HMUL.out; have h4 := HRR.out
          rw [List.length_append, Nat.succ_mul l0.length]
          show _ + (strsB [wEntry, wOpen, wName, y.1.2, wNode]).length + _ ≤ _; omega)))).mono ?_)
        rintro e v2 ⟨rfl, hp2, hs2⟩
        have T2 := Aside0.mk (T1.out.1.put hp2 hs2)
        have HS2 := Aside0.mk (hs2)
        have HB2 := Aside0.mk (Nat.le_trans T1.out.2.2 hs2.size)
        clear hp2 hs2
        have c2 := T2.out.c2
        gi_wp2_with (refine ⟨trivial, ?_⟩; gi_at_call 38; refine (CallsIn.inRound l (callsIn_wide.2 (put_st [bs wShut] 1 _ rfl rfl _ rfl T2.out HB2.out rfl (by
          have h1 := HCUR.out; have h2 := HE.out; have h3 := HMUL.out; have h4 := HRR.out
          rw [List.length_append, List.length_append]
          show _ + (strsB [wEntry, wOpen, wName, y.1.2, wNode]).length + _ + (strsB [wShut]).length ≤ _; omega) (by decide) (by decide)))).mono ?_)
        rintro e v3 ⟨rfl, T3⟩
        gi_wp2
        have hst := (T1.out.2.1.trans HS2.out).trans T3.out.2.1
        refine ⟨hst.keepsOthers I.out.pk, hst.keep T3.out.1.pk, ?_⟩
        have h := T3.out.1
        dsimp only
        rw [List.map_append, List.flatMap_append]
        simp only [List.map_cons, List.map_nil, List.flatMap_cons, List.flatMap_nil, List.append_nil]
        rw [show entryB y.1.2 (packN f (nds l0) y.1.1) = strsB (strsOf [bs wEntry, bs wOpen, bs wName, bs y.1.2, bs wNode]) ++ packN f (nds l0) y.1.1 ++ strsB (strsOf [bs wShut]) from rfl]
        simp only [List.append_assoc] at h ⊢
        exact h
      case done =>
        rintro D ys V hD hS hI hK
        have I := Aside0.mk hI
        have hBV := Aside0.mk (Nat.le_trans hB hI.st.size)
        have HK := Aside0.mk hK
        have HSS := Aside0.mk hS
        have c2 := hI.c2
        have hfin := HPK.out
        rw [HX.out] at hfin
        clear hI hK hS
        gi_wp2_with (refine ⟨trivial, ?_⟩; gi_at_call 38; refine (callsIn_wide.2 (put_st [bs wShut] 1 _ rfl rfl _ rfl I.out hBV.out rfl (by
          have h1 := HR1.out
          have h2 := HSS.out
          rw [bs_toList] at h2
          rw [hfin] at h1
          rw [h2]
          simp only [List.length_append] at h1 ⊢
          show xs.length + (strsB [wOpen, wType]).length + (strsB [wDir]).length + _ + (strsB [wShut]).length ≤ _
          have h3 : (nd l0[at_]).path = l0[at_].f0.data.toList := rfl
          rw [h3] at h1
          omega) (by decide) (by decide))).mono ?_)
        rintro e v4 ⟨rfl, T4⟩
        gi_wp2
        have hK4 := T4.out.2.1.obj HK.out (by obtain ⟨_, p, v, _, hg, _⟩ := I.out.pk; intro e; subst e; have := HK.out; rw [hg] at this; cases this) rfl
        have h5 := (NodeSt.own (β := Unit) (fun _ => _) hsz3 HB3.out hB).putObj (s := ()) (.deferred none) T4.out.1 hD hK4 rfl
        refine ⟨by simp, .inl ⟨_, _, rfl, run_takeDeferred hK4, ?_⟩⟩
        refine ⟨_, results_none rfl _ _ _, rfl, ?_, h5.st⟩
        have h6 := h5.pk
        have h2 := HSS.out
        rw [bs_toList] at h2
        rw [h2] at h6
        rw [hfin]
        simp only [List.append_assoc] at h6 ⊢
        exact h6
      case stop =>
        rintro D c pre V _ _ h _
        exact h.elim
end Go.Proofs.Ytncokgdfkbgflaa

namespace Go.Proofs.Ytncokgdfkbgflaa
set_option linter.unusedVariables false
set_option linter.unusedSimpArgs false
open Go.RowKit Go.Proofs.YtncokgdfkbgflaaW.PrintWords Go.Proofs.YtncokgdfkbgflaaW.PrintMore P
set_option maxHeartbeats 2000000 in
set_option maxRecDepth 100000 in
theorem pkString_calls (B g : Nat) (xs : List UInt8) (lv : Value) (w : World) (h : PkAt B g xs lv w) (h0 : xs ≠ []) :
    Calls Try.prog 40 #[.pointer (some ⟨g, 0, none⟩)] w fun e w' => e = .returned (.string (bs xs)) ∧ Below B w w' := by
  obtain ⟨hB, p, v, hp, hbk, hown⟩ := h
  have hl0 : xs.length ≠ 0 := by simpa using h0
  obtain ⟨q, cap, cur, rfl, hbg, hg, hnc, hcm, hcs, htake⟩ : ∃ q cap cur, v = .slice (some ⟨q, 0, none⟩) xs.length cap ∧ B ≤ q ∧ w.heap[q]? = some (.cells cur 5 (0, 0)) ∧ xs.length ≤ cap ∧ cap ≤ maxLen ∧ cur.size = cap * 1 ∧ cur.toList.take (xs.length * 1) = Lib.byteCells xs := by
    rcases hown.2 with ⟨_, hz⟩ | ⟨g, cap, cur, hv, r⟩
    · exact absurd hz hl0
    · exact ⟨g, cap, cur, hv, r⟩
  have c1 : w.drew.cell? ⟨g, 1, none⟩ = some (.slice (some ⟨q, 0, none⟩) xs.length cap) := by
    have : w.drew.heap[g]? = some (.cells #[p, .slice (some ⟨q, 0, none⟩) xs.length cap, lv] 66 (0, 0)) := hbk
    rw [blk_cell this]; rfl
  have hSD : (Builtin.unsafeSliceData_ #[22] 105 #[.slice (some ⟨q, 0, none⟩) xs.length cap]).run Try.prog w.drew = .ok (.pointer (some ⟨q, 0, none⟩)) w.drew :=
    Lib.run_unsafeSliceData_row _ _ _ _ _ _ (by omega)
  have hUS : (Builtin.unsafeString_ #[105, 3] 9 #[.pointer (some ⟨q, 0, none⟩), .int .i64 xs.length]).run Try.prog w.drew = .ok (.string (bs xs)) (w.drew.freeze ⟨q, 0, none⟩ xs.length) := by
    refine Lib.run_unsafeString_row w.drew 105 3 9 5 Try.underlying105 (by kernel_rfl) q cur.size (by have hg' : w.drew.heap[q]? = some (.cells cur 5 (0, 0)) := hg; simp [World.shape?, hg']) xs h0 (by omega) (by unfold maxLen at hcm; omega) ?_
    intro j x hx
    have := hown.cells (g := q) rfl j (.int .u8 x.toNat) (by simp [Lib.byteCells, hx])
    exact this
  have hmix : Try.prog.follows .mixedOrders = true := by kernel_rfl
  go_enter Try.func40, Try.ntmps40
  go_wp2
  go_region_o
  all_goals (go_wp2; go_ret; exact ⟨rfl, Lib.below_freeze (below_drew (Below.refl B w)) (p := ⟨q, 0, none⟩) hbg _⟩)
open Classical in
noncomputable def mayC (l : List S37) : Option Bool := if h : ∃ b k, nar_May.f k l = some b then some (Classical.choose h) else none
theorem mayC_get {l : List S37} {b : Bool} (h : mayC l = some b) : ∃ k, nar_May.f k l = some b := by
  unfold mayC at h
  split at h
  · rename_i hx
    have h1 := Classical.choose_spec hx
    cases h
    exact h1
  · cases h
theorem mayC_of {l : List S37} {k : Nat} {b : Bool} (h : nar_May.f k l = some b) : mayC l = some b := by
  have hx : ∃ b k, nar_May.f k l = some b := ⟨b, k, h⟩
  obtain ⟨c, hc⟩ : ∃ c, mayC l = some c := by unfold mayC; rw [dif_pos hx]; exact ⟨_, rfl⟩
  obtain ⟨k2, h2⟩ := mayC_get hc
  have a := leo_up (nar_May.mono l) h (k + k2) (by omega)
  have b' := leo_up (nar_May.mono l) h2 (k + k2) (by omega)
  rw [a] at b'
  cases b'
  exact hc
def PackRoom (l : List S37) (M : Nat) : Prop :=
  0 < l.length ∧ (∀ f i nm, i < l.length → nm.length ≤ 1048576 → (entryB nm (packN f (nds l) i)).length ≤ M) ∧ (∀ x ∈ l, x.f0.size ≤ 1048576 ∧ x.f2.size ≤ 4611686018427387904) ∧ l.length ≤ 1000000 ∧ 100 + l.length * ((l.length + 1) * M) ≤ 70368744177664
open Classical in
noncomputable def nar_Pack.f (l : List S37) : Option (ByteArray × Int) :=
  (mayC l).bind fun b => if b = true then (if ∃ M, PackRoom l M then some (bs (strB wMark ++ packN l.length (nds l) 0), 0) else none) else some (⟨#[]⟩, 1)
set_option maxHeartbeats 4000000 in
set_option maxRecDepth 100000 in
theorem nar_Pack.calls (A0 : Option Addr) (c0 : Nat) (l0 : List S37) (r1 : ByteArray) (r2 : Int) (w : World) (hr0 : Kd.C k37 w A0 l0.length l0) (hc0 : l0.length ≤ c0) (h : nar_Pack.f l0 = some (r1, r2)) :
    Calls Try.prog 13 #[.slice A0 l0.length c0] w fun e w' => e = .returned (.tuple #[.string r1, .int .i64 r2]) ∧ Below w.heap.size w w' := by
  unfold nar_Pack.f at h
  cases hm : mayC l0 with
  | none => rw [hm] at h; simp at h
  | some b =>
    rw [hm] at h
    obtain ⟨k, hk⟩ := mayC_get hm
    have hmay := nar_May.calls k A0 c0 l0 b w hr0 hc0 hk
    cases b with
    | false =>
      simp only [Option.bind_some, Bool.false_eq_true, if_false, Option.some.injEq, Prod.mk.injEq] at h
      obtain ⟨rfl, rfl⟩ := h
      have HMAY := Aside0.mk hmay
      clear hmay hr0 hk hm
      go_enter Try.func13, Try.ntmps13
      go_wp2_with (go_at_call 14; refine HMAY.out.mono ?_)
      rintro e w1 ⟨rfl, hb⟩
      have HB := Aside0.mk hb
      clear hb
      go_wp2
      go_ret2
      exact ⟨rfl, HB.out⟩
    | true =>
      simp only [Option.bind_some, if_true] at h
      split at h
      · rename_i hroom
        simp only [Option.some.injEq, Prod.mk.injEq] at h
        obtain ⟨rfl, rfl⟩ := h
        obtain ⟨M, hpos, hM, hsz, hN, hR⟩ := hroom
        have HMAY := Aside0.mk hmay
        have HC := Aside0.mk hr0
        have HM := Aside0.mk hM
        have HS := Aside0.mk hsz
        have HR := Aside0.mk hR
        have hu66 := Try.underlying66
        clear hmay hr0 hk hm hM hsz hR
        go_enter Try.func13, Try.ntmps13
        go_wp2_with (go_at_call 14; refine HMAY.out.mono ?_)
        rintro e w1 ⟨rfl, hb⟩
        have HB := Aside0.mk hb
        clear hb
        have hP1 : PkAt w1.heap.size w1.heap.size [] (.slice A0 l0.length c0) ((w1.alloc (.cells #[.pointer none, .slice none 0 0, .slice A0 l0.length c0] 66)).alloc (.cells #[.string ⟨#[110, 105, 120, 45, 97, 114, 99, 104, 105, 118, 101, 45, 49]⟩] 9)) :=
          PkAt.alloc ⟨Nat.le_refl _, .pointer none, .slice none 0 0, .inl rfl, blk_new _ _, World.ownsRow_nil _ _ 5 1⟩ _
        have hb1 : Below w1.heap.size w1 ((w1.alloc (.cells #[.pointer none, .slice none 0 0, .slice A0 l0.length c0] 66)).alloc (.cells #[.string ⟨#[110, 105, 120, 45, 97, 114, 99, 104, 105, 118, 101, 45, 49]⟩] 9)) := below_alloc (below_alloc (Below.refl _ _) _) _
        have hv := blk_new (w1.alloc (.cells #[.pointer none, .slice none 0 0, .slice A0 l0.length c0] 66)) (.cells #[.string ⟨#[110, 105, 120, 45, 97, 114, 99, 104, 105, 118, 101, 45, 49]⟩] 9)
        rw [World.size_alloc] at hv
        have hput := put_calls w1.heap.size w1.heap.size [] (.slice A0 l0.length c0) (w1.heap.size + 1) [bs wMark] _ hP1 hb1.size hv (by decide) (by decide) (by decide)
        have HPUT := Aside0.mk hput
        have HB1 := Aside0.mk hb1
        clear hput hv hP1 hb1
        go_wp2_with (go_at_call 38; refine HPUT.out.mono ?_)
        rintro e w2 ⟨rfl, hp2, hs2⟩
        have hb2 : Below w1.heap.size w1 w2 := HB1.out.trans hs2.1
        have hnode := node_calls w1.heap.size w1.heap.size M A0 c0 l0 HM.out HS.out hN l0.length 0 _ w2 hpos (by omega) hp2 (fun W' h => Kd.C_below (Kd.C_below HC.out HB.out) (hb2.trans h)) hb2.size (by
          have h1 := HR.out
          have h2 : ([] ++ strsB (strsOf [bs wMark])).length ≤ 100 := by decide
          omega)
        have HNODE := Aside0.mk hnode
        have HB2 := Aside0.mk hb2
        clear hnode hp2 hs2 hb2
        go_wp2_with (go_at_call 39; refine HNODE.out.mono ?_)
        rintro e w3 ⟨rfl, hp3, hs3⟩
        have hstr := pkString_calls w1.heap.size w1.heap.size _ _ w3 hp3 (by
          intro h
          have h1 := congrArg List.length h
          simp only [List.length_append, List.length_nil] at h1
          have h2 : (strsB (strsOf [bs wMark])).length = 24 := by decide
          omega)
        have HSTR := Aside0.mk hstr
        have HB3 := Aside0.mk (HB2.out.trans hs3.1)
        clear hstr hp3 hs3
        go_wp2_with (go_at_call 40; refine HSTR.out.mono ?_)
        rintro e w4 ⟨rfl, hb4⟩
        have HB4 := Aside0.mk (HB3.out.trans hb4)
        clear hb4
        go_wp2
        go_ret2
        refine ⟨?_, below_then HB.out HB.out.size HB4.out⟩
        have h1 : strB wMark = strsB (strsOf [bs wMark]) := by decide
        rw [h1]
        rfl
      · cases h
end Go.Proofs.Ytncokgdfkbgflaa
