/- The context of the evaluator for V: types, signatures, slots that live at loops; by a program (dec.py). No condition. -/
import Derived.Test.YtnjjkaanajifiaaProg
import Derived.Test.YtnjjkaanajifiaaRRow
import Derived.KernelRfl
set_option linter.all false
namespace Go.Proofs.Ytnjjkaanajifiaa.XV
open Go.Proofs.Ytnjjkaanajifiaa.R
set_option maxRecDepth 100000
abbrev ts_u8 : List Ty := [(.int .u8)]
abbrev E_u8 : Type := Int
abbrev z_u8 : E_u8 := zeroE ts_u8
abbrev rd_u8 (xs : List E_u8) (i : Int) : E_u8 := rdE ts_u8 xs i
def v_u8 (x : List E_u8) : A := .val (.sl 5 ts_u8) x
abbrev ts_s_u8 : List Ty := [(.sl 5 ts_u8)]
abbrev E_s_u8 : Type := List E_u8
abbrev z_s_u8 : E_s_u8 := zeroE ts_s_u8
abbrev rd_s_u8 (xs : List E_s_u8) (i : Int) : E_s_u8 := rdE ts_s_u8 xs i
def v_s_u8 (x : List E_s_u8) : A := .val (.sl 47 ts_s_u8) x
abbrev ts_LWr : List Ty := [(.int .i64), (.sl 5 ts_u8)]
abbrev E_LWr : Type := Int × List E_u8
abbrev z_LWr : E_LWr := zeroE ts_LWr
abbrev rd_LWr (xs : List E_LWr) (i : Int) : E_LWr := rdE ts_LWr xs i
def v_LWr (x : List E_LWr) : A := .val (.sl 60 ts_LWr) x
abbrev ts_Ent : List Ty := [(.int .i64), (.int .i64), .str, .str, (.int .i64), (.int .i64)]
abbrev E_Ent : Type := Int × Int × ByteArray × ByteArray × Int × Int
abbrev z_Ent : E_Ent := zeroE ts_Ent
abbrev rd_Ent (xs : List E_Ent) (i : Int) : E_Ent := rdE ts_Ent xs i
def v_Ent (x : List E_Ent) : A := .val (.sl 44 ts_Ent) x
abbrev ts_Wr : List Ty := [(.int .i64), (.sl 5 ts_u8)]
abbrev E_Wr : Type := Int × List E_u8
abbrev z_Wr : E_Wr := zeroE ts_Wr
abbrev rd_Wr (xs : List E_Wr) (i : Int) : E_Wr := rdE ts_Wr xs i
def v_Wr (x : List E_Wr) : A := .val (.sl 68 ts_Wr) x
abbrev Qz0 : Type := List E_u8 × Int
abbrev qz0 : List Ty := [(.sl 5 ts_u8), (.int .i64)]
abbrev Qz1 : Type := List E_s_u8 × Int × Int
abbrev qz1 : List Ty := [(.sl 47 ts_s_u8), (.int .i64), (.int .i64)]
abbrev Qz2 : Type := Int × Int
abbrev qz2 : List Ty := [(.int .i64), (.int .i64)]
abbrev Qz3 : Type := List E_s_u8 × Int
abbrev qz3 : List Ty := [(.sl 47 ts_s_u8), (.int .i64)]
abbrev Qz4 : Type := Int × List E_u8 × Int
abbrev qz4 : List Ty := [(.int .i64), (.sl 5 ts_u8), (.int .i64)]
abbrev Qz5 : Type := List E_LWr × Int × Int
abbrev qz5 : List Ty := [(.sl 60 ts_LWr), (.int .i64), (.int .i64)]
abbrev Qz6 : Type := List E_LWr × Int
abbrev qz6 : List Ty := [(.sl 60 ts_LWr), (.int .i64)]
abbrev Qz7 : Type := List E_s_u8 × List E_LWr × Int × Bool × Int
abbrev qz7 : List Ty := [(.sl 47 ts_s_u8), (.sl 60 ts_LWr), (.int .i64), .bool, (.int .i64)]
abbrev Qz8 : Type := Int × Int × Int
abbrev qz8 : List Ty := [(.int .i64), (.int .i64), (.int .i64)]
abbrev Qz9 : Type := List E_u8 × Int × Int × Int
abbrev qz9 : List Ty := [(.sl 5 ts_u8), (.int .i64), (.int .i64), (.int .i64)]
abbrev Qz10 : Type := List E_u8 × Int × Int
abbrev qz10 : List Ty := [(.sl 5 ts_u8), (.int .i64), (.int .i64)]
abbrev Qz11 : Type := Int × Int × Bool
abbrev qz11 : List Ty := [(.int .i64), (.int .i64), .bool]
abbrev Qz12 : Type := ByteArray × Int × Bool
abbrev qz12 : List Ty := [.str, (.int .i64), .bool]
abbrev Qz13 : Type := ByteArray × Int
abbrev qz13 : List Ty := [.str, (.int .i64)]
abbrev Qz14 : Type := ByteArray × Bool
abbrev qz14 : List Ty := [.str, .bool]
abbrev Qz15 : Type := Int × ByteArray × ByteArray × Int × Int
abbrev qz15 : List Ty := [(.int .i64), .str, .str, (.int .i64), (.int .i64)]
abbrev Qz16 : Type := Int × ByteArray × ByteArray × Int × Int × Int × Bool
abbrev qz16 : List Ty := [(.int .i64), .str, .str, (.int .i64), (.int .i64), (.int .i64), .bool]
abbrev Qz17 : Type := Int × Int × ByteArray × ByteArray × Int × Int
abbrev qz17 : List Ty := [(.int .i64), (.int .i64), .str, .str, (.int .i64), (.int .i64)]
abbrev Qz18 : Type := Int × Int × ByteArray × ByteArray × Int × Int × Bool
abbrev qz18 : List Ty := [(.int .i64), (.int .i64), .str, .str, (.int .i64), (.int .i64), .bool]
abbrev Qz19 : Type := Int × List E_s_u8 × List E_Wr × Int × Bool
abbrev qz19 : List Ty := [(.int .i64), (.sl 47 ts_s_u8), (.sl 68 ts_Wr), (.int .i64), .bool]
abbrev Qz20 : Type := Bool × List E_s_u8 × List E_Wr × Int × Bool
abbrev qz20 : List Ty := [.bool, (.sl 47 ts_s_u8), (.sl 68 ts_Wr), (.int .i64), .bool]
abbrev Qz21 : Type := List E_s_u8 × List E_Wr × Int × Bool
abbrev qz21 : List Ty := [(.sl 47 ts_s_u8), (.sl 68 ts_Wr), (.int .i64), .bool]
abbrev Qz22 : Type := Int × List E_u8 × Int × List E_s_u8 × List E_Wr × Int × Bool
abbrev qz22 : List Ty := [(.int .i64), (.sl 5 ts_u8), (.int .i64), (.sl 47 ts_s_u8), (.sl 68 ts_Wr), (.int .i64), .bool]
abbrev Qz23 : Type := List E_s_u8 × List E_Wr × Int × Bool × Int
abbrev qz23 : List Ty := [(.sl 47 ts_s_u8), (.sl 68 ts_Wr), (.int .i64), .bool, (.int .i64)]
abbrev Qz24 : Type := Int × Int × List E_s_u8 × List E_Wr × Int × Bool × List E_Ent
abbrev qz24 : List Ty := [(.int .i64), (.int .i64), (.sl 47 ts_s_u8), (.sl 68 ts_Wr), (.int .i64), .bool, (.sl 44 ts_Ent)]
abbrev Qz25 : Type := List E_u8 × Int × List E_u8
abbrev qz25 : List Ty := [(.sl 5 ts_u8), (.int .i64), (.sl 5 ts_u8)]
abbrev Qz26 : Type := List E_s_u8 × Int × List E_s_u8
abbrev qz26 : List Ty := [(.sl 47 ts_s_u8), (.int .i64), (.sl 47 ts_s_u8)]
abbrev Qz27 : Type := Int × List E_u8
abbrev qz27 : List Ty := [(.int .i64), (.sl 5 ts_u8)]
abbrev Qz28 : Type := List E_LWr × Int × List E_Wr
abbrev qz28 : List Ty := [(.sl 60 ts_LWr), (.int .i64), (.sl 68 ts_Wr)]
abbrev Qz29 : Type := List E_s_u8 × List E_LWr × Int × Bool
abbrev qz29 : List Ty := [(.sl 47 ts_s_u8), (.sl 60 ts_LWr), (.int .i64), .bool]
abbrev Qz30 : Type := List E_u8 × Int × Bool
abbrev qz30 : List Ty := [(.sl 5 ts_u8), (.int .i64), .bool]
abbrev Qz31 : Type := Int × List E_u8 × Int × Bool
abbrev qz31 : List Ty := [(.int .i64), (.sl 5 ts_u8), (.int .i64), .bool]
abbrev Qz32 : Type := ByteArray × List E_u8 × Int × Bool
abbrev qz32 : List Ty := [.str, (.sl 5 ts_u8), (.int .i64), .bool]
abbrev Qz33 : Type := Int × ByteArray × ByteArray × Int × Int × List E_u8 × Int × Bool
abbrev qz33 : List Ty := [(.int .i64), .str, .str, (.int .i64), (.int .i64), (.sl 5 ts_u8), (.int .i64), .bool]
abbrev Qz34 : Type := Bool × List E_u8 × Int × Bool
abbrev qz34 : List Ty := [.bool, (.sl 5 ts_u8), (.int .i64), .bool]
abbrev Qz35 : Type := Int × List E_u8 × Int × Int × Int
abbrev qz35 : List Ty := [(.int .i64), (.sl 5 ts_u8), (.int .i64), (.int .i64), (.int .i64)]
abbrev Qz36 : Type := Int × List E_u8 × Int × Int
abbrev qz36 : List Ty := [(.int .i64), (.sl 5 ts_u8), (.int .i64), (.int .i64)]
abbrev Qz37 : Type := List E_s_u8 × Int × Int × List E_s_u8 × List E_Wr × Int × Bool
abbrev qz37 : List Ty := [(.sl 47 ts_s_u8), (.int .i64), (.int .i64), (.sl 47 ts_s_u8), (.sl 68 ts_Wr), (.int .i64), .bool]
abbrev Qz38 : Type := List E_Wr × Int × Int × List E_s_u8 × List E_Wr × Int × Bool
abbrev qz38 : List Ty := [(.sl 68 ts_Wr), (.int .i64), (.int .i64), (.sl 47 ts_s_u8), (.sl 68 ts_Wr), (.int .i64), .bool]
abbrev Qz39 : Type := List E_s_u8 × Int × Int × List E_u8
abbrev qz39 : List Ty := [(.sl 47 ts_s_u8), (.int .i64), (.int .i64), (.sl 5 ts_u8)]
abbrev Qz40 : Type := Int × Int × List E_s_u8 × List E_Wr × Int × Bool
abbrev qz40 : List Ty := [(.int .i64), (.int .i64), (.sl 47 ts_s_u8), (.sl 68 ts_Wr), (.int .i64), .bool]
abbrev Qz41 : Type := Int × List E_s_u8 × List E_Wr × Int × Bool × List E_u8
abbrev qz41 : List Ty := [(.int .i64), (.sl 47 ts_s_u8), (.sl 68 ts_Wr), (.int .i64), .bool, (.sl 5 ts_u8)]
abbrev Qz42 : Type := Int × List E_s_u8 × List E_Wr × Int × Bool × List E_Ent
abbrev qz42 : List Ty := [(.int .i64), (.sl 47 ts_s_u8), (.sl 68 ts_Wr), (.int .i64), .bool, (.sl 44 ts_Ent)]
abbrev Qz43 : Type := Int × ByteArray × ByteArray × Int × Int × Int × ByteArray × ByteArray × Int × Int
abbrev qz43 : List Ty := [(.int .i64), .str, .str, (.int .i64), (.int .i64), (.int .i64), .str, .str, (.int .i64), (.int .i64)]
abbrev Qz44 : Type := Int × Int × ByteArray × ByteArray × Int × Int × Int × Int × ByteArray × ByteArray × Int × Int
abbrev qz44 : List Ty := [(.int .i64), (.int .i64), .str, .str, (.int .i64), (.int .i64), (.int .i64), (.int .i64), .str, .str, (.int .i64), (.int .i64)]
abbrev Qz45 : Type := List E_Ent × List E_Ent × Int
abbrev qz45 : List Ty := [(.sl 44 ts_Ent), (.sl 44 ts_Ent), (.int .i64)]
abbrev Qz46 : Type := List E_Ent × List E_Ent
abbrev qz46 : List Ty := [(.sl 44 ts_Ent), (.sl 44 ts_Ent)]
abbrev Qz47 : Type := List E_u8 × List E_u8 × Int
abbrev qz47 : List Ty := [(.sl 5 ts_u8), (.sl 5 ts_u8), (.int .i64)]
abbrev Qz48 : Type := List E_u8 × List E_u8
abbrev qz48 : List Ty := [(.sl 5 ts_u8), (.sl 5 ts_u8)]
abbrev Qz49 : Type := List E_s_u8 × List E_s_u8 × Int
abbrev qz49 : List Ty := [(.sl 47 ts_s_u8), (.sl 47 ts_s_u8), (.int .i64)]
abbrev Qz50 : Type := List E_s_u8 × List E_s_u8
abbrev qz50 : List Ty := [(.sl 47 ts_s_u8), (.sl 47 ts_s_u8)]
abbrev Qz51 : Type := Int × List E_u8 × Int × List E_u8
abbrev qz51 : List Ty := [(.int .i64), (.sl 5 ts_u8), (.int .i64), (.sl 5 ts_u8)]
abbrev Qz52 : Type := List E_Wr × List E_Wr × Int
abbrev qz52 : List Ty := [(.sl 68 ts_Wr), (.sl 68 ts_Wr), (.int .i64)]
abbrev Qz53 : Type := List E_Wr × List E_Wr
abbrev qz53 : List Ty := [(.sl 68 ts_Wr), (.sl 68 ts_Wr)]
abbrev Qz54 : Type := List E_s_u8 × List E_Wr × Int × Bool × List E_s_u8 × List E_Wr × Int × Bool
abbrev qz54 : List Ty := [(.sl 47 ts_s_u8), (.sl 68 ts_Wr), (.int .i64), .bool, (.sl 47 ts_s_u8), (.sl 68 ts_Wr), (.int .i64), .bool]
abbrev Qz55 : Type := Int × Int × List E_u8
abbrev qz55 : List Ty := [(.int .i64), (.int .i64), (.sl 5 ts_u8)]
abbrev Qz56 : Type := Int × Int × List E_s_u8
abbrev qz56 : List Ty := [(.int .i64), (.int .i64), (.sl 47 ts_s_u8)]
abbrev Qz57 : Type := Int × List E_s_u8
abbrev qz57 : List Ty := [(.int .i64), (.sl 47 ts_s_u8)]
abbrev Qz58 : Type := Int × Int × List E_Wr
abbrev qz58 : List Ty := [(.int .i64), (.int .i64), (.sl 68 ts_Wr)]
abbrev Qz59 : Type := Int × List E_Wr
abbrev qz59 : List Ty := [(.int .i64), (.sl 68 ts_Wr)]
abbrev Qz60 : Type := List E_Wr × Int
abbrev qz60 : List Ty := [(.sl 68 ts_Wr), (.int .i64)]
abbrev Qz61 : Type := Int × List E_s_u8 × List E_Wr
abbrev qz61 : List Ty := [(.int .i64), (.sl 47 ts_s_u8), (.sl 68 ts_Wr)]
abbrev Qz62 : Type := Int × ByteArray
abbrev qz62 : List Ty := [(.int .i64), .str]
abbrev Qz63 : Type := Int × Int × List E_Ent
abbrev qz63 : List Ty := [(.int .i64), (.int .i64), (.sl 44 ts_Ent)]
abbrev Qz64 : Type := Int × List E_Ent
abbrev qz64 : List Ty := [(.int .i64), (.sl 44 ts_Ent)]
abbrev Qz65 : Type := List E_Ent × Int
abbrev qz65 : List Ty := [(.sl 44 ts_Ent), (.int .i64)]
abbrev Qz66 : Type := List E_Ent × Int × Int
abbrev qz66 : List Ty := [(.sl 44 ts_Ent), (.int .i64), (.int .i64)]
def infoL : List (Nat × TI) := [
  (3, .c (.int .i64) 8),
  (4, .c (.bool) 1),
  (5, .c (.int .u8) 1),
  (9, .c (.str) 16),
  (22, .c (.sl 47 ts_s_u8) 24),
  (23, .c (.sl 60 ts_LWr) 24),
  (25, .s [(0, 22), (1, 23), (2, 3), (3, 4)] [(.sl 47 ts_s_u8), (.sl 60 ts_LWr), (.int .i64), .bool] 64),
  (27, .c (.sl 44 ts_Ent) 24),
  (29, .c (.sl 68 ts_Wr) 24),
  (31, .s [(0, 22), (1, 29), (2, 3), (3, 4)] [(.sl 47 ts_s_u8), (.sl 68 ts_Wr), (.int .i64), .bool] 64),
  (42, .s [(0, 3), (1, 9), (2, 9), (3, 3), (4, 3)] [(.int .i64), .str, .str, (.int .i64), (.int .i64)] 56),
  (44, .s [(0, 3), (1, 42)] [(.int .i64), (.int .i64), .str, .str, (.int .i64), (.int .i64)] 64),
  (47, .c (.sl 5 ts_u8) 24),
  (60, .s [(0, 3), (1, 47)] [(.int .i64), (.sl 5 ts_u8)] 32),
  (68, .s [(0, 3), (1, 47)] [(.int .i64), (.sl 5 ts_u8)] 32),
  (73, .s [(0, 47), (1, 3), (2, 4)] [(.sl 5 ts_u8), (.int .i64), .bool] 40)]
def sg31 : Sig := ⟨[.v false [(.sl 5 ts_u8)] [false], .v false [(.int .i64)] [false]], [⟨false, [(.int .i64)], [false]⟩], false, false, false⟩
def sg13 : Sig := ⟨[.v false [(.sl 47 ts_s_u8)] [false], .v false [(.int .i64)] [false]], [⟨false, [(.int .i64)], [false]⟩], false, false, false⟩
def sg32 : Sig := ⟨[.v true qz27 [false, false], .v false [(.int .i64)] [false]], [⟨false, [(.int .i64)], [false]⟩], false, false, false⟩
def sg14 : Sig := ⟨[.v false [(.sl 60 ts_LWr)] [false], .v false [(.int .i64)] [false]], [⟨false, [(.int .i64)], [false]⟩], false, false, false⟩
def sg4 : Sig := ⟨[.v true qz29 (nf 4), .v false [(.int .i64)] [false]], [⟨false, [(.int .i64)], [false]⟩], false, false, false⟩
def sg15 : Sig := ⟨[.v false [(.int .i64)] [false], .v false [(.int .i64)] [false], .v false [(.int .i64)] [false]], [⟨false, [.bool], [false]⟩], false, false, false⟩
def sg33 : Sig := ⟨[.v false [(.sl 5 ts_u8)] [false], .v false [(.int .i64)] [false]], [⟨false, [(.int .i64)], [false]⟩], false, false, false⟩
def sg34 : Sig := ⟨[.v false [(.sl 5 ts_u8)] [false]], [⟨false, [(.int .i64)], [false]⟩], false, false, false⟩
def sg35 : Sig := ⟨[.v false [(.sl 5 ts_u8)] [false], .v false [(.int .i64)] [false]], [⟨false, [(.int .i64)], [false]⟩, ⟨false, [(.int .i64)], [false]⟩, ⟨false, [.bool], [false]⟩], false, false, false⟩
def sg53 : Sig := ⟨[.v false [(.sl 5 ts_u8)] [false], .v false [(.int .i64)] [false]], [⟨false, [.str], [false]⟩, ⟨false, [(.int .i64)], [false]⟩, ⟨false, [.bool], [false]⟩], false, false, false⟩
def sg59 : Sig := ⟨[.v false [.str] [false]], [⟨false, [.bool], [false]⟩], false, false, false⟩
def sg60 : Sig := ⟨[.v false [(.int .i64)] [false]], [⟨false, [.bool], [false]⟩], false, false, false⟩
def sg61 : Sig := ⟨[.v true qz15 (nf 5)], [⟨false, [.bool], [false]⟩], false, false, false⟩
def sg54 : Sig := ⟨[.v true qz15 (nf 5)], [⟨false, [.bool], [false]⟩], false, false, false⟩
def sg36 : Sig := ⟨[.v false [(.sl 5 ts_u8)] [false], .v false [(.int .i64)] [false]], [⟨true, qz15, (nf 5)⟩, ⟨false, [(.int .i64)], [false]⟩, ⟨false, [.bool], [false]⟩], false, false, false⟩
def sg37 : Sig := ⟨[.v true qz17 (nf 6)], [⟨false, [.bool], [false]⟩], false, false, false⟩
def sg16 : Sig := ⟨[.v false [(.sl 5 ts_u8)] [false]], [⟨true, qz17, (nf 6)⟩, ⟨false, [.bool], [false]⟩], false, false, false⟩
def sg38 : Sig := ⟨[.v true qz21 (nf 4)], [⟨false, [.bool], [false]⟩], false, false, false⟩
def sg17 : Sig := ⟨[.v true qz21 (nf 4), .v false [(.int .i64)] [false]], [⟨false, [(.sl 5 ts_u8)], [true]⟩], false, false, false⟩
def sg18 : Sig := ⟨[.v false [(.int .i64)] [false]], [⟨false, [(.int .i64)], [false]⟩], false, false, false⟩
def sg5 : Sig := ⟨[.v true qz21 (nf 4), .v false [(.int .i64)] [false]], [⟨false, [(.sl 44 ts_Ent)], [true]⟩], false, false, false⟩
def sg39 : Sig := ⟨[.v false [(.sl 5 ts_u8)] [false]], [⟨false, [(.sl 5 ts_u8)], [true]⟩], false, true, false⟩
def sg19 : Sig := ⟨[.v false [(.sl 47 ts_s_u8)] [false]], [⟨false, [(.sl 47 ts_s_u8)], [true]⟩], false, true, false⟩
def sg40 : Sig := ⟨[.v true qz27 [false, false]], [⟨true, qz27, [false, true]⟩], false, true, false⟩
def sg20 : Sig := ⟨[.v false [(.sl 60 ts_LWr)] [false]], [⟨false, [(.sl 68 ts_Wr)], [true]⟩], false, true, false⟩
def sg6 : Sig := ⟨[.v true qz29 (nf 4)], [⟨true, qz21, [true, true, false, false]⟩], false, true, false⟩
def sg21 : Sig := ⟨[.v false [(.int .i64)] [false], .v false [(.int .i64)] [false], .v false [(.int .i64)] [false]], [⟨false, [.bool], [false]⟩], false, false, false⟩
def sg55 : Sig := ⟨[.v false [(.sl 5 ts_u8)] [false], .v false [(.int .i64)] [false]], [⟨false, [(.int .i64)], [false]⟩, ⟨false, [(.int .i64)], [false]⟩, ⟨false, [.bool], [false]⟩], false, false, false⟩
def sg41 : Sig := ⟨[.p none qz30 (nf 3)], [⟨false, [(.int .i64)], [false]⟩], false, false, false⟩
def sg56 : Sig := ⟨[.p none qz30 (nf 3)], [⟨false, [(.int .i64)], [false]⟩], false, false, false⟩
def sg62 : Sig := ⟨[.v false [(.sl 5 ts_u8)] [false], .v false [(.int .i64)] [false]], [⟨false, [.str], [false]⟩, ⟨false, [(.int .i64)], [false]⟩, ⟨false, [.bool], [false]⟩], false, false, false⟩
def sg57 : Sig := ⟨[.p none qz30 (nf 3)], [⟨false, [.str], [false]⟩], false, false, false⟩
def sg63 : Sig := ⟨[.v false [(.int .i64)] [false]], [⟨false, [.bool], [false]⟩], false, false, false⟩
def sg64 : Sig := ⟨[.v false [.str] [false]], [⟨false, [.bool], [false]⟩], false, false, false⟩
def sg58 : Sig := ⟨[.v true qz15 (nf 5)], [⟨false, [.bool], [false]⟩], false, false, false⟩
def sg42 : Sig := ⟨[.p none qz30 (nf 3)], [⟨true, qz15, (nf 5)⟩], false, false, false⟩
def sg43 : Sig := ⟨[.p none qz30 (nf 3)], [⟨false, [(.int .i64)], [false]⟩], false, false, false⟩
def sg44 : Sig := ⟨[.p none qz30 (nf 3)], [⟨false, [.bool], [false]⟩], false, false, false⟩
def sg45 : Sig := ⟨[.v true qz17 (nf 6)], [⟨false, [.bool], [false]⟩], false, false, false⟩
def sg46 : Sig := ⟨[.v false [(.sl 5 ts_u8)] [false]], [⟨false, [(.int .i64)], [false]⟩], false, false, false⟩
def sg22 : Sig := ⟨[.v false [(.sl 5 ts_u8)] [false]], [⟨true, qz17, (nf 6)⟩, ⟨false, [.bool], [false]⟩], false, false, false⟩
def sg47 : Sig := ⟨[.v true qz21 (nf 4)], [⟨false, [.bool], [false]⟩], false, false, false⟩
def sg48 : Sig := ⟨[.v false [(.sl 47 ts_s_u8)] [false]], [⟨false, [(.sl 5 ts_u8)], [true]⟩], false, false, false⟩
def sg23 : Sig := ⟨[.v true qz21 (nf 4), .v false [(.int .i64)] [false]], [⟨false, [(.sl 5 ts_u8)], [true]⟩], false, false, false⟩
def sg24 : Sig := ⟨[.v false [(.int .i64)] [false]], [⟨false, [(.int .i64)], [false]⟩], false, false, false⟩
def sg7 : Sig := ⟨[.v true qz21 (nf 4), .v false [(.int .i64)] [false]], [⟨false, [(.sl 44 ts_Ent)], [true]⟩], false, false, false⟩
def sg49 : Sig := ⟨[.v true qz15 (nf 5), .v true qz15 (nf 5)], [⟨false, [.bool], [false]⟩], false, false, false⟩
def sg25 : Sig := ⟨[.v true qz17 (nf 6), .v true qz17 (nf 6)], [⟨false, [.bool], [false]⟩], false, false, false⟩
def sg8 : Sig := ⟨[.v false [(.sl 44 ts_Ent)] [false], .v false [(.sl 44 ts_Ent)] [false]], [⟨false, [.bool], [false]⟩], false, false, false⟩
def sg50 : Sig := ⟨[.v false [(.sl 5 ts_u8)] [false], .v false [(.sl 5 ts_u8)] [false]], [⟨false, [.bool], [false]⟩], false, false, false⟩
def sg26 : Sig := ⟨[.v false [(.sl 47 ts_s_u8)] [false], .v false [(.sl 47 ts_s_u8)] [false]], [⟨false, [.bool], [false]⟩], false, false, false⟩
def sg51 : Sig := ⟨[.v true qz27 [false, false], .v true qz27 [false, false]], [⟨false, [.bool], [false]⟩], false, false, false⟩
def sg27 : Sig := ⟨[.v false [(.sl 68 ts_Wr)] [false], .v false [(.sl 68 ts_Wr)] [false]], [⟨false, [.bool], [false]⟩], false, false, false⟩
def sg9 : Sig := ⟨[.v true qz21 (nf 4), .v true qz21 (nf 4)], [⟨false, [.bool], [false]⟩], false, false, false⟩
def sg52 : Sig := ⟨[.v false [(.sl 5 ts_u8)] [true], .v false [(.int .i64)] [false]], [⟨false, [(.int .i64)], [false]⟩], false, true, true⟩
def sg28 : Sig := ⟨[.v false [(.sl 47 ts_s_u8)] [true], .v false [(.int .i64)] [false]], [⟨false, [(.int .i64)], [false]⟩], false, true, true⟩
def sg29 : Sig := ⟨[.v false [(.sl 68 ts_Wr)] [true], .v false [(.int .i64)] [false]], [⟨false, [(.int .i64)], [false]⟩], false, true, true⟩
def sg10 : Sig := ⟨[.v true qz21 [true, true, false, false], .v false [(.int .i64)] [false]], [⟨false, [(.int .i64)], [false]⟩], false, true, true⟩
def sg30 : Sig := ⟨[.v false [(.int .i64)] [false]], [⟨false, [.str], [false]⟩], false, false, false⟩
def sg11 : Sig := ⟨[.v false [(.sl 44 ts_Ent)] [true], .v false [(.int .i64)] [false]], [⟨false, [(.int .i64)], [false]⟩], false, true, true⟩
def sg12 : Sig := ⟨[.v false [(.sl 44 ts_Ent)] [false], .v false [(.int .i64)] [false]], [⟨false, [(.int .i64)], [false]⟩], false, false, false⟩
def sg3 : Sig := ⟨[.v true qz29 (nf 4), .v false [(.int .i64)] [false]], [⟨false, [.bool], [false]⟩], false, false, false⟩
def sigL : List (Nat × Sig) := [(31, sg31), (13, sg13), (32, sg32), (14, sg14), (4, sg4), (15, sg15), (33, sg33), (34, sg34), (35, sg35), (53, sg53), (59, sg59), (60, sg60), (61, sg61), (54, sg54), (36, sg36), (37, sg37), (16, sg16), (38, sg38), (17, sg17), (18, sg18), (5, sg5), (39, sg39), (19, sg19), (40, sg40), (20, sg20), (6, sg6), (21, sg21), (55, sg55), (41, sg41), (56, sg56), (62, sg62), (57, sg57), (63, sg63), (64, sg64), (58, sg58), (42, sg42), (43, sg43), (44, sg44), (45, sg45), (46, sg46), (22, sg22), (47, sg47), (48, sg48), (23, sg23), (24, sg24), (7, sg7), (49, sg49), (25, sg25), (8, sg8), (50, sg50), (26, sg26), (51, sg51), (27, sg27), (9, sg9), (52, sg52), (28, sg28), (29, sg29), (10, sg10), (30, sg30), (11, sg11), (12, sg12), (3, sg3)]
def liveL : List (Nat × (List Nat × List Nat)) := [
  (1300005, [0, 1, 5], [1, 4]),
  (1400005, [0, 1, 5], [1, 4]),
  (3400003, [0, 3, 4], [3]),
  (3400007, [0, 3, 4, 5], [0, 3, 4]),
  (5900002, [0, 3, 17, 18, 19, 20, 21, 22], [0, 2]),
  (3800002, [1, 3, 39, 40, 41, 42, 43, 44, 45, 46, 53, 54, 55, 56, 59, 60, 61], [1, 2, 39, 40, 41, 42, 43, 44, 45, 46, 53, 54, 55, 56, 59, 60, 61]),
  (3800007, [1, 4, 39, 40, 41, 42, 43, 44, 45, 46, 53, 54, 55, 56, 59, 60, 61], [1, 2, 53, 54, 55, 56, 59, 60, 61]),
  (1700005, [1, 2, 5, 6], [5]),
  (500003, [1, 2, 5, 6, 13, 14, 31, 32, 33, 34, 35, 36], [4, 5]),
  (3900003, [0, 3, 4], [3]),
  (1900003, [0, 3, 4], [3]),
  (2000003, [0, 3, 4], [3]),
  (6400002, [0, 3, 17, 18, 19, 20, 21, 22], [0, 2]),
  (4600003, [3, 7, 8, 9], [3]),
  (4600007, [3, 7, 8, 9, 17], [3, 7, 8, 9]),
  (4700004, [1, 25, 26, 27, 51, 52, 53, 54], [1, 2, 51, 52, 53, 54]),
  (4700010, [1, 36, 37, 38, 51, 52, 53, 54], [2]),
  (4800003, [3, 7, 8, 9], [3]),
  (2300004, [1, 2, 5], [1, 2, 4]),
  (700004, [1, 2, 5, 32, 33, 34, 35], [5]),
  (800004, [0, 1, 5], [4]),
  (5000004, [0, 1, 5], [4]),
  (2600004, [0, 1, 5], [4]),
  (2700004, [0, 1, 5], [4]),
  (5200002, [0, 1, 5], [0, 1]),
  (2800002, [0, 1, 5], [0, 1]),
  (2900002, [0, 1, 5], [0, 1]),
  (3000004, [0, 3], [3]),
  (1100002, [0, 1, 5], [0, 1]),
  (1200002, [0, 1, 5], [1, 4])]
def keyL : List (Nat × List Nat × Nat) := []
def hintL : List (Nat × List Nat) := [(19, [100007]), (20, [100007])]
def C : Ctx := { info := lookN infoL, sig := lookN sigL, live := fun f i => lookN liveL (100000 * f + i), key := keyNo keyL, fid := fidNo keyL, hint := hintNo hintL }
theorem tok : TOk C Try.prog := tok_of (l := infoL) rfl (by kernel_rfl)
theorem mixed : Try.prog.follows .mixedOrders = true := by kernel_rfl
abbrev QF := Qf C Try.prog
abbrev EV (l : List QF) (lp : Lp) (n : Nat) (fn : Func) (sg : Sig) (ins outs : List Ty) (F : Elts ins → Option (Elts outs)) : Prop := ∀ x, evalB C (tabQ l) lp n fn (bodyOf fn) sg ins outs x = F x
abbrev LF (l : List QF) (lp : Lp) (n i : Nat) (fn : Func) (k : Nat) {T V : Type} (e : T → St) (g : Gk T) (inj : V → T) : Prop := LC C (tabQ l) lp n i (cL fn k) e g inj
abbrev LK (l : List QF) (lp : Lp) (n : Nat) (fn : Func) (k : Nat) : Prop := LoopOk C (tabQ l) lp n (cL fn k)
theorem okN {l : List QF} {lp : Lp} {f g : Nat} {fn : Func} {sg : Sig} {n : Nat} (hfn : Try.prog.funcs[g]? = some fn) (hsig : C.sig f = some sg) (hB : fnB C f g fn sg n = true) (hl : AllK (LoopOk C (tabQ l) lp f) (loopsOf (bodyOf fn)) n 0) {F : Elts (C.ins f) → Option (Elts (C.outs f))} (hF : ∀ x, evalB C (tabQ l) lp f fn (bodyOf fn) sg (C.ins f) (C.outs f) x = F x) : ContractAt C Try.prog f F := fn_ok tok mixed hfn hsig hB hl hF
end Go.Proofs.Ytnjjkaanajifiaa.XV
