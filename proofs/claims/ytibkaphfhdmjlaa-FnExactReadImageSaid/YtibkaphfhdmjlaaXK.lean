/- The context of the evaluator for K: types, signatures, slots that live at loops; by a program (dec.py). No condition. -/
import Derived.Test.YtibkaphfhdmjlaaProg
import Derived.Test.YtibkaphfhdmjlaaRRow
import Derived.KernelRfl
set_option linter.all false
namespace Go.Proofs.Ytibkaphfhdmjlaa.XK
open Go.Proofs.Ytibkaphfhdmjlaa.R
set_option maxRecDepth 100000
abbrev ts_u8 : List Ty := [(.int .u8)]
abbrev E_u8 : Type := Int
abbrev z_u8 : E_u8 := zeroE ts_u8
abbrev rd_u8 (xs : List E_u8) (i : Int) : E_u8 := rdE ts_u8 xs i
def v_u8 (x : List E_u8) : A := .val (.sl 5 ts_u8) x
abbrev ts_s_u8 : List Ty := [(.sl 5 ts_u8)]
abbrev E_s_u8 : Type := List E_u8
abbrev z_s_u8 : E_s_u8 := zeroE ts_s_u8
abbrev rd_s_u8 (xs : List E_s_u8) (i : Int) : E_s_u8 := rdE ts_s_u8 xs i
def v_s_u8 (x : List E_s_u8) : A := .val (.sl 29 ts_s_u8) x
abbrev ts_LWr : List Ty := [(.int .i64), (.sl 5 ts_u8)]
abbrev E_LWr : Type := Int × List E_u8
abbrev z_LWr : E_LWr := zeroE ts_LWr
abbrev rd_LWr (xs : List E_LWr) (i : Int) : E_LWr := rdE ts_LWr xs i
def v_LWr (x : List E_LWr) : A := .val (.sl 63 ts_LWr) x
abbrev ts_Wr : List Ty := [(.int .i64), (.sl 5 ts_u8)]
abbrev E_Wr : Type := Int × List E_u8
abbrev z_Wr : E_Wr := zeroE ts_Wr
abbrev rd_Wr (xs : List E_Wr) (i : Int) : E_Wr := rdE ts_Wr xs i
def v_Wr (x : List E_Wr) : A := .val (.sl 64 ts_Wr) x
abbrev Qz0 : Type := List E_u8 × Int
abbrev qz0 : List Ty := [(.sl 5 ts_u8), (.int .i64)]
abbrev Qz1 : Type := List E_s_u8 × Int × Int
abbrev qz1 : List Ty := [(.sl 29 ts_s_u8), (.int .i64), (.int .i64)]
abbrev Qz2 : Type := Int × Int
abbrev qz2 : List Ty := [(.int .i64), (.int .i64)]
abbrev Qz3 : Type := List E_s_u8 × Int
abbrev qz3 : List Ty := [(.sl 29 ts_s_u8), (.int .i64)]
abbrev Qz4 : Type := Int × List E_u8 × Int
abbrev qz4 : List Ty := [(.int .i64), (.sl 5 ts_u8), (.int .i64)]
abbrev Qz5 : Type := List E_LWr × Int × Int
abbrev qz5 : List Ty := [(.sl 63 ts_LWr), (.int .i64), (.int .i64)]
abbrev Qz6 : Type := List E_LWr × Int
abbrev qz6 : List Ty := [(.sl 63 ts_LWr), (.int .i64)]
abbrev Qz7 : Type := List E_s_u8 × List E_LWr × Int × Bool × Int
abbrev qz7 : List Ty := [(.sl 29 ts_s_u8), (.sl 63 ts_LWr), (.int .i64), .bool, (.int .i64)]
abbrev Qz8 : Type := Int × Int × Int
abbrev qz8 : List Ty := [(.int .i64), (.int .i64), (.int .i64)]
abbrev Qz9 : Type := Int × List E_s_u8 × List E_Wr × Int × Bool
abbrev qz9 : List Ty := [(.int .i64), (.sl 29 ts_s_u8), (.sl 64 ts_Wr), (.int .i64), .bool]
abbrev Qz10 : Type := Bool × List E_s_u8 × List E_Wr × Int × Bool
abbrev qz10 : List Ty := [.bool, (.sl 29 ts_s_u8), (.sl 64 ts_Wr), (.int .i64), .bool]
abbrev Qz11 : Type := List E_s_u8 × List E_Wr × Int × Bool
abbrev qz11 : List Ty := [(.sl 29 ts_s_u8), (.sl 64 ts_Wr), (.int .i64), .bool]
abbrev Qz12 : Type := Int × List E_u8 × Int × List E_s_u8 × List E_Wr × Int × Bool
abbrev qz12 : List Ty := [(.int .i64), (.sl 5 ts_u8), (.int .i64), (.sl 29 ts_s_u8), (.sl 64 ts_Wr), (.int .i64), .bool]
abbrev Qz13 : Type := List E_s_u8 × List E_Wr × Int × Bool × Int
abbrev qz13 : List Ty := [(.sl 29 ts_s_u8), (.sl 64 ts_Wr), (.int .i64), .bool, (.int .i64)]
abbrev Qz14 : Type := List E_u8 × Int × Int × Int
abbrev qz14 : List Ty := [(.sl 5 ts_u8), (.int .i64), (.int .i64), (.int .i64)]
abbrev Qz15 : Type := List E_u8 × Int × Int
abbrev qz15 : List Ty := [(.sl 5 ts_u8), (.int .i64), (.int .i64)]
abbrev Qz16 : Type := Int × List E_s_u8 × List E_Wr × Int × Bool × Int × Int × Int × Int × Int × List E_u8
abbrev qz16 : List Ty := [(.int .i64), (.sl 29 ts_s_u8), (.sl 64 ts_Wr), (.int .i64), .bool, (.int .i64), (.int .i64), (.int .i64), (.int .i64), (.int .i64), (.sl 5 ts_u8)]
abbrev Qz17 : Type := Int × Int × Int × Int × Int × List E_u8
abbrev qz17 : List Ty := [(.int .i64), (.int .i64), (.int .i64), (.int .i64), (.int .i64), (.sl 5 ts_u8)]
abbrev Qz18 : Type := List E_s_u8 × List E_Wr × Int × Bool × Int × Int × Int × Int × Int
abbrev qz18 : List Ty := [(.sl 29 ts_s_u8), (.sl 64 ts_Wr), (.int .i64), .bool, (.int .i64), (.int .i64), (.int .i64), (.int .i64), (.int .i64)]
abbrev Qz19 : Type := List E_u8 × Bool
abbrev qz19 : List Ty := [(.sl 5 ts_u8), .bool]
abbrev Qz20 : Type := List E_u8 × Int × List E_u8
abbrev qz20 : List Ty := [(.sl 5 ts_u8), (.int .i64), (.sl 5 ts_u8)]
abbrev Qz21 : Type := List E_s_u8 × Int × List E_s_u8
abbrev qz21 : List Ty := [(.sl 29 ts_s_u8), (.int .i64), (.sl 29 ts_s_u8)]
abbrev Qz22 : Type := Int × List E_u8
abbrev qz22 : List Ty := [(.int .i64), (.sl 5 ts_u8)]
abbrev Qz23 : Type := List E_LWr × Int × List E_Wr
abbrev qz23 : List Ty := [(.sl 63 ts_LWr), (.int .i64), (.sl 64 ts_Wr)]
abbrev Qz24 : Type := List E_s_u8 × List E_LWr × Int × Bool
abbrev qz24 : List Ty := [(.sl 29 ts_s_u8), (.sl 63 ts_LWr), (.int .i64), .bool]
abbrev Qz25 : Type := Int × Int × Int × Int × Int
abbrev qz25 : List Ty := [(.int .i64), (.int .i64), (.int .i64), (.int .i64), (.int .i64)]
abbrev Qz26 : Type := List E_s_u8 × Int × Int × List E_s_u8 × List E_Wr × Int × Bool
abbrev qz26 : List Ty := [(.sl 29 ts_s_u8), (.int .i64), (.int .i64), (.sl 29 ts_s_u8), (.sl 64 ts_Wr), (.int .i64), .bool]
abbrev Qz27 : Type := List E_Wr × Int × Int × List E_s_u8 × List E_Wr × Int × Bool
abbrev qz27 : List Ty := [(.sl 64 ts_Wr), (.int .i64), (.int .i64), (.sl 29 ts_s_u8), (.sl 64 ts_Wr), (.int .i64), .bool]
abbrev Qz28 : Type := List E_s_u8 × Int × Int × List E_u8
abbrev qz28 : List Ty := [(.sl 29 ts_s_u8), (.int .i64), (.int .i64), (.sl 5 ts_u8)]
abbrev Qz29 : Type := Int × Int × List E_s_u8 × List E_Wr × Int × Bool
abbrev qz29 : List Ty := [(.int .i64), (.int .i64), (.sl 29 ts_s_u8), (.sl 64 ts_Wr), (.int .i64), .bool]
abbrev Qz30 : Type := Int × List E_s_u8 × List E_Wr × Int × Bool × List E_u8
abbrev qz30 : List Ty := [(.int .i64), (.sl 29 ts_s_u8), (.sl 64 ts_Wr), (.int .i64), .bool, (.sl 5 ts_u8)]
abbrev Qz31 : Type := Int × List E_u8 × Int × Int × Int
abbrev qz31 : List Ty := [(.int .i64), (.sl 5 ts_u8), (.int .i64), (.int .i64), (.int .i64)]
abbrev Qz32 : Type := Int × List E_u8 × Int × Int
abbrev qz32 : List Ty := [(.int .i64), (.sl 5 ts_u8), (.int .i64), (.int .i64)]
abbrev Qz33 : Type := List E_u8 × List E_u8 × Int
abbrev qz33 : List Ty := [(.sl 5 ts_u8), (.sl 5 ts_u8), (.int .i64)]
abbrev Qz34 : Type := List E_u8 × List E_u8
abbrev qz34 : List Ty := [(.sl 5 ts_u8), (.sl 5 ts_u8)]
abbrev Qz35 : Type := List E_s_u8 × List E_s_u8 × Int
abbrev qz35 : List Ty := [(.sl 29 ts_s_u8), (.sl 29 ts_s_u8), (.int .i64)]
abbrev Qz36 : Type := List E_s_u8 × List E_s_u8
abbrev qz36 : List Ty := [(.sl 29 ts_s_u8), (.sl 29 ts_s_u8)]
abbrev Qz37 : Type := Int × List E_u8 × Int × List E_u8
abbrev qz37 : List Ty := [(.int .i64), (.sl 5 ts_u8), (.int .i64), (.sl 5 ts_u8)]
abbrev Qz38 : Type := List E_Wr × List E_Wr × Int
abbrev qz38 : List Ty := [(.sl 64 ts_Wr), (.sl 64 ts_Wr), (.int .i64)]
abbrev Qz39 : Type := List E_Wr × List E_Wr
abbrev qz39 : List Ty := [(.sl 64 ts_Wr), (.sl 64 ts_Wr)]
abbrev Qz40 : Type := List E_s_u8 × List E_Wr × Int × Bool × List E_s_u8 × List E_Wr × Int × Bool
abbrev qz40 : List Ty := [(.sl 29 ts_s_u8), (.sl 64 ts_Wr), (.int .i64), .bool, (.sl 29 ts_s_u8), (.sl 64 ts_Wr), (.int .i64), .bool]
abbrev Qz41 : Type := Int × Int × List E_u8
abbrev qz41 : List Ty := [(.int .i64), (.int .i64), (.sl 5 ts_u8)]
abbrev Qz42 : Type := Int × Int × List E_s_u8
abbrev qz42 : List Ty := [(.int .i64), (.int .i64), (.sl 29 ts_s_u8)]
abbrev Qz43 : Type := Int × List E_s_u8
abbrev qz43 : List Ty := [(.int .i64), (.sl 29 ts_s_u8)]
abbrev Qz44 : Type := Int × Int × List E_Wr
abbrev qz44 : List Ty := [(.int .i64), (.int .i64), (.sl 64 ts_Wr)]
abbrev Qz45 : Type := Int × List E_Wr
abbrev qz45 : List Ty := [(.int .i64), (.sl 64 ts_Wr)]
abbrev Qz46 : Type := List E_Wr × Int
abbrev qz46 : List Ty := [(.sl 64 ts_Wr), (.int .i64)]
abbrev Qz47 : Type := Int × List E_s_u8 × List E_Wr
abbrev qz47 : List Ty := [(.int .i64), (.sl 29 ts_s_u8), (.sl 64 ts_Wr)]
abbrev Qz48 : Type := List E_s_u8 × List E_LWr × Int × Bool × Int × Int × Int × Int × Int
abbrev qz48 : List Ty := [(.sl 29 ts_s_u8), (.sl 63 ts_LWr), (.int .i64), .bool, (.int .i64), (.int .i64), (.int .i64), (.int .i64), (.int .i64)]
def infoL : List (Nat × TI) := [
  (3, .c (.int .i64) 8),
  (4, .c (.bool) 1),
  (5, .c (.int .u8) 1),
  (22, .c (.sl 29 ts_s_u8) 24),
  (23, .c (.sl 63 ts_LWr) 24),
  (25, .s [(0, 22), (1, 23), (2, 3), (3, 4)] [(.sl 29 ts_s_u8), (.sl 63 ts_LWr), (.int .i64), .bool] 64),
  (27, .s [(0, 3), (1, 3), (2, 3), (3, 3), (4, 3)] [(.int .i64), (.int .i64), (.int .i64), (.int .i64), (.int .i64)] 40),
  (29, .c (.sl 5 ts_u8) 24),
  (32, .c (.sl 64 ts_Wr) 24),
  (34, .s [(0, 22), (1, 32), (2, 3), (3, 4)] [(.sl 29 ts_s_u8), (.sl 64 ts_Wr), (.int .i64), .bool] 64),
  (36, .s [(0, 3), (1, 3), (2, 3), (3, 3), (4, 3)] [(.int .i64), (.int .i64), (.int .i64), (.int .i64), (.int .i64)] 40),
  (63, .s [(0, 3), (1, 29)] [(.int .i64), (.sl 5 ts_u8)] 32),
  (64, .s [(0, 3), (1, 29)] [(.int .i64), (.sl 5 ts_u8)] 32)]
def sg43 : Sig := ⟨[.v false [(.sl 5 ts_u8)] [false], .v false [(.int .i64)] [false]], [⟨false, [(.int .i64)], [false]⟩], false, false, false⟩
def sg19 : Sig := ⟨[.v false [(.sl 29 ts_s_u8)] [false], .v false [(.int .i64)] [false]], [⟨false, [(.int .i64)], [false]⟩], false, false, false⟩
def sg44 : Sig := ⟨[.v true qz22 [false, false], .v false [(.int .i64)] [false]], [⟨false, [(.int .i64)], [false]⟩], false, false, false⟩
def sg20 : Sig := ⟨[.v false [(.sl 63 ts_LWr)] [false], .v false [(.int .i64)] [false]], [⟨false, [(.int .i64)], [false]⟩], false, false, false⟩
def sg5 : Sig := ⟨[.v true qz24 (nf 4), .v false [(.int .i64)] [false]], [⟨false, [(.int .i64)], [false]⟩], false, false, false⟩
def sg36 : Sig := ⟨[.v false [(.int .i64)] [false], .v false [(.int .i64)] [false], .v false [(.int .i64)] [false]], [⟨false, [.bool], [false]⟩], false, false, false⟩
def sg35 : Sig := ⟨[.v true qz11 (nf 4)], [⟨false, [.bool], [false]⟩], false, false, false⟩
def sg21 : Sig := ⟨[.v true qz11 (nf 4), .v false [(.int .i64)] [false]], [⟨false, [(.sl 5 ts_u8)], [true]⟩], false, false, false⟩
def sg22 : Sig := ⟨[.v false [(.int .i64)] [false], .v false [(.int .i64)] [false]], [⟨false, [(.int .i64)], [false]⟩], false, false, false⟩
def sg23 : Sig := ⟨[.v false [(.sl 5 ts_u8)] [false]], [⟨false, [(.int .i64)], [false]⟩], false, false, false⟩
def sg6 : Sig := ⟨[.v true qz11 (nf 4), .v true qz25 (nf 5)], [⟨false, [(.sl 5 ts_u8)], [true]⟩, ⟨false, [.bool], [false]⟩], false, false, false⟩
def sg16 : Sig := ⟨[.v false [(.sl 5 ts_u8)] [false]], [⟨false, [(.sl 5 ts_u8)], [true]⟩], false, true, false⟩
def sg24 : Sig := ⟨[.v false [(.sl 29 ts_s_u8)] [false]], [⟨false, [(.sl 29 ts_s_u8)], [true]⟩], false, true, false⟩
def sg45 : Sig := ⟨[.v true qz22 [false, false]], [⟨true, qz22, [false, true]⟩], false, true, false⟩
def sg25 : Sig := ⟨[.v false [(.sl 63 ts_LWr)] [false]], [⟨false, [(.sl 64 ts_Wr)], [true]⟩], false, true, false⟩
def sg7 : Sig := ⟨[.v true qz24 (nf 4)], [⟨true, qz11, [true, true, false, false]⟩], false, true, false⟩
def sg8 : Sig := ⟨[.v true qz25 (nf 5)], [⟨true, qz25, (nf 5)⟩], false, true, false⟩
def sg28 : Sig := ⟨[.v false [(.int .i64)] [false], .v false [(.int .i64)] [false], .v false [(.int .i64)] [false]], [⟨false, [.bool], [false]⟩], false, false, false⟩
def sg39 : Sig := ⟨[.v true qz11 (nf 4)], [⟨false, [.bool], [false]⟩], false, false, false⟩
def sg46 : Sig := ⟨[.v false [(.sl 29 ts_s_u8)] [false]], [⟨false, [(.sl 5 ts_u8)], [true]⟩], false, false, false⟩
def sg26 : Sig := ⟨[.v true qz11 (nf 4), .v false [(.int .i64)] [false]], [⟨false, [(.sl 5 ts_u8)], [true]⟩], false, false, false⟩
def sg27 : Sig := ⟨[.v false [(.int .i64)] [false], .v false [(.int .i64)] [false]], [⟨false, [(.int .i64)], [false]⟩], false, false, false⟩
def sg29 : Sig := ⟨[.v false [(.sl 5 ts_u8)] [false]], [⟨false, [(.int .i64)], [false]⟩], false, false, false⟩
def sg9 : Sig := ⟨[.v true qz11 (nf 4), .v true qz25 (nf 5)], [⟨false, [(.sl 5 ts_u8)], [true]⟩, ⟨false, [.bool], [false]⟩], false, false, false⟩
def sg10 : Sig := ⟨[.v false [(.sl 5 ts_u8)] [false], .v false [(.sl 5 ts_u8)] [false]], [⟨false, [.bool], [false]⟩], false, false, false⟩
def sg30 : Sig := ⟨[.v false [(.sl 29 ts_s_u8)] [false], .v false [(.sl 29 ts_s_u8)] [false]], [⟨false, [.bool], [false]⟩], false, false, false⟩
def sg47 : Sig := ⟨[.v true qz22 [false, false], .v true qz22 [false, false]], [⟨false, [.bool], [false]⟩], false, false, false⟩
def sg31 : Sig := ⟨[.v false [(.sl 64 ts_Wr)] [false], .v false [(.sl 64 ts_Wr)] [false]], [⟨false, [.bool], [false]⟩], false, false, false⟩
def sg11 : Sig := ⟨[.v true qz11 (nf 4), .v true qz11 (nf 4)], [⟨false, [.bool], [false]⟩], false, false, false⟩
def sg13 : Sig := ⟨[.v false [(.sl 5 ts_u8)] [true], .v false [(.int .i64)] [false]], [⟨false, [(.int .i64)], [false]⟩], false, true, true⟩
def sg32 : Sig := ⟨[.v false [(.sl 29 ts_s_u8)] [true], .v false [(.int .i64)] [false]], [⟨false, [(.int .i64)], [false]⟩], false, true, true⟩
def sg33 : Sig := ⟨[.v false [(.sl 64 ts_Wr)] [true], .v false [(.int .i64)] [false]], [⟨false, [(.int .i64)], [false]⟩], false, true, true⟩
def sg12 : Sig := ⟨[.v true qz11 [true, true, false, false], .v false [(.int .i64)] [false]], [⟨false, [(.int .i64)], [false]⟩], false, true, true⟩
def sg14 : Sig := ⟨[.v false [(.sl 5 ts_u8)] [false], .v false [(.int .i64)] [false]], [⟨false, [(.int .i64)], [false]⟩], false, false, false⟩
def sg3 : Sig := ⟨[.v true qz24 (nf 4), .v true qz25 (nf 5)], [⟨false, [.bool], [false]⟩], false, false, false⟩
def sigL : List (Nat × Sig) := [(43, sg43), (19, sg19), (44, sg44), (20, sg20), (5, sg5), (36, sg36), (35, sg35), (21, sg21), (22, sg22), (23, sg23), (6, sg6), (16, sg16), (24, sg24), (45, sg45), (25, sg25), (7, sg7), (8, sg8), (28, sg28), (39, sg39), (46, sg46), (26, sg26), (27, sg27), (29, sg29), (9, sg9), (10, sg10), (30, sg30), (47, sg47), (31, sg31), (11, sg11), (13, sg13), (32, sg32), (33, sg33), (12, sg12), (14, sg14), (3, sg3)]
def liveL : List (Nat × (List Nat × List Nat)) := [
  (1900005, [0, 1, 5], [1, 4]),
  (2000005, [0, 1, 5], [1, 4]),
  (3500002, [1, 3, 39, 40, 41, 42, 43, 44, 45, 46, 53, 54, 55, 56, 59, 60, 61], [1, 2, 39, 40, 41, 42, 43, 44, 45, 46, 53, 54, 55, 56, 59, 60, 61]),
  (3500007, [1, 4, 39, 40, 41, 42, 43, 44, 45, 46, 53, 54, 55, 56, 59, 60, 61], [1, 2, 53, 54, 55, 56, 59, 60, 61]),
  (2100005, [1, 2, 5, 6], [5]),
  (2300003, [0, 3, 4], [3]),
  (2300007, [0, 3, 4, 5], [0, 3, 4]),
  (600003, [2, 3, 6, 7, 12, 13, 14, 15, 16, 32, 33, 34, 35, 36, 39, 40, 41, 42, 43, 44, 45, 46], [3, 6, 32, 33, 34, 35, 36, 39, 40, 41, 42, 43, 44, 45, 46]),
  (1600003, [0, 3, 4], [3]),
  (2400003, [0, 3, 4], [3]),
  (2500003, [0, 3, 4], [3]),
  (3900004, [1, 25, 26, 27, 51, 52, 53, 54], [1, 2, 51, 52, 53, 54]),
  (3900010, [1, 36, 37, 38, 51, 52, 53, 54], [2]),
  (4600003, [3, 7, 8, 9], [3]),
  (2600004, [1, 2, 5], [1, 2, 4]),
  (2900003, [3, 7, 8, 9], [3]),
  (2900007, [3, 7, 8, 9, 17], [3, 7, 8, 9]),
  (900003, [2, 3, 6, 7, 12, 13, 14, 15, 16, 35, 36, 37, 38, 39, 40, 41, 42], [3, 6, 35, 36, 37, 38, 39, 40, 41, 42]),
  (1000004, [0, 1, 5], [4]),
  (3000004, [0, 1, 5], [4]),
  (3100004, [0, 1, 5], [4]),
  (1300002, [0, 1, 5], [0, 1]),
  (3200002, [0, 1, 5], [0, 1]),
  (3300002, [0, 1, 5], [0, 1]),
  (1400002, [0, 1, 5], [1, 4])]
def keyL : List (Nat × List Nat × Nat) := []
def hintL : List (Nat × List Nat) := [(6, [42]), (24, [100007]), (25, [100007]), (9, [100047, 200038])]
def C : Ctx := { info := lookN infoL, sig := lookN sigL, live := fun f i => lookN liveL (100000 * f + i), key := keyNo keyL, fid := fidNo keyL, hint := hintNo hintL }
theorem tok : TOk C Try.prog := tok_of (l := infoL) rfl (by kernel_rfl)
theorem mixed : Try.prog.follows .mixedOrders = true := by kernel_rfl
abbrev QF := Qf C Try.prog
abbrev EV (l : List QF) (lp : Lp) (n : Nat) (fn : Func) (sg : Sig) (ins outs : List Ty) (F : Elts ins → Option (Elts outs)) : Prop := ∀ x, evalB C (tabQ l) lp n fn (bodyOf fn) sg ins outs x = F x
abbrev LF (l : List QF) (lp : Lp) (n i : Nat) (fn : Func) (k : Nat) {T V : Type} (e : T → St) (g : Gk T) (inj : V → T) : Prop := LC C (tabQ l) lp n i (cL fn k) e g inj
abbrev LK (l : List QF) (lp : Lp) (n : Nat) (fn : Func) (k : Nat) : Prop := LoopOk C (tabQ l) lp n (cL fn k)
theorem okN {l : List QF} {lp : Lp} {f g : Nat} {fn : Func} {sg : Sig} {n : Nat} (hfn : Try.prog.funcs[g]? = some fn) (hsig : C.sig f = some sg) (hB : fnB C f g fn sg n = true) (hl : AllK (LoopOk C (tabQ l) lp f) (loopsOf (bodyOf fn)) n 0) {F : Elts (C.ins f) → Option (Elts (C.outs f))} (hF : ∀ x, evalB C (tabQ l) lp f fn (bodyOf fn) sg (C.ins f) (C.outs f) x = F x) : ContractAt C Try.prog f F := fn_ok tok mixed hfn hsig hB hl hF
end Go.Proofs.Ytibkaphfhdmjlaa.XK
