/- The context of the evaluator for V: types, signatures, slots that live at loops; by a program (dec.py). No condition. -/
import Derived.Test.YtmanmgafjbnakaaProg
import Derived.Test.YtmanmgafjbnakaaRRow
import Derived.KernelRfl
namespace Go.Proofs.Ytmanmgafjbnakaa.XV
open Go.Proofs.Ytmanmgafjbnakaa.R
abbrev ts_u8 : List Ty := [(.int .u8)]
abbrev E_u8 : Type := Int
abbrev z_u8 : E_u8 := zeroE ts_u8
abbrev rd_u8 (xs : List E_u8) (i : Int) : E_u8 := rdE ts_u8 xs i
abbrev ts_s_u8 : List Ty := [(.sl 5 ts_u8)]
abbrev E_s_u8 : Type := List E_u8
abbrev z_s_u8 : E_s_u8 := zeroE ts_s_u8
abbrev rd_s_u8 (xs : List E_s_u8) (i : Int) : E_s_u8 := rdE ts_s_u8 xs i
abbrev ts_Wr : List Ty := [(.int .i64), (.sl 5 ts_u8)]
abbrev E_Wr : Type := Int × List E_u8
abbrev z_Wr : E_Wr := zeroE ts_Wr
abbrev rd_Wr (xs : List E_Wr) (i : Int) : E_Wr := rdE ts_Wr xs i
abbrev ts_i64 : List Ty := [(.int .i64)]
abbrev E_i64 : Type := Int
abbrev z_i64 : E_i64 := zeroE ts_i64
abbrev rd_i64 (xs : List E_i64) (i : Int) : E_i64 := rdE ts_i64 xs i
abbrev ts_Ent : List Ty := [(.int .i64), (.int .i64), .str, .str, (.int .i64), (.int .i64)]
abbrev E_Ent : Type := Int × Int × ByteArray × ByteArray × Int × Int
abbrev z_Ent : E_Ent := zeroE ts_Ent
abbrev rd_Ent (xs : List E_Ent) (i : Int) : E_Ent := rdE ts_Ent xs i
abbrev ts_string : List Ty := [.str]
abbrev E_string : Type := ByteArray
abbrev z_string : E_string := zeroE ts_string
abbrev rd_string (xs : List E_string) (i : Int) : E_string := rdE ts_string xs i
def infoL : List (Nat × TI) := [
  (3, .c (.int .i64) 8),
  (4, .c (.bool) 1),
  (5, .c (.int .u8) 1),
  (9, .c (.str) 16),
  (27, .c (.sl 5 ts_u8) 24),
  (29, .s [(0, 3), (1, 9), (2, 9), (3, 3), (4, 3)] [(.int .i64), .str, .str, (.int .i64), (.int .i64)] 56),
  (31, .s [(0, 3), (1, 29)] [(.int .i64), (.int .i64), .str, .str, (.int .i64), (.int .i64)] 64),
  (51, .c (.sl 27 ts_s_u8) 24),
  (59, .c (.sl 155 ts_Wr) 24),
  (61, .s [(0, 51), (1, 59), (2, 3), (3, 4)] [(.sl 27 ts_s_u8), (.sl 155 ts_Wr), (.int .i64), .bool] 64),
  (73, .c (.sl 3 ts_i64) 24),
  (97, .c (.sl 31 ts_Ent) 24),
  (114, .s [(0, 27), (1, 3), (2, 4)] [(.sl 5 ts_u8), (.int .i64), .bool] 40),
  (155, .s [(0, 3), (1, 27)] [(.int .i64), (.sl 5 ts_u8)] 32),
  (160, .s [(0, 27), (1, 3), (2, 3)] [(.sl 5 ts_u8), (.int .i64), (.int .i64)] 40),
  (201, .c (.sl 9 ts_string) 24)]
def sigL : List (Nat × Sig) := [
  (18, ⟨[.v false [(.sl 5 ts_u8)] [false]], [⟨false, [.bool], [false]⟩], false⟩),
  (85, ⟨[.v false [(.int .i64)] [false], .v false [(.int .i64)] [false], .v false [(.int .i64)] [false]], [⟨false, [.bool], [false]⟩], false⟩),
  (142, ⟨[.v false [(.int .i64)] [false]], [⟨false, [.bool], [false]⟩], false⟩),
  (143, ⟨[.v false [.str] [false]], [⟨false, [.bool], [false]⟩], false⟩),
  (109, ⟨[.v true [(.int .i64), .str, .str, (.int .i64), (.int .i64)] [false, false, false, false, false]], [⟨false, [.bool], [false]⟩], false⟩),
  (48, ⟨[.v true [(.int .i64), (.int .i64), .str, .str, (.int .i64), (.int .i64)] [false, false, false, false, false, false]], [⟨false, [.bool], [false]⟩], false⟩),
  (70, ⟨[.v false [(.sl 5 ts_u8)] [false]], [⟨false, [(.int .i64)], [false]⟩], false⟩),
  (133, ⟨[.v false [(.sl 5 ts_u8)] [false], .v false [(.int .i64)] [false]], [⟨false, [(.int .i64)], [false]⟩, ⟨false, [(.int .i64)], [false]⟩, ⟨false, [.bool], [false]⟩], false⟩),
  (79, ⟨[.p none [(.sl 5 ts_u8), (.int .i64), .bool] [false, false, false]], [⟨false, [(.int .i64)], [false]⟩], false⟩),
  (81, ⟨[.p none [(.sl 5 ts_u8), (.int .i64), .bool] [false, false, false]], [⟨false, [(.int .i64)], [false]⟩], false⟩),
  (82, ⟨[.p none [(.sl 5 ts_u8), (.int .i64), .bool] [false, false, false]], [⟨false, [.bool], [false]⟩], false⟩),
  (80, ⟨[.p none [(.sl 5 ts_u8), (.int .i64), .bool] [false, false, false]], [⟨false, [(.int .i64)], [false]⟩], false⟩),
  (168, ⟨[.v false [(.sl 5 ts_u8)] [false], .v false [(.int .i64)] [false]], [⟨false, [.str], [false]⟩, ⟨false, [(.int .i64)], [false]⟩, ⟨false, [.bool], [false]⟩], false⟩),
  (135, ⟨[.p none [(.sl 5 ts_u8), (.int .i64), .bool] [false, false, false]], [⟨false, [.str], [false]⟩], false⟩),
  (88, ⟨[.p none [(.sl 5 ts_u8), (.int .i64), .bool] [false, false, false]], [⟨true, [(.int .i64), .str, .str, (.int .i64), (.int .i64)], [false, false, false, false, false]⟩], false⟩),
  (32, ⟨[.v false [(.sl 5 ts_u8)] [false]], [⟨true, [(.int .i64), (.int .i64), .str, .str, (.int .i64), (.int .i64)], [false, false, false, false, false, false]⟩, ⟨false, [.bool], [false]⟩], false⟩),
  (47, ⟨[.v false [(.int .i64)] [false]], [⟨false, [(.int .i64)], [false]⟩], false⟩),
  (86, ⟨[.v false [(.int .i64)] [false], .v false [(.int .i64)] [false], .v false [(.int .i64)] [false]], [⟨false, [.bool], [false]⟩], false⟩),
  (144, ⟨[.v false [.str] [false]], [⟨false, [.bool], [false]⟩], false⟩),
  (145, ⟨[.v false [(.int .i64)] [false]], [⟨false, [.bool], [false]⟩], false⟩),
  (146, ⟨[.v true [(.int .i64), .str, .str, (.int .i64), (.int .i64)] [false, false, false, false, false]], [⟨false, [.bool], [false]⟩], false⟩),
  (110, ⟨[.v true [(.int .i64), .str, .str, (.int .i64), (.int .i64)] [false, false, false, false, false]], [⟨false, [.bool], [false]⟩], false⟩),
  (49, ⟨[.v true [(.int .i64), (.int .i64), .str, .str, (.int .i64), (.int .i64)] [false, false, false, false, false, false]], [⟨false, [.bool], [false]⟩], false⟩),
  (63, ⟨[.v false [(.sl 5 ts_u8)] [false], .v false [(.int .i64)] [false]], [⟨false, [(.sl 5 ts_u8)], [true]⟩], false⟩),
  (130, ⟨[.v false [(.sl 5 ts_u8)] [false], .v false [.str] [false]], [⟨false, [(.sl 5 ts_u8)], [true]⟩], false⟩),
  (62, ⟨[.v false [(.sl 5 ts_u8)] [false], .v true [(.int .i64), .str, .str, (.int .i64), (.int .i64)] [false, false, false, false, false]], [⟨false, [(.sl 5 ts_u8)], [true]⟩], false⟩),
  (64, ⟨[.v false [(.sl 5 ts_u8)] [false], .v false [(.int .i64)] [false]], [⟨false, [(.sl 5 ts_u8)], [true]⟩], false⟩),
  (65, ⟨[.v false [(.sl 5 ts_u8)] [false]], [⟨false, [(.int .i64)], [false]⟩], false⟩),
  (12, ⟨[.v true [(.int .i64), (.int .i64), .str, .str, (.int .i64), (.int .i64)] [false, false, false, false, false, false]], [⟨false, [(.sl 5 ts_u8)], [true]⟩], false⟩),
  (50, ⟨[.v false [(.int .i64)] [false]], [⟨false, [(.int .i64)], [false]⟩], false⟩),
  (71, ⟨[.v false [(.sl 5 ts_u8)] [false]], [⟨true, [(.sl 5 ts_u8), (.int .i64), (.int .i64)], [false, false, false]⟩], true⟩),
  (132, ⟨[.p none [(.sl 5 ts_u8), (.int .i64), (.int .i64)] [false, false, false]], [⟨false, [(.int .i64)], [false]⟩], false⟩),
  (78, ⟨[.p none [(.sl 5 ts_u8), (.int .i64), (.int .i64)] [false, false, false], .v false [(.int .i64)] [false]], [⟨false, [(.int .i64)], [false]⟩], false⟩),
  (76, ⟨[.p none [(.sl 5 ts_u8), (.int .i64), (.int .i64)] [false, false, false], .v false [(.int .i64)] [false]], [⟨false, [.bool], [false]⟩], false⟩),
  (77, ⟨[.p none [(.sl 5 ts_u8), (.int .i64), (.int .i64)] [false, false, false], .v false [(.sl 3 ts_i64)] [false]], [⟨false, [(.int .i64)], [false]⟩], false⟩),
  (125, ⟨[.v false [(.int .i64)] [false]], [⟨true, [(.sl 27 ts_s_u8), (.sl 155 ts_Wr), (.int .i64), .bool], [true, true, false, false]⟩], false⟩),
  (162, ⟨[.p none [(.sl 27 ts_s_u8), (.sl 155 ts_Wr), (.int .i64), .bool] [true, true, false, false]], [⟨false, [.bool], [false]⟩], false⟩),
  (126, ⟨[.p none [(.sl 27 ts_s_u8), (.sl 155 ts_Wr), (.int .i64), .bool] [true, true, false, false], .v false [(.int .i64)] [false], .v false [(.sl 5 ts_u8)] [false]], [], false⟩),
  (163, ⟨[.p none [(.sl 5 ts_u8), (.int .i64), (.int .i64)] [false, false, false], .v false [(.sl 9 ts_string)] [false]], [⟨false, [.str], [false]⟩], false⟩),
  (164, ⟨[.p none [(.sl 5 ts_u8), (.int .i64), (.int .i64)] [false, false, false]], [⟨false, [.str], [false]⟩], false⟩),
  (165, ⟨[.p none [(.sl 5 ts_u8), (.int .i64), (.int .i64)] [false, false, false]], [⟨false, [(.int .i64)], [false]⟩], false⟩),
  (127, ⟨[.p none [(.sl 5 ts_u8), (.int .i64), (.int .i64)] [false, false, false]], [⟨true, [(.int .i64), .str, .str, (.int .i64), (.int .i64)], [false, false, false, false, false]⟩], false⟩),
  (167, ⟨[.p none [(.sl 5 ts_u8), (.int .i64), (.int .i64)] [false, false, false], .v false [(.int .i64)] [false]], [⟨false, [(.sl 5 ts_u8)], [true]⟩], false⟩),
  (178, ⟨[.p none [(.sl 27 ts_s_u8), (.sl 155 ts_Wr), (.int .i64), .bool] [true, true, false, false]], [], false⟩),
  (166, ⟨[.p none [(.sl 5 ts_u8), (.int .i64), (.int .i64)] [false, false, false]], [⟨true, [(.sl 27 ts_s_u8), (.sl 155 ts_Wr), (.int .i64), .bool], [true, true, false, false]⟩], false⟩),
  (128, ⟨[.p none [(.sl 5 ts_u8), (.int .i64), (.int .i64)] [false, false, false]], [⟨true, [(.sl 27 ts_s_u8), (.sl 155 ts_Wr), (.int .i64), .bool], [true, true, false, false]⟩], false⟩),
  (56, ⟨[.v false [(.sl 5 ts_u8)] [false]], [⟨true, [(.sl 27 ts_s_u8), (.sl 155 ts_Wr), (.int .i64), .bool], [true, true, false, false]⟩, ⟨false, [(.int .i64)], [false]⟩], false⟩),
  (103, ⟨[.v true [(.sl 27 ts_s_u8), (.sl 155 ts_Wr), (.int .i64), .bool] [false, false, false, false]], [⟨false, [.bool], [false]⟩], false⟩),
  (129, ⟨[.v false [(.sl 27 ts_s_u8)] [false]], [⟨false, [(.sl 5 ts_u8)], [true]⟩], false⟩),
  (58, ⟨[.v true [(.sl 27 ts_s_u8), (.sl 155 ts_Wr), (.int .i64), .bool] [false, false, false, false], .v false [(.int .i64)] [false]], [⟨false, [(.sl 5 ts_u8)], [true]⟩], false⟩),
  (57, ⟨[.v true [(.sl 27 ts_s_u8), (.sl 155 ts_Wr), (.int .i64), .bool] [false, false, false, false], .v false [(.int .i64)] [false]], [⟨false, [(.sl 31 ts_Ent)], [true]⟩], false⟩),
  (59, ⟨[.v false [(.sl 31 ts_Ent)] [false], .v false [(.sl 31 ts_Ent)] [false]], [⟨false, [.bool], [false]⟩], false⟩),
  (83, ⟨[.v false [(.sl 5 ts_u8)] [false], .v false [(.int .i64)] [false]], [⟨false, [(.int .i64)], [false]⟩], false⟩),
  (84, ⟨[.v false [(.sl 5 ts_u8)] [false], .v false [(.int .i64)] [false]], [⟨false, [(.int .i64)], [false]⟩, ⟨false, [(.int .i64)], [false]⟩, ⟨false, [.bool], [false]⟩], false⟩),
  (134, ⟨[.v false [(.sl 5 ts_u8)] [false], .v false [(.int .i64)] [false]], [⟨false, [.str], [false]⟩, ⟨false, [(.int .i64)], [false]⟩, ⟨false, [.bool], [false]⟩], false⟩),
  (87, ⟨[.v false [(.sl 5 ts_u8)] [false], .v false [(.int .i64)] [false]], [⟨true, [(.int .i64), .str, .str, (.int .i64), (.int .i64)], [false, false, false, false, false]⟩, ⟨false, [(.int .i64)], [false]⟩, ⟨false, [.bool], [false]⟩], false⟩),
  (30, ⟨[.v false [(.sl 5 ts_u8)] [false]], [⟨true, [(.int .i64), (.int .i64), .str, .str, (.int .i64), (.int .i64)], [false, false, false, false, false, false]⟩, ⟨false, [.bool], [false]⟩], false⟩),
  (100, ⟨[.v true [(.sl 27 ts_s_u8), (.sl 155 ts_Wr), (.int .i64), .bool] [false, false, false, false]], [⟨false, [.bool], [false]⟩], false⟩),
  (92, ⟨[.v true [(.sl 27 ts_s_u8), (.sl 155 ts_Wr), (.int .i64), .bool] [false, false, false, false], .v false [(.int .i64)] [false]], [⟨false, [(.sl 5 ts_u8)], [true]⟩], false⟩),
  (60, ⟨[.v true [(.sl 27 ts_s_u8), (.sl 155 ts_Wr), (.int .i64), .bool] [false, false, false, false], .v false [(.int .i64)] [false]], [⟨false, [(.sl 31 ts_Ent)], [true]⟩], false⟩),
  (10, ⟨[.v false [(.sl 5 ts_u8)] [false]], [⟨false, [.bool], [false]⟩], false⟩)]
def liveL : List (Nat × (List Nat × List Nat)) := [
  (14300002, ([0, 3, 17, 18, 19, 20, 21, 22], [0, 2])),
  (7000003, ([3, 7, 8, 9], [3])),
  (7000007, ([3, 7, 8, 9, 17], [3, 7, 8, 9])),
  (14400002, ([0, 3, 17, 18, 19, 20, 21, 22], [0, 2])),
  (6500003, ([0, 3, 4], [3])),
  (6500007, ([0, 3, 4, 5], [0, 3, 4])),
  (7100003, ([0, 3, 4, 13, 14], [0, 3])),
  (12500005, ([0, 2, 3, 4], [2, 3])),
  (16700003, ([0, 1, 5, 6], [0, 5])),
  (17800002, ([0, 2], [0])),
  (16600003, ([0, 2, 3, 4], [0, 2, 3])),
  (12800008, ([0, 2, 3], [0, 2, 3])),
  (5600005, ([2, 4, 5, 6, 7], [2, 4, 5, 6])),
  (10300004, ([1, 25, 26, 27, 51, 52, 53, 54], [1, 2, 51, 52, 53, 54])),
  (10300010, ([1, 36, 37, 38, 51, 52, 53, 54], [2])),
  (12900003, ([3, 7, 8, 9], [3])),
  (5800004, ([1, 2, 5], [1, 2, 4])),
  (5700004, ([1, 2, 5, 32, 33, 34, 35], [5])),
  (5900004, ([0, 1, 5], [4])),
  (10000002, ([1, 3, 39, 40, 41, 42, 43, 44, 45, 46, 53, 54, 55, 56, 59, 60, 61], [1, 2, 39, 40, 41, 42, 43, 44, 45, 46, 53, 54, 55, 56, 59, 60, 61])),
  (10000007, ([1, 4, 39, 40, 41, 42, 43, 44, 45, 46, 53, 54, 55, 56, 59, 60, 61], [1, 2, 53, 54, 55, 56, 59, 60, 61])),
  (9200005, ([1, 2, 5, 6], [5])),
  (6000003, ([1, 2, 5, 6, 13, 14, 31, 32, 33, 34, 35, 36], [4, 5])),
  (1000006, ([3, 4, 5, 6, 40, 41, 42, 43, 44, 45, 48, 49, 50, 51, 52, 53, 54, 55, 56, 62, 63, 78, 79, 80, 81, 82, 83, 84, 87, 88, 89, 90, 91, 99, 100, 101], [2, 3, 4, 5, 62, 63, 78, 79, 80, 81, 82, 83, 84, 87, 88, 89, 90, 91, 99, 100, 101]))]
def keyL : List (Nat × List Nat × Nat) := []
def hintL : List (Nat × List Nat) := [(126, [49]), (128, [1000013000900, 1000023000022, 1000023000900, 1000025000900, 27, 1000036000900]), (56, [1000046000045, 1000046011500])]
def C : Ctx := { info := lookN infoL, sig := lookN sigL, live := fun f i => lookN liveL (100000 * f + i), key := keyNo keyL, fid := fidNo keyL, hint := hintNo hintL }
theorem tok : TOk C Try.prog := tok_of (l := infoL) rfl (by kernel_rfl)
theorem mixed : Try.prog.follows .mixedOrders = true := by kernel_rfl
end Go.Proofs.Ytmanmgafjbnakaa.XV
