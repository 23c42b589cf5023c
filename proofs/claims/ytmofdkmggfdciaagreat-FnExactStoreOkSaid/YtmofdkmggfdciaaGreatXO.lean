/- The context of the evaluator for O: types, signatures, slots that live at loops; by a program (dec.py). No condition. -/
import Derived.Test.YtmofdkmggfdciaaGreatProg
import Derived.Test.YtmofdkmggfdciaaGreatRRow
import Derived.KernelRfl
set_option linter.all false
namespace Go.Proofs.YtmofdkmggfdciaaGreat.XO
open Go.Proofs.YtmofdkmggfdciaaGreat.R
abbrev ts_u8 : List Ty := [(.int .u8)]
abbrev E_u8 : Type := Int
abbrev z_u8 : E_u8 := zeroE ts_u8
abbrev rd_u8 (xs : List E_u8) (i : Int) : E_u8 := rdE ts_u8 xs i
abbrev ts_s_u8 : List Ty := [(.sl 5 ts_u8)]
abbrev E_s_u8 : Type := List E_u8
abbrev z_s_u8 : E_s_u8 := zeroE ts_s_u8
abbrev rd_s_u8 (xs : List E_s_u8) (i : Int) : E_s_u8 := rdE ts_s_u8 xs i
abbrev ts_LWr : List Ty := [(.int .i64), (.sl 5 ts_u8)]
abbrev E_LWr : Type := Int × List E_u8
abbrev z_LWr : E_LWr := zeroE ts_LWr
abbrev rd_LWr (xs : List E_LWr) (i : Int) : E_LWr := rdE ts_LWr xs i
abbrev ts_i64 : List Ty := [(.int .i64)]
abbrev E_i64 : Type := Int
abbrev z_i64 : E_i64 := zeroE ts_i64
abbrev rd_i64 (xs : List E_i64) (i : Int) : E_i64 := rdE ts_i64 xs i
abbrev ts_LKey : List Ty := [(.int .i64), (.int .i64), (.int .i64), (.int .i64), (.int .i64)]
abbrev E_LKey : Type := Int × Int × Int × Int × Int
abbrev z_LKey : E_LKey := zeroE ts_LKey
abbrev rd_LKey (xs : List E_LKey) (i : Int) : E_LKey := rdE ts_LKey xs i
abbrev ts_s_LKey : List Ty := [(.sl 264 ts_LKey)]
abbrev E_s_LKey : Type := List E_LKey
abbrev z_s_LKey : E_s_LKey := zeroE ts_s_LKey
abbrev rd_s_LKey (xs : List E_s_LKey) (i : Int) : E_s_LKey := rdE ts_s_LKey xs i
abbrev ts_LNode : List Ty := [(.sl 253 ts_s_LKey)]
abbrev E_LNode : Type := List E_s_LKey
abbrev z_LNode : E_LNode := zeroE ts_LNode
abbrev rd_LNode (xs : List E_LNode) (i : Int) : E_LNode := rdE ts_LNode xs i
abbrev ts_LAge : List Ty := [(.int .i64), (.int .i64)]
abbrev E_LAge : Type := Int × Int
abbrev z_LAge : E_LAge := zeroE ts_LAge
abbrev rd_LAge (xs : List E_LAge) (i : Int) : E_LAge := rdE ts_LAge xs i
abbrev ts_LCell : List Ty := [(.int .i64), .bool, (.int .i64)]
abbrev E_LCell : Type := Int × Bool × Int
abbrev z_LCell : E_LCell := zeroE ts_LCell
abbrev rd_LCell (xs : List E_LCell) (i : Int) : E_LCell := rdE ts_LCell xs i
abbrev ts_LVol : List Ty := [.str, (.int .i64), (.int .i64), .bool]
abbrev E_LVol : Type := ByteArray × Int × Int × Bool
abbrev z_LVol : E_LVol := zeroE ts_LVol
abbrev rd_LVol (xs : List E_LVol) (i : Int) : E_LVol := rdE ts_LVol xs i
abbrev ts_Wr : List Ty := [(.int .i64), (.sl 5 ts_u8)]
abbrev E_Wr : Type := Int × List E_u8
abbrev z_Wr : E_Wr := zeroE ts_Wr
abbrev rd_Wr (xs : List E_Wr) (i : Int) : E_Wr := rdE ts_Wr xs i
abbrev ts_Key : List Ty := [(.int .i64), (.int .i64), (.int .i64), (.int .i64), (.int .i64)]
abbrev E_Key : Type := Int × Int × Int × Int × Int
abbrev z_Key : E_Key := zeroE ts_Key
abbrev rd_Key (xs : List E_Key) (i : Int) : E_Key := rdE ts_Key xs i
abbrev ts_s_Key : List Ty := [(.sl 105 ts_Key)]
abbrev E_s_Key : Type := List E_Key
abbrev z_s_Key : E_s_Key := zeroE ts_s_Key
abbrev rd_s_Key (xs : List E_s_Key) (i : Int) : E_s_Key := rdE ts_s_Key xs i
abbrev ts_Node : List Ty := [(.sl 99 ts_s_Key)]
abbrev E_Node : Type := List E_s_Key
abbrev z_Node : E_Node := zeroE ts_Node
abbrev rd_Node (xs : List E_Node) (i : Int) : E_Node := rdE ts_Node xs i
abbrev ts_Age : List Ty := [(.int .i64), (.int .i64)]
abbrev E_Age : Type := Int × Int
abbrev z_Age : E_Age := zeroE ts_Age
abbrev rd_Age (xs : List E_Age) (i : Int) : E_Age := rdE ts_Age xs i
abbrev ts_Cell : List Ty := [(.int .i64), .bool, (.int .i64)]
abbrev E_Cell : Type := Int × Bool × Int
abbrev z_Cell : E_Cell := zeroE ts_Cell
abbrev rd_Cell (xs : List E_Cell) (i : Int) : E_Cell := rdE ts_Cell xs i
abbrev ts_Vol : List Ty := [.str, (.int .i64), (.int .i64), .bool]
abbrev E_Vol : Type := ByteArray × Int × Int × Bool
abbrev z_Vol : E_Vol := zeroE ts_Vol
abbrev rd_Vol (xs : List E_Vol) (i : Int) : E_Vol := rdE ts_Vol xs i
abbrev ts_bool : List Ty := [.bool]
abbrev E_bool : Type := Bool
abbrev z_bool : E_bool := zeroE ts_bool
abbrev rd_bool (xs : List E_bool) (i : Int) : E_bool := rdE ts_bool xs i
def infoL : List (Nat × TI) := [
  (3, .c (.int .i64) 8),
  (4, .c (.bool) 1),
  (5, .c (.int .u8) 1),
  (9, .c (.str) 16),
  (22, .c (.sl 56 ts_s_u8) 24),
  (23, .c (.sl 173 ts_LWr) 24),
  (25, .s [(0, 22), (1, 23), (2, 3), (3, 4)] [(.sl 56 ts_s_u8), (.sl 173 ts_LWr), (.int .i64), .bool] 64),
  (26, .c (.sl 3 ts_i64) 24),
  (27, .c (.sl 205 ts_LNode) 24),
  (29, .s [(0, 26), (1, 27)] [(.sl 3 ts_i64), (.sl 205 ts_LNode)] 48),
  (30, .c (.sl 158 ts_LAge) 24),
  (31, .c (.sl 160 ts_LCell) 24),
  (32, .c (.sl 150 ts_LVol) 24),
  (34, .s [(0, 29), (2, 30), (3, 31), (4, 32), (5, 3)] [(.sl 3 ts_i64), (.sl 205 ts_LNode), (.sl 158 ts_LAge), (.sl 160 ts_LCell), (.sl 150 ts_LVol), (.int .i64)] 128),
  (36, .s [(0, 25), (4, 34), (10, 3), (11, 3), (12, 3)] [(.sl 56 ts_s_u8), (.sl 173 ts_LWr), (.int .i64), .bool, (.sl 3 ts_i64), (.sl 205 ts_LNode), (.sl 158 ts_LAge), (.sl 160 ts_LCell), (.sl 150 ts_LVol), (.int .i64), (.int .i64), (.int .i64), (.int .i64)] 216),
  (39, .c (.sl 178 ts_Wr) 24),
  (41, .s [(0, 22), (1, 39), (2, 3), (3, 4)] [(.sl 56 ts_s_u8), (.sl 178 ts_Wr), (.int .i64), .bool] 64),
  (42, .c (.sl 97 ts_Node) 24),
  (44, .s [(0, 26), (1, 42)] [(.sl 3 ts_i64), (.sl 97 ts_Node)] 48),
  (45, .c (.sl 88 ts_Age) 24),
  (46, .c (.sl 94 ts_Cell) 24),
  (47, .c (.sl 90 ts_Vol) 24),
  (49, .s [(0, 44), (2, 45), (3, 46), (4, 47), (5, 3)] [(.sl 3 ts_i64), (.sl 97 ts_Node), (.sl 88 ts_Age), (.sl 94 ts_Cell), (.sl 90 ts_Vol), (.int .i64)] 128),
  (51, .s [(0, 41), (4, 49), (10, 3), (11, 3), (12, 3)] [(.sl 56 ts_s_u8), (.sl 178 ts_Wr), (.int .i64), .bool, (.sl 3 ts_i64), (.sl 97 ts_Node), (.sl 88 ts_Age), (.sl 94 ts_Cell), (.sl 90 ts_Vol), (.int .i64), (.int .i64), (.int .i64), (.int .i64)] 216),
  (56, .c (.sl 5 ts_u8) 24),
  (88, .s [(0, 3), (1, 3)] [(.int .i64), (.int .i64)] 16),
  (90, .s [(0, 9), (1, 3), (2, 3), (3, 4)] [.str, (.int .i64), (.int .i64), .bool] 40),
  (94, .s [(0, 3), (1, 4), (2, 3)] [(.int .i64), .bool, (.int .i64)] 24),
  (95, .c (.sl 99 ts_s_Key) 24),
  (97, .s [(0, 95)] [(.sl 99 ts_s_Key)] 24),
  (99, .c (.sl 105 ts_Key) 24),
  (105, .s [(0, 3), (1, 3), (2, 3), (3, 3), (4, 3)] [(.int .i64), (.int .i64), (.int .i64), (.int .i64), (.int .i64)] 40),
  (150, .s [(0, 9), (1, 3), (2, 3), (3, 4)] [.str, (.int .i64), (.int .i64), .bool] 40),
  (158, .s [(0, 3), (1, 3)] [(.int .i64), (.int .i64)] 16),
  (160, .s [(0, 3), (1, 4), (2, 3)] [(.int .i64), .bool, (.int .i64)] 24),
  (173, .s [(0, 3), (1, 56)] [(.int .i64), (.sl 5 ts_u8)] 32),
  (178, .s [(0, 3), (1, 56)] [(.int .i64), (.sl 5 ts_u8)] 32),
  (203, .c (.sl 253 ts_s_LKey) 24),
  (205, .s [(0, 203)] [(.sl 253 ts_s_LKey)] 24),
  (216, .c (.sl 4 ts_bool) 24),
  (253, .c (.sl 264 ts_LKey) 24),
  (264, .s [(0, 3), (1, 3), (2, 3), (3, 3), (4, 3)] [(.int .i64), (.int .i64), (.int .i64), (.int .i64), (.int .i64)] 40)]
def sigL : List (Nat × Sig) := [
  (105, ⟨[.v false [(.sl 3 ts_i64)] [false], .v false [(.int .i64)] [false]], [⟨false, [(.int .i64)], [false]⟩], false⟩),
  (256, ⟨[.v false [(.sl 264 ts_LKey)] [false], .v false [(.int .i64)] [false]], [⟨false, [(.int .i64)], [false]⟩], false⟩),
  (222, ⟨[.v false [(.sl 253 ts_s_LKey)] [false], .v false [(.int .i64)] [false]], [⟨false, [(.int .i64)], [false]⟩], false⟩),
  (174, ⟨[.v true [(.sl 253 ts_s_LKey)] [false], .v false [(.int .i64)] [false]], [⟨false, [(.int .i64)], [false]⟩], false⟩),
  (106, ⟨[.v false [(.sl 205 ts_LNode)] [false], .v false [(.int .i64)] [false]], [⟨false, [(.int .i64)], [false]⟩], false⟩),
  (41, ⟨[.v true [(.sl 3 ts_i64), (.sl 205 ts_LNode)] [false, false], .v false [(.int .i64)] [false]], [⟨false, [(.int .i64)], [false]⟩], false⟩),
  (42, ⟨[.v false [(.sl 158 ts_LAge)] [false], .v false [(.int .i64)] [false]], [⟨false, [(.int .i64)], [false]⟩], false⟩),
  (43, ⟨[.v false [(.sl 160 ts_LCell)] [false], .v false [(.int .i64)] [false]], [⟨false, [(.int .i64)], [false]⟩], false⟩),
  (107, ⟨[.v true [.str, (.int .i64), (.int .i64), .bool] [false, false, false, false], .v false [(.int .i64)] [false]], [⟨false, [(.int .i64)], [false]⟩], false⟩),
  (44, ⟨[.v false [(.sl 150 ts_LVol)] [false], .v false [(.int .i64)] [false]], [⟨false, [(.int .i64)], [false]⟩], false⟩),
  (14, ⟨[.v true [(.sl 3 ts_i64), (.sl 205 ts_LNode), (.sl 158 ts_LAge), (.sl 160 ts_LCell), (.sl 150 ts_LVol), (.int .i64)] [false, false, false, false, false, false], .v false [(.int .i64)] [false]], [⟨false, [(.int .i64)], [false]⟩], false⟩),
  (134, ⟨[.v false [(.sl 5 ts_u8)] [false], .v false [(.int .i64)] [false]], [⟨false, [(.int .i64)], [false]⟩], false⟩),
  (67, ⟨[.v false [(.sl 56 ts_s_u8)] [false], .v false [(.int .i64)] [false]], [⟨false, [(.int .i64)], [false]⟩], false⟩),
  (135, ⟨[.v true [(.int .i64), (.sl 5 ts_u8)] [false, false], .v false [(.int .i64)] [false]], [⟨false, [(.int .i64)], [false]⟩], false⟩),
  (68, ⟨[.v false [(.sl 173 ts_LWr)] [false], .v false [(.int .i64)] [false]], [⟨false, [(.int .i64)], [false]⟩], false⟩),
  (23, ⟨[.v true [(.sl 56 ts_s_u8), (.sl 173 ts_LWr), (.int .i64), .bool] [false, false, false, false], .v false [(.int .i64)] [false]], [⟨false, [(.int .i64)], [false]⟩], false⟩),
  (9, ⟨[.v true [(.sl 56 ts_s_u8), (.sl 173 ts_LWr), (.int .i64), .bool, (.sl 3 ts_i64), (.sl 205 ts_LNode), (.sl 158 ts_LAge), (.sl 160 ts_LCell), (.sl 150 ts_LVol), (.int .i64), (.int .i64), (.int .i64), (.int .i64)] [false, false, false, false, false, false, false, false, false, false, false, false, false], .v false [(.int .i64)] [false]], [⟨false, [(.int .i64)], [false]⟩], false⟩),
  (39, ⟨[.v false [(.int .i64)] [false], .v false [(.int .i64)] [false], .v false [(.int .i64)] [false]], [⟨false, [.bool], [false]⟩], false⟩),
  (213, ⟨[.v false [(.sl 105 ts_Key)] [false]], [⟨false, [(.sl 105 ts_Key)], [true]⟩], false⟩),
  (248, ⟨[.v true [(.int .i64), (.int .i64), (.int .i64), (.int .i64), (.int .i64)] [false, false, false, false, false], .v true [(.int .i64), (.int .i64), (.int .i64), (.int .i64), (.int .i64)] [false, false, false, false, false]], [⟨false, [.bool], [false]⟩], false⟩),
  (249, ⟨[.v true [(.int .i64), (.int .i64), (.int .i64), (.int .i64), (.int .i64)] [false, false, false, false, false], .v true [(.int .i64), (.int .i64), (.int .i64), (.int .i64), (.int .i64)] [false, false, false, false, false]], [⟨false, [.bool], [false]⟩], false⟩),
  (214, ⟨[.v false [(.sl 105 ts_Key)] [false], .v true [(.int .i64), (.int .i64), (.int .i64), (.int .i64), (.int .i64)] [false, false, false, false, false]], [⟨false, [(.sl 105 ts_Key)], [true]⟩], false⟩),
  (235, ⟨[.v false [(.sl 105 ts_Key)] [false], .v false [(.sl 105 ts_Key)] [false]], [⟨false, [(.sl 105 ts_Key)], [true]⟩], false⟩),
  (199, ⟨[.v true [(.sl 99 ts_s_Key)] [false]], [⟨false, [(.sl 105 ts_Key)], [true]⟩], false⟩),
  (156, ⟨[.v true [(.sl 3 ts_i64), (.sl 97 ts_Node)] [false, false]], [⟨false, [(.sl 105 ts_Key)], [true]⟩], false⟩),
  (246, ⟨[.v false [(.int .i64)] [false], .v false [(.int .i64)] [false]], [⟨false, [(.int .i64)], [false]⟩], false⟩),
  (215, ⟨[.v true [(.int .i64), (.int .i64), (.int .i64), (.int .i64), (.int .i64)] [false, false, false, false, false]], [⟨false, [(.int .i64)], [false]⟩], false⟩),
  (181, ⟨[.v true [(.int .i64), (.int .i64), (.int .i64), (.int .i64), (.int .i64)] [false, false, false, false, false]], [⟨false, [.bool], [false]⟩], false⟩),
  (278, ⟨[.v false [(.sl 105 ts_Key)] [false]], [⟨false, [.bool], [false]⟩], false⟩),
  (257, ⟨[.v false [(.sl 105 ts_Key)] [false]], [⟨false, [.bool], [false]⟩], false⟩),
  (258, ⟨[.v true [(.sl 99 ts_s_Key)] [false]], [⟨false, [(.int .i64)], [false]⟩], false⟩),
  (223, ⟨[.v true [(.sl 99 ts_s_Key)] [false]], [⟨false, [.bool], [false]⟩], false⟩),
  (175, ⟨[.v true [(.sl 3 ts_i64), (.sl 97 ts_Node)] [false, false], .v false [(.int .i64)] [false]], [⟨false, [.bool], [false]⟩], false⟩),
  (108, ⟨[.v true [(.sl 3 ts_i64), (.sl 97 ts_Node)] [false, false]], [⟨false, [.bool], [false]⟩], false⟩),
  (176, ⟨[.v false [(.sl 88 ts_Age)] [false], .v false [(.int .i64)] [false]], [⟨false, [(.int .i64)], [false]⟩], false⟩),
  (109, ⟨[.v false [(.sl 88 ts_Age)] [false]], [⟨false, [.bool], [false]⟩], false⟩),
  (177, ⟨[.v false [(.int .i64)] [false]], [⟨false, [.bool], [false]⟩], false⟩),
  (110, ⟨[.v false [(.sl 94 ts_Cell)] [false]], [⟨false, [.bool], [false]⟩], false⟩),
  (178, ⟨[.v false [.str] [false]], [⟨false, [.bool], [false]⟩], false⟩),
  (179, ⟨[.v false [(.sl 88 ts_Age)] [false], .v false [(.int .i64)] [false]], [⟨false, [(.sl 3 ts_i64)], [true]⟩], false⟩),
  (111, ⟨[.v true [(.sl 3 ts_i64), (.sl 97 ts_Node), (.sl 88 ts_Age), (.sl 94 ts_Cell), (.sl 90 ts_Vol), (.int .i64)] [false, false, false, false, false, false]], [⟨false, [.bool], [false]⟩], false⟩),
  (94, ⟨[.v false [(.sl 94 ts_Cell)] [false]], [⟨false, [(.int .i64)], [false]⟩], false⟩),
  (180, ⟨[.v false [(.sl 94 ts_Cell)] [false], .v false [(.int .i64)] [false], .v false [(.int .i64)] [false]], [⟨false, [(.int .i64)], [false]⟩, ⟨false, [.bool], [false]⟩], false⟩),
  (112, ⟨[.v true [(.sl 3 ts_i64), (.sl 97 ts_Node), (.sl 88 ts_Age), (.sl 94 ts_Cell), (.sl 90 ts_Vol), (.int .i64)] [false, false, false, false, false, false]], [⟨false, [.bool], [false]⟩], false⟩),
  (45, ⟨[.v true [(.sl 3 ts_i64), (.sl 97 ts_Node), (.sl 88 ts_Age), (.sl 94 ts_Cell), (.sl 90 ts_Vol), (.int .i64)] [false, false, false, false, false, false]], [⟨false, [.bool], [false]⟩], false⟩),
  (102, ⟨[.v true [(.sl 56 ts_s_u8), (.sl 178 ts_Wr), (.int .i64), .bool] [false, false, false, false]], [⟨false, [.bool], [false]⟩], false⟩),
  (38, ⟨[.v true [(.sl 56 ts_s_u8), (.sl 178 ts_Wr), (.int .i64), .bool, (.sl 3 ts_i64), (.sl 97 ts_Node), (.sl 88 ts_Age), (.sl 94 ts_Cell), (.sl 90 ts_Vol), (.int .i64), (.int .i64), (.int .i64), (.int .i64)] [false, false, false, false, false, false, false, false, false, false, false, false, false]], [⟨false, [.bool], [false]⟩], false⟩),
  (10, ⟨[.v true [(.sl 56 ts_s_u8), (.sl 178 ts_Wr), (.int .i64), .bool, (.sl 3 ts_i64), (.sl 97 ts_Node), (.sl 88 ts_Age), (.sl 94 ts_Cell), (.sl 90 ts_Vol), (.int .i64), (.int .i64), (.int .i64), (.int .i64)] [false, false, false, false, false, false, false, false, false, false, false, false, false]], [⟨false, [.bool], [false]⟩], false⟩),
  (114, ⟨[.v false [(.sl 3 ts_i64)] [false]], [⟨false, [(.sl 3 ts_i64)], [true]⟩], false⟩),
  (279, ⟨[.v true [(.int .i64), (.int .i64), (.int .i64), (.int .i64), (.int .i64)] [false, false, false, false, false]], [⟨true, [(.int .i64), (.int .i64), (.int .i64), (.int .i64), (.int .i64)], [false, false, false, false, false]⟩], false⟩),
  (259, ⟨[.v false [(.sl 264 ts_LKey)] [false]], [⟨false, [(.sl 105 ts_Key)], [true]⟩], false⟩),
  (224, ⟨[.v false [(.sl 253 ts_s_LKey)] [false]], [⟨false, [(.sl 99 ts_s_Key)], [true]⟩], false⟩),
  (182, ⟨[.v true [(.sl 253 ts_s_LKey)] [false]], [⟨true, [(.sl 99 ts_s_Key)], [true]⟩], false⟩),
  (115, ⟨[.v false [(.sl 205 ts_LNode)] [false]], [⟨false, [(.sl 97 ts_Node)], [true]⟩], false⟩),
  (50, ⟨[.v true [(.sl 3 ts_i64), (.sl 205 ts_LNode)] [false, false]], [⟨true, [(.sl 3 ts_i64), (.sl 97 ts_Node)], [true, true]⟩], false⟩),
  (116, ⟨[.v true [(.int .i64), (.int .i64)] [false, false]], [⟨true, [(.int .i64), (.int .i64)], [false, false]⟩], false⟩),
  (51, ⟨[.v false [(.sl 158 ts_LAge)] [false]], [⟨false, [(.sl 88 ts_Age)], [true]⟩], false⟩),
  (117, ⟨[.v true [(.int .i64), .bool, (.int .i64)] [false, false, false]], [⟨true, [(.int .i64), .bool, (.int .i64)], [false, false, false]⟩], false⟩),
  (52, ⟨[.v false [(.sl 160 ts_LCell)] [false]], [⟨false, [(.sl 94 ts_Cell)], [true]⟩], false⟩),
  (118, ⟨[.v true [.str, (.int .i64), (.int .i64), .bool] [false, false, false, false]], [⟨true, [.str, (.int .i64), (.int .i64), .bool], [false, false, false, false]⟩], false⟩),
  (53, ⟨[.v false [(.sl 150 ts_LVol)] [false]], [⟨false, [(.sl 90 ts_Vol)], [true]⟩], false⟩),
  (16, ⟨[.v true [(.sl 3 ts_i64), (.sl 205 ts_LNode), (.sl 158 ts_LAge), (.sl 160 ts_LCell), (.sl 150 ts_LVol), (.int .i64)] [false, false, false, false, false, false]], [⟨true, [(.sl 3 ts_i64), (.sl 97 ts_Node), (.sl 88 ts_Age), (.sl 94 ts_Cell), (.sl 90 ts_Vol), (.int .i64)], [true, true, true, true, true, false]⟩], false⟩),
  (31, ⟨[.v false [(.sl 5 ts_u8)] [false]], [⟨false, [(.sl 5 ts_u8)], [true]⟩], false⟩),
  (72, ⟨[.v false [(.sl 56 ts_s_u8)] [false]], [⟨false, [(.sl 56 ts_s_u8)], [true]⟩], false⟩),
  (141, ⟨[.v true [(.int .i64), (.sl 5 ts_u8)] [false, false]], [⟨true, [(.int .i64), (.sl 5 ts_u8)], [false, true]⟩], false⟩),
  (73, ⟨[.v false [(.sl 173 ts_LWr)] [false]], [⟨false, [(.sl 178 ts_Wr)], [true]⟩], false⟩),
  (25, ⟨[.v true [(.sl 56 ts_s_u8), (.sl 173 ts_LWr), (.int .i64), .bool] [false, false, false, false]], [⟨true, [(.sl 56 ts_s_u8), (.sl 178 ts_Wr), (.int .i64), .bool], [true, true, false, false]⟩], false⟩),
  (11, ⟨[.v true [(.sl 56 ts_s_u8), (.sl 173 ts_LWr), (.int .i64), .bool, (.sl 3 ts_i64), (.sl 205 ts_LNode), (.sl 158 ts_LAge), (.sl 160 ts_LCell), (.sl 150 ts_LVol), (.int .i64), (.int .i64), (.int .i64), (.int .i64)] [false, false, false, false, false, false, false, false, false, false, false, false, false]], [⟨true, [(.sl 56 ts_s_u8), (.sl 178 ts_Wr), (.int .i64), .bool, (.sl 3 ts_i64), (.sl 97 ts_Node), (.sl 88 ts_Age), (.sl 94 ts_Cell), (.sl 90 ts_Vol), (.int .i64), (.int .i64), (.int .i64), (.int .i64)], [true, true, false, false, true, true, true, true, true, false, false, false, false]⟩], false⟩),
  (103, ⟨[.v false [(.int .i64)] [false], .v false [(.int .i64)] [false], .v false [(.int .i64)] [false]], [⟨false, [.bool], [false]⟩], false⟩),
  (125, ⟨[.v true [(.int .i64), (.int .i64), (.int .i64), (.int .i64), (.int .i64)] [false, false, false, false, false]], [⟨false, [.bool], [false]⟩], false⟩),
  (260, ⟨[.v true [(.int .i64), (.int .i64), (.int .i64), (.int .i64), (.int .i64)] [false, false, false, false, false], .v true [(.int .i64), (.int .i64), (.int .i64), (.int .i64), (.int .i64)] [false, false, false, false, false]], [⟨false, [.bool], [false]⟩], false⟩),
  (225, ⟨[.v false [(.sl 105 ts_Key)] [false]], [⟨false, [.bool], [false]⟩], false⟩),
  (183, ⟨[.v true [(.sl 99 ts_s_Key)] [false]], [⟨false, [.bool], [false]⟩], false⟩),
  (226, ⟨[.v false [(.int .i64)] [false], .v false [(.int .i64)] [false]], [⟨false, [(.int .i64)], [false]⟩], false⟩),
  (184, ⟨[.v true [(.sl 3 ts_i64), (.sl 97 ts_Node)] [false, false], .v false [(.int .i64)] [false]], [⟨false, [.bool], [false]⟩], false⟩),
  (261, ⟨[.v false [(.sl 105 ts_Key)] [false]], [⟨false, [(.sl 105 ts_Key)], [true]⟩], false⟩),
  (280, ⟨[.v true [(.int .i64), (.int .i64), (.int .i64), (.int .i64), (.int .i64)] [false, false, false, false, false], .v true [(.int .i64), (.int .i64), (.int .i64), (.int .i64), (.int .i64)] [false, false, false, false, false]], [⟨false, [.bool], [false]⟩], false⟩),
  (262, ⟨[.v false [(.sl 105 ts_Key)] [false], .v true [(.int .i64), (.int .i64), (.int .i64), (.int .i64), (.int .i64)] [false, false, false, false, false]], [⟨false, [(.sl 105 ts_Key)], [true]⟩], false⟩),
  (227, ⟨[.v false [(.sl 105 ts_Key)] [false], .v false [(.sl 105 ts_Key)] [false]], [⟨false, [(.sl 105 ts_Key)], [true]⟩], false⟩),
  (228, ⟨[.v false [(.sl 105 ts_Key)] [false]], [⟨false, [(.sl 105 ts_Key)], [true]⟩], false⟩),
  (185, ⟨[.v true [(.sl 99 ts_s_Key)] [false]], [⟨false, [(.sl 105 ts_Key)], [true]⟩], false⟩),
  (119, ⟨[.v true [(.sl 3 ts_i64), (.sl 97 ts_Node)] [false, false]], [⟨false, [.bool], [false]⟩], false⟩),
  (230, ⟨[.v true [(.int .i64), (.int .i64)] [false, false], .p none [(.int .i64)] [false]], [⟨false, [.bool], [false]⟩], false⟩),
  (100000, ⟨[.v false [(.sl 88 ts_Age)] [false], .p (some 230) [(.int .i64)] [false]], [⟨false, [(.int .i64)], [false]⟩], false⟩),
  (186, ⟨[.v false [(.sl 88 ts_Age)] [false], .v false [(.int .i64)] [false]], [⟨false, [(.int .i64)], [false]⟩], false⟩),
  (120, ⟨[.v false [(.sl 88 ts_Age)] [false]], [⟨false, [.bool], [false]⟩], false⟩),
  (187, ⟨[.v false [(.int .i64)] [false]], [⟨false, [.bool], [false]⟩], false⟩),
  (121, ⟨[.v false [(.sl 94 ts_Cell)] [false]], [⟨false, [.bool], [false]⟩], false⟩),
  (163, ⟨[.v false [(.sl 88 ts_Age)] [false], .v false [(.int .i64)] [false]], [⟨false, [(.sl 3 ts_i64)], [true]⟩], false⟩),
  (188, ⟨[.v false [.str] [false]], [⟨false, [.bool], [false]⟩], false⟩),
  (190, ⟨[.v true [.str, (.int .i64), (.int .i64), .bool] [false, false, false, false], .p none [.str, (.int .i64), (.int .i64), .bool] [false, false, false, false]], [⟨false, [.bool], [false]⟩], false⟩),
  (100002, ⟨[.v false [(.sl 90 ts_Vol)] [false], .p (some 190) [.str, (.int .i64), (.int .i64), .bool] [false, false, false, false]], [⟨false, [(.int .i64)], [false]⟩], false⟩),
  (100001, ⟨[.v false [(.sl 90 ts_Vol)] [false], .p (some 190) [.str, (.int .i64), (.int .i64), .bool] [false, false, false, false]], [⟨false, [.bool], [false]⟩], false⟩),
  (122, ⟨[.v true [(.sl 3 ts_i64), (.sl 97 ts_Node), (.sl 88 ts_Age), (.sl 94 ts_Cell), (.sl 90 ts_Vol), (.int .i64)] [false, false, false, false, false, false]], [⟨false, [.bool], [false]⟩], false⟩),
  (97, ⟨[.v false [(.sl 94 ts_Cell)] [false]], [⟨false, [(.int .i64)], [false]⟩], false⟩),
  (160, ⟨[.v true [(.sl 3 ts_i64), (.sl 97 ts_Node)] [false, false]], [⟨false, [(.sl 105 ts_Key)], [true]⟩], false⟩),
  (191, ⟨[.v false [(.sl 94 ts_Cell)] [false], .v false [(.int .i64)] [false], .v false [(.int .i64)] [false]], [⟨false, [(.int .i64)], [false]⟩, ⟨false, [.bool], [false]⟩], false⟩),
  (123, ⟨[.v true [(.sl 3 ts_i64), (.sl 97 ts_Node), (.sl 88 ts_Age), (.sl 94 ts_Cell), (.sl 90 ts_Vol), (.int .i64)] [false, false, false, false, false, false]], [⟨false, [.bool], [false]⟩], false⟩),
  (54, ⟨[.v true [(.sl 3 ts_i64), (.sl 97 ts_Node), (.sl 88 ts_Age), (.sl 94 ts_Cell), (.sl 90 ts_Vol), (.int .i64)] [false, false, false, false, false, false]], [⟨false, [.bool], [false]⟩], false⟩),
  (104, ⟨[.v true [(.sl 56 ts_s_u8), (.sl 178 ts_Wr), (.int .i64), .bool] [false, false, false, false]], [⟨false, [.bool], [false]⟩], false⟩),
  (40, ⟨[.v true [(.sl 56 ts_s_u8), (.sl 178 ts_Wr), (.int .i64), .bool, (.sl 3 ts_i64), (.sl 97 ts_Node), (.sl 88 ts_Age), (.sl 94 ts_Cell), (.sl 90 ts_Vol), (.int .i64), (.int .i64), (.int .i64), (.int .i64)] [false, false, false, false, false, false, false, false, false, false, false, false, false], .v false [(.int .i64)] [false]], [⟨false, [.bool], [false]⟩], false⟩),
  (12, ⟨[.v true [(.sl 56 ts_s_u8), (.sl 178 ts_Wr), (.int .i64), .bool, (.sl 3 ts_i64), (.sl 97 ts_Node), (.sl 88 ts_Age), (.sl 94 ts_Cell), (.sl 90 ts_Vol), (.int .i64), (.int .i64), (.int .i64), (.int .i64)] [false, false, false, false, false, false, false, false, false, false, false, false, false]], [⟨false, [.bool], [false]⟩], false⟩),
  (126, ⟨[.v false [(.sl 3 ts_i64)] [false], .v false [(.sl 3 ts_i64)] [false]], [⟨false, [.bool], [false]⟩], false⟩),
  (281, ⟨[.v true [(.int .i64), (.int .i64), (.int .i64), (.int .i64), (.int .i64)] [false, false, false, false, false], .v true [(.int .i64), (.int .i64), (.int .i64), (.int .i64), (.int .i64)] [false, false, false, false, false]], [⟨false, [.bool], [false]⟩], false⟩),
  (263, ⟨[.v false [(.sl 105 ts_Key)] [false], .v false [(.sl 105 ts_Key)] [false]], [⟨false, [.bool], [false]⟩], false⟩),
  (232, ⟨[.v false [(.sl 99 ts_s_Key)] [false], .v false [(.sl 99 ts_s_Key)] [false]], [⟨false, [.bool], [false]⟩], false⟩),
  (192, ⟨[.v true [(.sl 99 ts_s_Key)] [false], .v true [(.sl 99 ts_s_Key)] [false]], [⟨false, [.bool], [false]⟩], false⟩),
  (127, ⟨[.v false [(.sl 97 ts_Node)] [false], .v false [(.sl 97 ts_Node)] [false]], [⟨false, [.bool], [false]⟩], false⟩),
  (59, ⟨[.v true [(.sl 3 ts_i64), (.sl 97 ts_Node)] [false, false], .v true [(.sl 3 ts_i64), (.sl 97 ts_Node)] [false, false]], [⟨false, [.bool], [false]⟩], false⟩),
  (128, ⟨[.v true [(.int .i64), (.int .i64)] [false, false], .v true [(.int .i64), (.int .i64)] [false, false]], [⟨false, [.bool], [false]⟩], false⟩),
  (60, ⟨[.v false [(.sl 88 ts_Age)] [false], .v false [(.sl 88 ts_Age)] [false]], [⟨false, [.bool], [false]⟩], false⟩),
  (129, ⟨[.v true [(.int .i64), .bool, (.int .i64)] [false, false, false], .v true [(.int .i64), .bool, (.int .i64)] [false, false, false]], [⟨false, [.bool], [false]⟩], false⟩),
  (61, ⟨[.v false [(.sl 94 ts_Cell)] [false], .v false [(.sl 94 ts_Cell)] [false]], [⟨false, [.bool], [false]⟩], false⟩),
  (130, ⟨[.v true [.str, (.int .i64), (.int .i64), .bool] [false, false, false, false], .v true [.str, (.int .i64), (.int .i64), .bool] [false, false, false, false]], [⟨false, [.bool], [false]⟩], false⟩),
  (62, ⟨[.v false [(.sl 90 ts_Vol)] [false], .v false [(.sl 90 ts_Vol)] [false]], [⟨false, [.bool], [false]⟩], false⟩),
  (19, ⟨[.v true [(.sl 3 ts_i64), (.sl 97 ts_Node), (.sl 88 ts_Age), (.sl 94 ts_Cell), (.sl 90 ts_Vol), (.int .i64)] [false, false, false, false, false, false], .v true [(.sl 3 ts_i64), (.sl 97 ts_Node), (.sl 88 ts_Age), (.sl 94 ts_Cell), (.sl 90 ts_Vol), (.int .i64)] [false, false, false, false, false, false]], [⟨false, [.bool], [false]⟩], false⟩),
  (18, ⟨[.v false [(.sl 5 ts_u8)] [false], .v false [(.sl 5 ts_u8)] [false]], [⟨false, [.bool], [false]⟩], false⟩),
  (77, ⟨[.v false [(.sl 56 ts_s_u8)] [false], .v false [(.sl 56 ts_s_u8)] [false]], [⟨false, [.bool], [false]⟩], false⟩),
  (148, ⟨[.v true [(.int .i64), (.sl 5 ts_u8)] [false, false], .v true [(.int .i64), (.sl 5 ts_u8)] [false, false]], [⟨false, [.bool], [false]⟩], false⟩),
  (78, ⟨[.v false [(.sl 178 ts_Wr)] [false], .v false [(.sl 178 ts_Wr)] [false]], [⟨false, [.bool], [false]⟩], false⟩),
  (28, ⟨[.v true [(.sl 56 ts_s_u8), (.sl 178 ts_Wr), (.int .i64), .bool] [false, false, false, false], .v true [(.sl 56 ts_s_u8), (.sl 178 ts_Wr), (.int .i64), .bool] [false, false, false, false]], [⟨false, [.bool], [false]⟩], false⟩),
  (13, ⟨[.v true [(.sl 56 ts_s_u8), (.sl 178 ts_Wr), (.int .i64), .bool, (.sl 3 ts_i64), (.sl 97 ts_Node), (.sl 88 ts_Age), (.sl 94 ts_Cell), (.sl 90 ts_Vol), (.int .i64), (.int .i64), (.int .i64), (.int .i64)] [false, false, false, false, false, false, false, false, false, false, false, false, false], .v true [(.sl 56 ts_s_u8), (.sl 178 ts_Wr), (.int .i64), .bool, (.sl 3 ts_i64), (.sl 97 ts_Node), (.sl 88 ts_Age), (.sl 94 ts_Cell), (.sl 90 ts_Vol), (.int .i64), (.int .i64), (.int .i64), (.int .i64)] [false, false, false, false, false, false, false, false, false, false, false, false, false]], [⟨false, [.bool], [false]⟩], false⟩),
  (3, ⟨[.v true [(.sl 56 ts_s_u8), (.sl 173 ts_LWr), (.int .i64), .bool, (.sl 3 ts_i64), (.sl 205 ts_LNode), (.sl 158 ts_LAge), (.sl 160 ts_LCell), (.sl 150 ts_LVol), (.int .i64), (.int .i64), (.int .i64), (.int .i64)] [false, false, false, false, false, false, false, false, false, false, false, false, false]], [⟨false, [.bool], [false]⟩], false⟩)]
def liveL : List (Nat × (List Nat × List Nat)) := [
  (22200005, ([0, 1, 5], [1, 4])),
  (10600005, ([0, 1, 5], [1, 4])),
  (4400005, ([0, 1, 5], [1, 4])),
  (6700005, ([0, 1, 5], [1, 4])),
  (6800005, ([0, 1, 5], [1, 4])),
  (21300003, ([0, 3, 4], [3])),
  (21400004, ([0, 3, 5, 6, 7, 18, 19, 20, 21, 22, 23, 24], [3, 5, 6])),
  (23500003, ([1, 5, 6], [5])),
  (19900003, ([1, 3, 4], [3])),
  (15600003, ([1, 3, 4], [3])),
  (27800002, ([0, 3], [2])),
  (25700002, ([0, 3, 19, 20, 21], [0, 2, 19, 20, 21])),
  (25800003, ([1, 3, 4], [3])),
  (22300002, ([1, 3, 19, 20, 21, 22, 23, 24, 25, 32, 33, 34], [1, 2, 32, 33, 34])),
  (17500005, ([1, 2, 5, 6, 61, 62, 63, 64, 65, 66, 67, 68, 69, 70, 71, 72, 73, 74, 75, 76], [4])),
  (17500008, ([1, 2, 5, 6, 7, 61, 62, 63, 64, 65, 66, 67, 68, 69, 70, 71, 72, 73, 74, 75, 76], [1, 2, 4, 5, 6, 61, 62, 63, 64, 65, 66, 67, 68, 69, 70, 71, 72, 73, 74, 75, 76])),
  (10800004, ([1, 3, 35, 36, 37, 38, 39, 40, 41, 42, 43, 44, 45, 46, 49, 50, 51, 52], [1, 2])),
  (17600002, ([0, 1, 5], [4])),
  (10900002, ([0, 3, 18, 19, 20, 21, 22, 23, 24, 25, 26, 27, 28, 29, 30, 31, 32, 33, 42, 43, 44, 45, 46, 47, 48, 49, 50, 51], [0, 2])),
  (11000002, ([0, 3, 18, 19, 20, 21, 22, 23, 24, 27, 28, 29, 30, 31, 32, 33, 34, 35, 36, 37, 38, 39, 40], [0, 2])),
  (17800002, ([0, 3, 17, 18, 19, 20, 21, 22], [0, 2])),
  (17900003, ([0, 1, 5, 6, 22, 23], [5])),
  (11100002, ([1, 3, 23, 24, 25, 26, 29, 30, 31, 32, 33, 34, 37, 38, 39, 40, 41, 42, 43, 46, 47, 48, 49, 50, 51, 52, 53, 54, 55, 56, 57, 58, 59], [1, 2])),
  (11100008, ([1, 3, 4, 5, 23, 24, 25, 26, 29, 30, 31, 32, 33, 34, 37, 38, 39, 40, 41, 42, 43, 46, 47, 48, 49, 50, 51, 52, 53, 54, 55, 56, 57, 58, 59], [1, 2, 3, 23, 24, 25, 26, 29, 30, 31, 32, 33, 34, 37, 38, 39, 40, 41, 42, 43, 46, 47, 48, 49, 50, 51, 52, 53, 54, 55, 56, 57, 58, 59])),
  (9400003, ([0, 3, 4], [3])),
  (11200004, ([1, 3, 4, 5, 65, 66, 67, 68, 69, 70, 71, 72, 73, 74, 75], [1, 2, 4])),
  (11200014, ([1, 3, 4, 5, 8, 65, 66, 67, 68, 69, 70, 71, 72, 73, 74, 75], [1, 2, 3, 4, 5, 65, 66, 67, 68, 69, 70, 71, 72, 73, 74, 75])),
  (4500002, ([1, 3, 24, 25, 26, 29, 30, 31, 34, 35, 36, 39, 40, 43, 44], [1, 2, 24, 25, 26, 29, 30, 31, 34, 35, 36, 39, 40, 43, 44])),
  (10200002, ([1, 3, 39, 40, 41, 42, 43, 44, 45, 46, 53, 54, 55, 56, 59, 60, 61], [1, 2, 39, 40, 41, 42, 43, 44, 45, 46, 53, 54, 55, 56, 59, 60, 61])),
  (10200007, ([1, 4, 39, 40, 41, 42, 43, 44, 45, 46, 53, 54, 55, 56, 59, 60, 61], [1, 2, 53, 54, 55, 56, 59, 60, 61])),
  (11400003, ([0, 3, 4], [3])),
  (25900003, ([0, 3, 4], [3])),
  (22400003, ([0, 3, 4], [3])),
  (11500003, ([0, 3, 4], [3])),
  (5100003, ([0, 3, 4], [3])),
  (5200003, ([0, 3, 4], [3])),
  (5300003, ([0, 3, 4], [3])),
  (3100003, ([0, 3, 4], [3])),
  (7200003, ([0, 3, 4], [3])),
  (7300003, ([0, 3, 4], [3])),
  (22500002, ([0, 5, 6, 7, 16, 17, 18, 19, 20, 21, 22, 23, 24, 25, 26, 27], [0, 2])),
  (18300003, ([1, 3, 7, 8, 9, 17, 18, 19, 31, 32], [1, 2, 3, 31, 32])),
  (18400002, ([1, 2, 15, 16, 17, 40, 41, 42, 43, 44, 45, 46, 47, 48, 49, 50, 51, 52, 53, 54, 55], [4])),
  (18400005, ([1, 2, 15, 16, 17, 21, 22, 23, 40, 41, 42, 43, 44, 45, 46, 47, 48, 49, 50, 51, 52, 53, 54, 55], [1, 2, 4, 15, 16, 17, 40, 41, 42, 43, 44, 45, 46, 47, 48, 49, 50, 51, 52, 53, 54, 55])),
  (26200004, ([3, 5, 6, 10, 11, 12, 19, 20, 21, 22], [3, 5, 6])),
  (22700003, ([5, 10, 11, 12], [5])),
  (22800003, ([3, 7, 8, 9], [3])),
  (18500003, ([3, 8, 9, 10], [3])),
  (11900005, ([1, 3, 29, 30, 31, 39, 40, 41, 42, 43, 44, 45, 46, 47, 48, 49, 50, 53, 54, 55, 58, 59, 60, 61, 69, 70], [2, 3])),
  (10000000002, ([0, 1, 7, 8], [1, 4])),
  (12000002, ([0, 5, 6, 7, 17, 18, 19, 20, 21, 22, 23, 24, 25, 26, 27, 28, 29, 32, 33, 34, 35, 36, 37, 38, 39, 40, 41, 42, 43], [0, 2])),
  (12100002, ([0, 5, 6, 7, 16, 17, 18, 19, 22, 23, 24, 25, 26, 27, 28, 29], [0, 2])),
  (16300005, ([1, 5, 12, 13, 14], [5])),
  (18800002, ([0, 3, 17, 18, 19, 20, 21, 22], [0, 2])),
  (10000200002, ([0, 1, 7, 8], [1, 4])),
  (12200002, ([1, 6, 7, 8, 18, 19, 20, 21, 22, 23, 24, 25, 26, 27, 28, 29, 30, 31, 34, 35, 36, 37, 46, 47, 48, 49, 50, 51, 52], [1, 2])),
  (9700003, ([3, 6, 7, 8], [3])),
  (16000003, ([3, 8, 9, 10], [3])),
  (12300004, ([1, 3, 4, 12, 13, 14, 40, 41, 42, 43, 44], [1, 2, 4])),
  (5400004, ([1, 28, 29, 30, 43, 44], [1, 2, 43, 44])),
  (10400004, ([1, 25, 26, 27, 51, 52, 53, 54], [1, 2, 51, 52, 53, 54])),
  (10400010, ([1, 36, 37, 38, 51, 52, 53, 54], [2])),
  (12600004, ([0, 1, 5], [4])),
  (26300004, ([0, 1, 5], [4])),
  (23200004, ([0, 1, 5], [4])),
  (12700004, ([0, 1, 5], [4])),
  (6000004, ([0, 1, 5], [4])),
  (6100004, ([0, 1, 5], [4])),
  (6200004, ([0, 1, 5], [4])),
  (1800004, ([0, 1, 5], [4])),
  (7700004, ([0, 1, 5], [4])),
  (7800004, ([0, 1, 5], [4]))]
def keyL : List (Nat × List Nat × Nat) := [(229, [230], 100000), (189, [190], 100001), (231, [190], 100002)]
def hintL : List (Nat × List Nat) := []
def C : Ctx := { info := lookN infoL, sig := lookN sigL, live := fun f i => lookN liveL (100000 * f + i), key := keyNo keyL, fid := fidNo keyL, hint := hintNo hintL }
theorem tok : TOk C Tryz.prog := tok_of (l := infoL) rfl (by kernel_rfl)
theorem mixed : Tryz.prog.follows .mixedOrders = true := by kernel_rfl
end Go.Proofs.YtmofdkmggfdciaaGreat.XO
