/- The context of the evaluator for Q: types, signatures, slots that live at loops; by a program (dec.py). No condition. -/
import Derived.Test.YtmofdkmggfdciaaProg
import Derived.Test.YtmofdkmggfdciaaRRow
import Derived.KernelRfl
namespace Go.Proofs.Ytmofdkmggfdciaa.XQ
open Go.Proofs.Ytmofdkmggfdciaa.R
abbrev ts_i64 : List Ty := [(.int .i64)]
abbrev E_i64 : Type := Int
abbrev z_i64 : E_i64 := zeroE ts_i64
abbrev rd_i64 (xs : List E_i64) (i : Int) : E_i64 := rdE ts_i64 xs i
abbrev ts_LKey : List Ty := [(.int .i64), (.int .i64), (.int .i64), (.int .i64), (.int .i64)]
abbrev E_LKey : Type := Int × Int × Int × Int × Int
abbrev z_LKey : E_LKey := zeroE ts_LKey
abbrev rd_LKey (xs : List E_LKey) (i : Int) : E_LKey := rdE ts_LKey xs i
abbrev ts_s_LKey : List Ty := [(.sl 179 ts_LKey)]
abbrev E_s_LKey : Type := List E_LKey
abbrev z_s_LKey : E_s_LKey := zeroE ts_s_LKey
abbrev rd_s_LKey (xs : List E_s_LKey) (i : Int) : E_s_LKey := rdE ts_s_LKey xs i
abbrev ts_LNode : List Ty := [(.sl 171 ts_s_LKey)]
abbrev E_LNode : Type := List E_s_LKey
abbrev z_LNode : E_LNode := zeroE ts_LNode
abbrev rd_LNode (xs : List E_LNode) (i : Int) : E_LNode := rdE ts_LNode xs i
abbrev ts_LAge : List Ty := [(.int .i64), (.int .i64)]
abbrev E_LAge : Type := Int × Int
abbrev z_LAge : E_LAge := zeroE ts_LAge
abbrev rd_LAge (xs : List E_LAge) (i : Int) : E_LAge := rdE ts_LAge xs i
abbrev ts_LCell : List Ty := [(.int .i64), .bool, (.int .i64)]
abbrev E_LCell : Type := Int × Bool × Int
abbrev z_LCell : E_LCell := zeroE ts_LCell
abbrev rd_LCell (xs : List E_LCell) (i : Int) : E_LCell := rdE ts_LCell xs i
abbrev ts_LVol : List Ty := [.str, (.int .i64), (.int .i64), .bool]
abbrev E_LVol : Type := ByteArray × Int × Int × Bool
abbrev z_LVol : E_LVol := zeroE ts_LVol
abbrev rd_LVol (xs : List E_LVol) (i : Int) : E_LVol := rdE ts_LVol xs i
abbrev ts_Key : List Ty := [(.int .i64), (.int .i64), (.int .i64), (.int .i64), (.int .i64)]
abbrev E_Key : Type := Int × Int × Int × Int × Int
abbrev z_Key : E_Key := zeroE ts_Key
abbrev rd_Key (xs : List E_Key) (i : Int) : E_Key := rdE ts_Key xs i
abbrev ts_s_Key : List Ty := [(.sl 86 ts_Key)]
abbrev E_s_Key : Type := List E_Key
abbrev z_s_Key : E_s_Key := zeroE ts_s_Key
abbrev rd_s_Key (xs : List E_s_Key) (i : Int) : E_s_Key := rdE ts_s_Key xs i
abbrev ts_Node : List Ty := [(.sl 83 ts_s_Key)]
abbrev E_Node : Type := List E_s_Key
abbrev z_Node : E_Node := zeroE ts_Node
abbrev rd_Node (xs : List E_Node) (i : Int) : E_Node := rdE ts_Node xs i
abbrev ts_Age : List Ty := [(.int .i64), (.int .i64)]
abbrev E_Age : Type := Int × Int
abbrev z_Age : E_Age := zeroE ts_Age
abbrev rd_Age (xs : List E_Age) (i : Int) : E_Age := rdE ts_Age xs i
abbrev ts_Cell : List Ty := [(.int .i64), .bool, (.int .i64)]
abbrev E_Cell : Type := Int × Bool × Int
abbrev z_Cell : E_Cell := zeroE ts_Cell
abbrev rd_Cell (xs : List E_Cell) (i : Int) : E_Cell := rdE ts_Cell xs i
abbrev ts_Vol : List Ty := [.str, (.int .i64), (.int .i64), .bool]
abbrev E_Vol : Type := ByteArray × Int × Int × Bool
abbrev z_Vol : E_Vol := zeroE ts_Vol
abbrev rd_Vol (xs : List E_Vol) (i : Int) : E_Vol := rdE ts_Vol xs i
def infoL : List (Nat × TI) := [
  (3, .c (.int .i64) 8),
  (4, .c (.bool) 1),
  (9, .c (.str) 16),
  (38, .c (.sl 3 ts_i64) 24),
  (39, .c (.sl 155 ts_LNode) 24),
  (41, .s [(0, 38), (1, 39)] [(.sl 3 ts_i64), (.sl 155 ts_LNode)] 48),
  (42, .c (.sl 136 ts_LAge) 24),
  (43, .c (.sl 140 ts_LCell) 24),
  (44, .c (.sl 124 ts_LVol) 24),
  (46, .s [(0, 41), (2, 42), (3, 43), (4, 44), (5, 3)] [(.sl 3 ts_i64), (.sl 155 ts_LNode), (.sl 136 ts_LAge), (.sl 140 ts_LCell), (.sl 124 ts_LVol), (.int .i64)] 128),
  (49, .c (.sl 128 ts_Node) 24),
  (51, .s [(0, 38), (1, 49)] [(.sl 3 ts_i64), (.sl 128 ts_Node)] 48),
  (52, .c (.sl 134 ts_Age) 24),
  (53, .c (.sl 138 ts_Cell) 24),
  (54, .c (.sl 129 ts_Vol) 24),
  (56, .s [(0, 51), (2, 52), (3, 53), (4, 54), (5, 3)] [(.sl 3 ts_i64), (.sl 128 ts_Node), (.sl 134 ts_Age), (.sl 138 ts_Cell), (.sl 129 ts_Vol), (.int .i64)] 128),
  (83, .c (.sl 86 ts_Key) 24),
  (86, .s [(0, 3), (1, 3), (2, 3), (3, 3), (4, 3)] [(.int .i64), (.int .i64), (.int .i64), (.int .i64), (.int .i64)] 40),
  (124, .s [(0, 9), (1, 3), (2, 3), (3, 4)] [.str, (.int .i64), (.int .i64), .bool] 40),
  (126, .c (.sl 83 ts_s_Key) 24),
  (128, .s [(0, 126)] [(.sl 83 ts_s_Key)] 24),
  (129, .s [(0, 9), (1, 3), (2, 3), (3, 4)] [.str, (.int .i64), (.int .i64), .bool] 40),
  (134, .s [(0, 3), (1, 3)] [(.int .i64), (.int .i64)] 16),
  (136, .s [(0, 3), (1, 3)] [(.int .i64), (.int .i64)] 16),
  (138, .s [(0, 3), (1, 4), (2, 3)] [(.int .i64), .bool, (.int .i64)] 24),
  (140, .s [(0, 3), (1, 4), (2, 3)] [(.int .i64), .bool, (.int .i64)] 24),
  (153, .c (.sl 171 ts_s_LKey) 24),
  (155, .s [(0, 153)] [(.sl 171 ts_s_LKey)] 24),
  (171, .c (.sl 179 ts_LKey) 24),
  (179, .s [(0, 3), (1, 3), (2, 3), (3, 3), (4, 3)] [(.int .i64), (.int .i64), (.int .i64), (.int .i64), (.int .i64)] 40)]
def sigL : List (Nat × Sig) := [
  (75, ⟨[.v false [(.sl 3 ts_i64)] [false], .v false [(.int .i64)] [false]], [⟨false, [(.int .i64)], [false]⟩], false⟩),
  (123, ⟨[.v false [(.sl 179 ts_LKey)] [false], .v false [(.int .i64)] [false]], [⟨false, [(.int .i64)], [false]⟩], false⟩),
  (113, ⟨[.v false [(.sl 171 ts_s_LKey)] [false], .v false [(.int .i64)] [false]], [⟨false, [(.int .i64)], [false]⟩], false⟩),
  (98, ⟨[.v true [(.sl 171 ts_s_LKey)] [false], .v false [(.int .i64)] [false]], [⟨false, [(.int .i64)], [false]⟩], false⟩),
  (76, ⟨[.v false [(.sl 155 ts_LNode)] [false], .v false [(.int .i64)] [false]], [⟨false, [(.int .i64)], [false]⟩], false⟩),
  (37, ⟨[.v true [(.sl 3 ts_i64), (.sl 155 ts_LNode)] [false, false], .v false [(.int .i64)] [false]], [⟨false, [(.int .i64)], [false]⟩], false⟩),
  (38, ⟨[.v false [(.sl 136 ts_LAge)] [false], .v false [(.int .i64)] [false]], [⟨false, [(.int .i64)], [false]⟩], false⟩),
  (39, ⟨[.v false [(.sl 140 ts_LCell)] [false], .v false [(.int .i64)] [false]], [⟨false, [(.int .i64)], [false]⟩], false⟩),
  (77, ⟨[.v true [.str, (.int .i64), (.int .i64), .bool] [false, false, false, false], .v false [(.int .i64)] [false]], [⟨false, [(.int .i64)], [false]⟩], false⟩),
  (40, ⟨[.v false [(.sl 124 ts_LVol)] [false], .v false [(.int .i64)] [false]], [⟨false, [(.int .i64)], [false]⟩], false⟩),
  (14, ⟨[.v true [(.sl 3 ts_i64), (.sl 155 ts_LNode), (.sl 136 ts_LAge), (.sl 140 ts_LCell), (.sl 124 ts_LVol), (.int .i64)] [false, false, false, false, false, false], .v false [(.int .i64)] [false]], [⟨false, [(.int .i64)], [false]⟩], false⟩),
  (124, ⟨[.v true [(.int .i64), (.int .i64), (.int .i64), (.int .i64), (.int .i64)] [false, false, false, false, false], .v true [(.int .i64), (.int .i64), (.int .i64), (.int .i64), (.int .i64)] [false, false, false, false, false]], [⟨false, [.bool], [false]⟩], false⟩),
  (125, ⟨[.v true [(.int .i64), (.int .i64), (.int .i64), (.int .i64), (.int .i64)] [false, false, false, false, false], .v true [(.int .i64), (.int .i64), (.int .i64), (.int .i64), (.int .i64)] [false, false, false, false, false]], [⟨false, [.bool], [false]⟩], false⟩),
  (114, ⟨[.v false [(.sl 86 ts_Key)] [false], .v true [(.int .i64), (.int .i64), (.int .i64), (.int .i64), (.int .i64)] [false, false, false, false, false]], [⟨false, [(.sl 86 ts_Key)], [true]⟩], false⟩),
  (99, ⟨[.v false [(.sl 86 ts_Key)] [false], .v false [(.sl 86 ts_Key)] [false]], [⟨false, [(.sl 86 ts_Key)], [true]⟩], false⟩),
  (100, ⟨[.v false [(.sl 86 ts_Key)] [false]], [⟨false, [(.sl 86 ts_Key)], [true]⟩], false⟩),
  (78, ⟨[.v true [(.sl 83 ts_s_Key)] [false]], [⟨false, [(.sl 86 ts_Key)], [true]⟩], false⟩),
  (41, ⟨[.v true [(.sl 3 ts_i64), (.sl 128 ts_Node)] [false, false]], [⟨false, [(.sl 86 ts_Key)], [true]⟩], false⟩),
  (126, ⟨[.v true [(.sl 3 ts_i64), (.sl 128 ts_Node)] [false, false], .v false [(.int .i64)] [false]], [⟨false, [(.sl 86 ts_Key)], [true]⟩], false⟩),
  (127, ⟨[.v false [(.sl 3 ts_i64)] [false], .v false [(.int .i64)] [false]], [⟨false, [.bool], [false]⟩], false⟩),
  (115, ⟨[.v true [(.sl 3 ts_i64), (.sl 128 ts_Node)] [false, false], .v false [(.int .i64)] [false], .v false [(.sl 3 ts_i64)] [false]], [⟨true, [(.int .i64), (.int .i64), (.int .i64), (.int .i64), (.int .i64)], [false, false, false, false, false]⟩, ⟨false, [.bool], [false]⟩], false⟩),
  (128, ⟨[.v false [(.sl 134 ts_Age)] [false], .v false [(.int .i64)] [false]], [⟨false, [(.int .i64)], [false]⟩], false⟩),
  (116, ⟨[.v false [(.sl 134 ts_Age)] [false], .v false [(.int .i64)] [false]], [⟨false, [(.sl 3 ts_i64)], [true]⟩], false⟩),
  (101, ⟨[.v true [(.sl 3 ts_i64), (.sl 128 ts_Node)] [false, false], .v false [(.sl 134 ts_Age)] [false], .v false [(.int .i64)] [false], .v false [(.int .i64)] [false]], [⟨true, [(.int .i64), (.int .i64), (.int .i64), (.int .i64), (.int .i64)], [false, false, false, false, false]⟩, ⟨false, [.bool], [false]⟩], false⟩),
  (79, ⟨[.v true [(.sl 3 ts_i64), (.sl 128 ts_Node)] [false, false], .v false [(.sl 134 ts_Age)] [false], .v true [(.int .i64), (.int .i64), (.int .i64), (.int .i64), (.int .i64)] [false, false, false, false, false], .v false [(.int .i64)] [false]], [⟨false, [.bool], [false]⟩], false⟩),
  (42, ⟨[.v true [(.sl 3 ts_i64), (.sl 128 ts_Node), (.sl 134 ts_Age), (.sl 138 ts_Cell), (.sl 129 ts_Vol), (.int .i64)] [false, false, false, false, false, false], .v true [(.int .i64), (.int .i64), (.int .i64), (.int .i64), (.int .i64)] [false, false, false, false, false]], [⟨false, [.bool], [false]⟩], false⟩),
  (15, ⟨[.v true [(.sl 3 ts_i64), (.sl 128 ts_Node), (.sl 134 ts_Age), (.sl 138 ts_Cell), (.sl 129 ts_Vol), (.int .i64)] [false, false, false, false, false, false]], [⟨false, [(.int .i64)], [false]⟩], false⟩),
  (80, ⟨[.v false [(.sl 3 ts_i64)] [false]], [⟨false, [(.sl 3 ts_i64)], [true]⟩], false⟩),
  (136, ⟨[.v true [(.int .i64), (.int .i64), (.int .i64), (.int .i64), (.int .i64)] [false, false, false, false, false]], [⟨true, [(.int .i64), (.int .i64), (.int .i64), (.int .i64), (.int .i64)], [false, false, false, false, false]⟩], false⟩),
  (129, ⟨[.v false [(.sl 179 ts_LKey)] [false]], [⟨false, [(.sl 86 ts_Key)], [true]⟩], false⟩),
  (117, ⟨[.v false [(.sl 171 ts_s_LKey)] [false]], [⟨false, [(.sl 83 ts_s_Key)], [true]⟩], false⟩),
  (102, ⟨[.v true [(.sl 171 ts_s_LKey)] [false]], [⟨true, [(.sl 83 ts_s_Key)], [true]⟩], false⟩),
  (81, ⟨[.v false [(.sl 155 ts_LNode)] [false]], [⟨false, [(.sl 128 ts_Node)], [true]⟩], false⟩),
  (43, ⟨[.v true [(.sl 3 ts_i64), (.sl 155 ts_LNode)] [false, false]], [⟨true, [(.sl 3 ts_i64), (.sl 128 ts_Node)], [true, true]⟩], false⟩),
  (82, ⟨[.v true [(.int .i64), (.int .i64)] [false, false]], [⟨true, [(.int .i64), (.int .i64)], [false, false]⟩], false⟩),
  (44, ⟨[.v false [(.sl 136 ts_LAge)] [false]], [⟨false, [(.sl 134 ts_Age)], [true]⟩], false⟩),
  (83, ⟨[.v true [(.int .i64), .bool, (.int .i64)] [false, false, false]], [⟨true, [(.int .i64), .bool, (.int .i64)], [false, false, false]⟩], false⟩),
  (45, ⟨[.v false [(.sl 140 ts_LCell)] [false]], [⟨false, [(.sl 138 ts_Cell)], [true]⟩], false⟩),
  (84, ⟨[.v true [.str, (.int .i64), (.int .i64), .bool] [false, false, false, false]], [⟨true, [.str, (.int .i64), (.int .i64), .bool], [false, false, false, false]⟩], false⟩),
  (46, ⟨[.v false [(.sl 124 ts_LVol)] [false]], [⟨false, [(.sl 129 ts_Vol)], [true]⟩], false⟩),
  (16, ⟨[.v true [(.sl 3 ts_i64), (.sl 155 ts_LNode), (.sl 136 ts_LAge), (.sl 140 ts_LCell), (.sl 124 ts_LVol), (.int .i64)] [false, false, false, false, false, false]], [⟨true, [(.sl 3 ts_i64), (.sl 128 ts_Node), (.sl 134 ts_Age), (.sl 138 ts_Cell), (.sl 129 ts_Vol), (.int .i64)], [true, true, true, true, true, false]⟩], false⟩),
  (118, ⟨[.v false [(.sl 86 ts_Key)] [false]], [⟨false, [(.sl 86 ts_Key)], [true]⟩], false⟩),
  (130, ⟨[.v true [(.int .i64), (.int .i64), (.int .i64), (.int .i64), (.int .i64)] [false, false, false, false, false], .v true [(.int .i64), (.int .i64), (.int .i64), (.int .i64), (.int .i64)] [false, false, false, false, false]], [⟨false, [.bool], [false]⟩], false⟩),
  (131, ⟨[.v true [(.int .i64), (.int .i64), (.int .i64), (.int .i64), (.int .i64)] [false, false, false, false, false], .v true [(.int .i64), (.int .i64), (.int .i64), (.int .i64), (.int .i64)] [false, false, false, false, false]], [⟨false, [.bool], [false]⟩], false⟩),
  (119, ⟨[.v false [(.sl 86 ts_Key)] [false], .v true [(.int .i64), (.int .i64), (.int .i64), (.int .i64), (.int .i64)] [false, false, false, false, false]], [⟨false, [(.sl 86 ts_Key)], [true]⟩], false⟩),
  (103, ⟨[.v false [(.sl 86 ts_Key)] [false], .v false [(.sl 86 ts_Key)] [false]], [⟨false, [(.sl 86 ts_Key)], [true]⟩], false⟩),
  (104, ⟨[.v false [(.sl 86 ts_Key)] [false]], [⟨false, [(.sl 86 ts_Key)], [true]⟩], false⟩),
  (85, ⟨[.v true [(.sl 83 ts_s_Key)] [false]], [⟨false, [(.sl 86 ts_Key)], [true]⟩], false⟩),
  (47, ⟨[.v true [(.sl 3 ts_i64), (.sl 128 ts_Node)] [false, false]], [⟨false, [(.sl 86 ts_Key)], [true]⟩], false⟩),
  (132, ⟨[.v true [(.sl 3 ts_i64), (.sl 128 ts_Node)] [false, false], .v false [(.int .i64)] [false]], [⟨false, [(.sl 86 ts_Key)], [true]⟩], false⟩),
  (137, ⟨[.v false [(.sl 3 ts_i64)] [false], .v false [(.int .i64)] [false]], [⟨false, [(.int .i64)], [false]⟩], false⟩),
  (133, ⟨[.v false [(.sl 3 ts_i64)] [false], .v false [(.int .i64)] [false]], [⟨false, [.bool], [false]⟩], false⟩),
  (120, ⟨[.v true [(.sl 3 ts_i64), (.sl 128 ts_Node)] [false, false], .v false [(.int .i64)] [false], .v false [(.sl 3 ts_i64)] [false]], [⟨true, [(.int .i64), (.int .i64), (.int .i64), (.int .i64), (.int .i64)], [false, false, false, false, false]⟩, ⟨false, [.bool], [false]⟩], false⟩),
  (139, ⟨[.v true [(.int .i64), (.int .i64)] [false, false], .p none [(.int .i64)] [false]], [⟨false, [.bool], [false]⟩], false⟩),
  (100000, ⟨[.v false [(.sl 134 ts_Age)] [false], .p (some 139) [(.int .i64)] [false]], [⟨false, [(.int .i64)], [false]⟩], false⟩),
  (134, ⟨[.v false [(.sl 134 ts_Age)] [false], .v false [(.int .i64)] [false]], [⟨false, [(.int .i64)], [false]⟩], false⟩),
  (121, ⟨[.v false [(.sl 134 ts_Age)] [false], .v false [(.int .i64)] [false]], [⟨false, [(.sl 3 ts_i64)], [true]⟩], false⟩),
  (105, ⟨[.v true [(.sl 3 ts_i64), (.sl 128 ts_Node)] [false, false], .v false [(.sl 134 ts_Age)] [false], .v false [(.int .i64)] [false], .v false [(.int .i64)] [false]], [⟨true, [(.int .i64), (.int .i64), (.int .i64), (.int .i64), (.int .i64)], [false, false, false, false, false]⟩, ⟨false, [.bool], [false]⟩], false⟩),
  (86, ⟨[.v true [(.sl 3 ts_i64), (.sl 128 ts_Node)] [false, false], .v false [(.sl 134 ts_Age)] [false], .v true [(.int .i64), (.int .i64), (.int .i64), (.int .i64), (.int .i64)] [false, false, false, false, false], .v false [(.int .i64)] [false]], [⟨false, [.bool], [false]⟩], false⟩),
  (48, ⟨[.v true [(.sl 3 ts_i64), (.sl 128 ts_Node), (.sl 134 ts_Age), (.sl 138 ts_Cell), (.sl 129 ts_Vol), (.int .i64)] [false, false, false, false, false, false], .v true [(.int .i64), (.int .i64), (.int .i64), (.int .i64), (.int .i64)] [false, false, false, false, false]], [⟨false, [.bool], [false]⟩], false⟩),
  (17, ⟨[.v true [(.sl 3 ts_i64), (.sl 128 ts_Node), (.sl 134 ts_Age), (.sl 138 ts_Cell), (.sl 129 ts_Vol), (.int .i64)] [false, false, false, false, false, false]], [⟨false, [(.int .i64)], [false]⟩], false⟩),
  (87, ⟨[.v false [(.sl 3 ts_i64)] [false], .v false [(.sl 3 ts_i64)] [false]], [⟨false, [.bool], [false]⟩], false⟩),
  (140, ⟨[.v true [(.int .i64), (.int .i64), (.int .i64), (.int .i64), (.int .i64)] [false, false, false, false, false], .v true [(.int .i64), (.int .i64), (.int .i64), (.int .i64), (.int .i64)] [false, false, false, false, false]], [⟨false, [.bool], [false]⟩], false⟩),
  (135, ⟨[.v false [(.sl 86 ts_Key)] [false], .v false [(.sl 86 ts_Key)] [false]], [⟨false, [.bool], [false]⟩], false⟩),
  (122, ⟨[.v false [(.sl 83 ts_s_Key)] [false], .v false [(.sl 83 ts_s_Key)] [false]], [⟨false, [.bool], [false]⟩], false⟩),
  (106, ⟨[.v true [(.sl 83 ts_s_Key)] [false], .v true [(.sl 83 ts_s_Key)] [false]], [⟨false, [.bool], [false]⟩], false⟩),
  (88, ⟨[.v false [(.sl 128 ts_Node)] [false], .v false [(.sl 128 ts_Node)] [false]], [⟨false, [.bool], [false]⟩], false⟩),
  (49, ⟨[.v true [(.sl 3 ts_i64), (.sl 128 ts_Node)] [false, false], .v true [(.sl 3 ts_i64), (.sl 128 ts_Node)] [false, false]], [⟨false, [.bool], [false]⟩], false⟩),
  (89, ⟨[.v true [(.int .i64), (.int .i64)] [false, false], .v true [(.int .i64), (.int .i64)] [false, false]], [⟨false, [.bool], [false]⟩], false⟩),
  (50, ⟨[.v false [(.sl 134 ts_Age)] [false], .v false [(.sl 134 ts_Age)] [false]], [⟨false, [.bool], [false]⟩], false⟩),
  (90, ⟨[.v true [(.int .i64), .bool, (.int .i64)] [false, false, false], .v true [(.int .i64), .bool, (.int .i64)] [false, false, false]], [⟨false, [.bool], [false]⟩], false⟩),
  (51, ⟨[.v false [(.sl 138 ts_Cell)] [false], .v false [(.sl 138 ts_Cell)] [false]], [⟨false, [.bool], [false]⟩], false⟩),
  (91, ⟨[.v true [.str, (.int .i64), (.int .i64), .bool] [false, false, false, false], .v true [.str, (.int .i64), (.int .i64), .bool] [false, false, false, false]], [⟨false, [.bool], [false]⟩], false⟩),
  (52, ⟨[.v false [(.sl 129 ts_Vol)] [false], .v false [(.sl 129 ts_Vol)] [false]], [⟨false, [.bool], [false]⟩], false⟩),
  (18, ⟨[.v true [(.sl 3 ts_i64), (.sl 128 ts_Node), (.sl 134 ts_Age), (.sl 138 ts_Cell), (.sl 129 ts_Vol), (.int .i64)] [false, false, false, false, false, false], .v true [(.sl 3 ts_i64), (.sl 128 ts_Node), (.sl 134 ts_Age), (.sl 138 ts_Cell), (.sl 129 ts_Vol), (.int .i64)] [false, false, false, false, false, false]], [⟨false, [.bool], [false]⟩], false⟩),
  (4, ⟨[.v true [(.sl 3 ts_i64), (.sl 155 ts_LNode), (.sl 136 ts_LAge), (.sl 140 ts_LCell), (.sl 124 ts_LVol), (.int .i64)] [false, false, false, false, false, false]], [⟨false, [.bool], [false]⟩], false⟩)]
def liveL : List (Nat × (List Nat × List Nat)) := [
  (11300005, ([0, 1, 5], [1, 4])),
  (7600005, ([0, 1, 5], [1, 4])),
  (4000005, ([0, 1, 5], [1, 4])),
  (11400004, ([0, 3, 5, 6, 7, 18, 19, 20, 21, 22, 23, 24], [3, 5, 6])),
  (9900003, ([1, 5, 6], [5])),
  (10000003, ([0, 3, 4], [3])),
  (7800003, ([1, 3, 4], [3])),
  (4100003, ([1, 3, 4], [3])),
  (12600004, ([1, 5, 6, 7], [5])),
  (12700002, ([0, 1, 5], [4])),
  (11500005, ([2, 6, 8, 9, 10, 11, 30, 31, 32, 33, 34, 35, 36, 37, 38, 39, 40, 41], [6, 8, 9])),
  (12800002, ([0, 1, 5], [4])),
  (11600003, ([0, 5, 6, 14, 15, 16, 17, 18], [5])),
  (4200002, ([2, 3, 5, 23, 24, 25, 26, 27, 28, 29, 30, 31, 32, 33, 34], [4])),
  (1500004, ([1, 3, 4, 5, 22, 23, 24, 25, 26, 27], [3])),
  (8000003, ([0, 3, 4], [3])),
  (12900003, ([0, 3, 4], [3])),
  (11700003, ([0, 3, 4], [3])),
  (8100003, ([0, 3, 4], [3])),
  (4400003, ([0, 3, 4], [3])),
  (4500003, ([0, 3, 4], [3])),
  (4600003, ([0, 3, 4], [3])),
  (11900004, ([3, 5, 6, 10, 11, 12, 19, 20, 21, 22], [3, 5, 6])),
  (10300003, ([5, 10, 11, 12], [5])),
  (10400003, ([3, 7, 8, 9], [3])),
  (8500003, ([3, 8, 9, 10], [3])),
  (4700003, ([3, 8, 9, 10], [3])),
  (13200003, ([1, 5, 10, 11, 12], [5])),
  (13700002, ([0, 1, 7, 8], [4])),
  (12000003, ([2, 6, 8, 9, 15, 16, 17, 26, 27, 28, 29, 30, 31, 32, 33, 34], [6, 8, 9])),
  (10000000002, ([0, 1, 7, 8], [1, 4])),
  (12100003, ([0, 1, 5, 10, 11], [5])),
  (4800002, ([2, 3, 8, 9, 10, 20, 21, 22, 23, 24, 25, 26, 27], [4])),
  (1700003, ([1, 3, 8, 9, 10, 18, 19, 20], [3])),
  (8700004, ([0, 1, 5], [4])),
  (13500004, ([0, 1, 5], [4])),
  (12200004, ([0, 1, 5], [4])),
  (8800004, ([0, 1, 5], [4])),
  (5000004, ([0, 1, 5], [4])),
  (5100004, ([0, 1, 5], [4])),
  (5200004, ([0, 1, 5], [4]))]
def keyL : List (Nat × List Nat × Nat) := [(138, [139], 100000)]
def hintL : List (Nat × List Nat) := []
def C : Ctx := { info := lookN infoL, sig := lookN sigL, live := fun f i => lookN liveL (100000 * f + i), key := keyNo keyL, fid := fidNo keyL, hint := hintNo hintL }
theorem tok : TOk C Try.prog := tok_of (l := infoL) rfl (by kernel_rfl)
theorem mixed : Try.prog.follows .mixedOrders = true := by kernel_rfl
end Go.Proofs.Ytmofdkmggfdciaa.XQ
