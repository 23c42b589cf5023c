/- The context of the evaluator for B: types, signatures, slots that live at loops; by a program (dec.py). No condition. -/
import Derived.Test.YtmanmgafjbnakaaProg
import Derived.Test.YtmanmgafjbnakaaRRow
import Derived.KernelRfl
namespace Go.Proofs.Ytmanmgafjbnakaa.XB
open Go.Proofs.Ytmanmgafjbnakaa.R
abbrev ts_i64 : List Ty := [(.int .i64)]
abbrev E_i64 : Type := Int
abbrev z_i64 : E_i64 := zeroE ts_i64
abbrev rd_i64 (xs : List E_i64) (i : Int) : E_i64 := rdE ts_i64 xs i
abbrev ts_LKey : List Ty := [(.int .i64), (.int .i64), (.int .i64), (.int .i64), (.int .i64)]
abbrev E_LKey : Type := Int × Int × Int × Int × Int
abbrev z_LKey : E_LKey := zeroE ts_LKey
abbrev rd_LKey (xs : List E_LKey) (i : Int) : E_LKey := rdE ts_LKey xs i
abbrev ts_s_LKey : List Ty := [(.sl 225 ts_LKey)]
abbrev E_s_LKey : Type := List E_LKey
abbrev z_s_LKey : E_s_LKey := zeroE ts_s_LKey
abbrev rd_s_LKey (xs : List E_s_LKey) (i : Int) : E_s_LKey := rdE ts_s_LKey xs i
abbrev ts_LNode : List Ty := [(.sl 220 ts_s_LKey)]
abbrev E_LNode : Type := List E_s_LKey
abbrev z_LNode : E_LNode := zeroE ts_LNode
abbrev rd_LNode (xs : List E_LNode) (i : Int) : E_LNode := rdE ts_LNode xs i
abbrev ts_LAge : List Ty := [(.int .i64), (.int .i64)]
abbrev E_LAge : Type := Int × Int
abbrev z_LAge : E_LAge := zeroE ts_LAge
abbrev rd_LAge (xs : List E_LAge) (i : Int) : E_LAge := rdE ts_LAge xs i
abbrev ts_LCell : List Ty := [(.int .i64), .bool, (.int .i64)]
abbrev E_LCell : Type := Int × Bool × Int
abbrev z_LCell : E_LCell := zeroE ts_LCell
abbrev rd_LCell (xs : List E_LCell) (i : Int) : E_LCell := rdE ts_LCell xs i
abbrev ts_LVol : List Ty := [.str, (.int .i64), (.int .i64), .bool]
abbrev E_LVol : Type := ByteArray × Int × Int × Bool
abbrev z_LVol : E_LVol := zeroE ts_LVol
abbrev rd_LVol (xs : List E_LVol) (i : Int) : E_LVol := rdE ts_LVol xs i
abbrev ts_Key : List Ty := [(.int .i64), (.int .i64), (.int .i64), (.int .i64), (.int .i64)]
abbrev E_Key : Type := Int × Int × Int × Int × Int
abbrev z_Key : E_Key := zeroE ts_Key
abbrev rd_Key (xs : List E_Key) (i : Int) : E_Key := rdE ts_Key xs i
abbrev ts_s_Key : List Ty := [(.sl 216 ts_Key)]
abbrev E_s_Key : Type := List E_Key
abbrev z_s_Key : E_s_Key := zeroE ts_s_Key
abbrev rd_s_Key (xs : List E_s_Key) (i : Int) : E_s_Key := rdE ts_s_Key xs i
abbrev ts_Node : List Ty := [(.sl 141 ts_s_Key)]
abbrev E_Node : Type := List E_s_Key
abbrev z_Node : E_Node := zeroE ts_Node
abbrev rd_Node (xs : List E_Node) (i : Int) : E_Node := rdE ts_Node xs i
abbrev ts_Age : List Ty := [(.int .i64), (.int .i64)]
abbrev E_Age : Type := Int × Int
abbrev z_Age : E_Age := zeroE ts_Age
abbrev rd_Age (xs : List E_Age) (i : Int) : E_Age := rdE ts_Age xs i
abbrev ts_Cell : List Ty := [(.int .i64), .bool, (.int .i64)]
abbrev E_Cell : Type := Int × Bool × Int
abbrev z_Cell : E_Cell := zeroE ts_Cell
abbrev rd_Cell (xs : List E_Cell) (i : Int) : E_Cell := rdE ts_Cell xs i
abbrev ts_Vol : List Ty := [.str, (.int .i64), (.int .i64), .bool]
abbrev E_Vol : Type := ByteArray × Int × Int × Bool
abbrev z_Vol : E_Vol := zeroE ts_Vol
abbrev rd_Vol (xs : List E_Vol) (i : Int) : E_Vol := rdE ts_Vol xs i
def infoL : List (Nat × TI) := [
  (3, .c (.int .i64) 8),
  (4, .c (.bool) 1),
  (9, .c (.str) 16),
  (73, .c (.sl 3 ts_i64) 24),
  (74, .c (.sl 207 ts_LNode) 24),
  (76, .s [(0, 73), (1, 74)] [(.sl 3 ts_i64), (.sl 207 ts_LNode)] 48),
  (77, .c (.sl 187 ts_LAge) 24),
  (78, .c (.sl 191 ts_LCell) 24),
  (79, .c (.sl 177 ts_LVol) 24),
  (81, .s [(0, 76), (2, 77), (3, 78), (4, 79), (5, 3)] [(.sl 3 ts_i64), (.sl 207 ts_LNode), (.sl 187 ts_LAge), (.sl 191 ts_LCell), (.sl 177 ts_LVol), (.int .i64)] 128),
  (84, .c (.sl 181 ts_Node) 24),
  (86, .s [(0, 73), (1, 84)] [(.sl 3 ts_i64), (.sl 181 ts_Node)] 48),
  (87, .c (.sl 185 ts_Age) 24),
  (88, .c (.sl 189 ts_Cell) 24),
  (89, .c (.sl 192 ts_Vol) 24),
  (91, .s [(0, 86), (2, 87), (3, 88), (4, 89), (5, 3)] [(.sl 3 ts_i64), (.sl 181 ts_Node), (.sl 185 ts_Age), (.sl 189 ts_Cell), (.sl 192 ts_Vol), (.int .i64)] 128),
  (141, .c (.sl 216 ts_Key) 24),
  (177, .s [(0, 9), (1, 3), (2, 3), (3, 4)] [.str, (.int .i64), (.int .i64), .bool] 40),
  (179, .c (.sl 141 ts_s_Key) 24),
  (181, .s [(0, 179)] [(.sl 141 ts_s_Key)] 24),
  (185, .s [(0, 3), (1, 3)] [(.int .i64), (.int .i64)] 16),
  (187, .s [(0, 3), (1, 3)] [(.int .i64), (.int .i64)] 16),
  (189, .s [(0, 3), (1, 4), (2, 3)] [(.int .i64), .bool, (.int .i64)] 24),
  (191, .s [(0, 3), (1, 4), (2, 3)] [(.int .i64), .bool, (.int .i64)] 24),
  (192, .s [(0, 9), (1, 3), (2, 3), (3, 4)] [.str, (.int .i64), (.int .i64), .bool] 40),
  (205, .c (.sl 220 ts_s_LKey) 24),
  (207, .s [(0, 205)] [(.sl 220 ts_s_LKey)] 24),
  (216, .s [(0, 3), (1, 3), (2, 3), (3, 3), (4, 3)] [(.int .i64), (.int .i64), (.int .i64), (.int .i64), (.int .i64)] 40),
  (220, .c (.sl 225 ts_LKey) 24),
  (225, .s [(0, 3), (1, 3), (2, 3), (3, 3), (4, 3)] [(.int .i64), (.int .i64), (.int .i64), (.int .i64), (.int .i64)] 40)]
def sigL : List (Nat × Sig) := [
  (147, ⟨[.v false [(.sl 3 ts_i64)] [false], .v false [(.int .i64)] [false]], [⟨false, [(.int .i64)], [false]⟩]⟩),
  (185, ⟨[.v false [(.sl 225 ts_LKey)] [false], .v false [(.int .i64)] [false]], [⟨false, [(.int .i64)], [false]⟩]⟩),
  (179, ⟨[.v false [(.sl 220 ts_s_LKey)] [false], .v false [(.int .i64)] [false]], [⟨false, [(.int .i64)], [false]⟩]⟩),
  (171, ⟨[.v true [(.sl 220 ts_s_LKey)] [false], .v false [(.int .i64)] [false]], [⟨false, [(.int .i64)], [false]⟩]⟩),
  (148, ⟨[.v false [(.sl 207 ts_LNode)] [false], .v false [(.int .i64)] [false]], [⟨false, [(.int .i64)], [false]⟩]⟩),
  (111, ⟨[.v true [(.sl 3 ts_i64), (.sl 207 ts_LNode)] [false, false], .v false [(.int .i64)] [false]], [⟨false, [(.int .i64)], [false]⟩]⟩),
  (112, ⟨[.v false [(.sl 187 ts_LAge)] [false], .v false [(.int .i64)] [false]], [⟨false, [(.int .i64)], [false]⟩]⟩),
  (113, ⟨[.v false [(.sl 191 ts_LCell)] [false], .v false [(.int .i64)] [false]], [⟨false, [(.int .i64)], [false]⟩]⟩),
  (149, ⟨[.v true [.str, (.int .i64), (.int .i64), .bool] [false, false, false, false], .v false [(.int .i64)] [false]], [⟨false, [(.int .i64)], [false]⟩]⟩),
  (114, ⟨[.v false [(.sl 177 ts_LVol)] [false], .v false [(.int .i64)] [false]], [⟨false, [(.int .i64)], [false]⟩]⟩),
  (51, ⟨[.v true [(.sl 3 ts_i64), (.sl 207 ts_LNode), (.sl 187 ts_LAge), (.sl 191 ts_LCell), (.sl 177 ts_LVol), (.int .i64)] [false, false, false, false, false, false], .v false [(.int .i64)] [false]], [⟨false, [(.int .i64)], [false]⟩]⟩),
  (186, ⟨[.v true [(.int .i64), (.int .i64), (.int .i64), (.int .i64), (.int .i64)] [false, false, false, false, false], .v true [(.int .i64), (.int .i64), (.int .i64), (.int .i64), (.int .i64)] [false, false, false, false, false]], [⟨false, [.bool], [false]⟩]⟩),
  (187, ⟨[.v true [(.int .i64), (.int .i64), (.int .i64), (.int .i64), (.int .i64)] [false, false, false, false, false], .v true [(.int .i64), (.int .i64), (.int .i64), (.int .i64), (.int .i64)] [false, false, false, false, false]], [⟨false, [.bool], [false]⟩]⟩),
  (180, ⟨[.v false [(.sl 216 ts_Key)] [false], .v true [(.int .i64), (.int .i64), (.int .i64), (.int .i64), (.int .i64)] [false, false, false, false, false]], [⟨false, [(.sl 216 ts_Key)], [true]⟩]⟩),
  (172, ⟨[.v false [(.sl 216 ts_Key)] [false], .v false [(.sl 216 ts_Key)] [false]], [⟨false, [(.sl 216 ts_Key)], [true]⟩]⟩),
  (173, ⟨[.v false [(.sl 216 ts_Key)] [false]], [⟨false, [(.sl 216 ts_Key)], [true]⟩]⟩),
  (150, ⟨[.v true [(.sl 141 ts_s_Key)] [false]], [⟨false, [(.sl 216 ts_Key)], [true]⟩]⟩),
  (115, ⟨[.v true [(.sl 3 ts_i64), (.sl 181 ts_Node)] [false, false]], [⟨false, [(.sl 216 ts_Key)], [true]⟩]⟩),
  (52, ⟨[.v true [(.sl 3 ts_i64), (.sl 181 ts_Node), (.sl 185 ts_Age), (.sl 189 ts_Cell), (.sl 192 ts_Vol), (.int .i64)] [false, false, false, false, false, false]], [⟨false, [(.int .i64)], [false]⟩]⟩),
  (151, ⟨[.v false [(.sl 3 ts_i64)] [false]], [⟨false, [(.sl 3 ts_i64)], [true]⟩]⟩),
  (192, ⟨[.v true [(.int .i64), (.int .i64), (.int .i64), (.int .i64), (.int .i64)] [false, false, false, false, false]], [⟨true, [(.int .i64), (.int .i64), (.int .i64), (.int .i64), (.int .i64)], [false, false, false, false, false]⟩]⟩),
  (188, ⟨[.v false [(.sl 225 ts_LKey)] [false]], [⟨false, [(.sl 216 ts_Key)], [true]⟩]⟩),
  (181, ⟨[.v false [(.sl 220 ts_s_LKey)] [false]], [⟨false, [(.sl 141 ts_s_Key)], [true]⟩]⟩),
  (174, ⟨[.v true [(.sl 220 ts_s_LKey)] [false]], [⟨true, [(.sl 141 ts_s_Key)], [true]⟩]⟩),
  (152, ⟨[.v false [(.sl 207 ts_LNode)] [false]], [⟨false, [(.sl 181 ts_Node)], [true]⟩]⟩),
  (116, ⟨[.v true [(.sl 3 ts_i64), (.sl 207 ts_LNode)] [false, false]], [⟨true, [(.sl 3 ts_i64), (.sl 181 ts_Node)], [true, true]⟩]⟩),
  (153, ⟨[.v true [(.int .i64), (.int .i64)] [false, false]], [⟨true, [(.int .i64), (.int .i64)], [false, false]⟩]⟩),
  (117, ⟨[.v false [(.sl 187 ts_LAge)] [false]], [⟨false, [(.sl 185 ts_Age)], [true]⟩]⟩),
  (154, ⟨[.v true [(.int .i64), .bool, (.int .i64)] [false, false, false]], [⟨true, [(.int .i64), .bool, (.int .i64)], [false, false, false]⟩]⟩),
  (118, ⟨[.v false [(.sl 191 ts_LCell)] [false]], [⟨false, [(.sl 189 ts_Cell)], [true]⟩]⟩),
  (155, ⟨[.v true [.str, (.int .i64), (.int .i64), .bool] [false, false, false, false]], [⟨true, [.str, (.int .i64), (.int .i64), .bool], [false, false, false, false]⟩]⟩),
  (119, ⟨[.v false [(.sl 177 ts_LVol)] [false]], [⟨false, [(.sl 192 ts_Vol)], [true]⟩]⟩),
  (53, ⟨[.v true [(.sl 3 ts_i64), (.sl 207 ts_LNode), (.sl 187 ts_LAge), (.sl 191 ts_LCell), (.sl 177 ts_LVol), (.int .i64)] [false, false, false, false, false, false]], [⟨true, [(.sl 3 ts_i64), (.sl 181 ts_Node), (.sl 185 ts_Age), (.sl 189 ts_Cell), (.sl 192 ts_Vol), (.int .i64)], [true, true, true, true, true, false]⟩]⟩),
  (182, ⟨[.v false [(.sl 216 ts_Key)] [false]], [⟨false, [(.sl 216 ts_Key)], [true]⟩]⟩),
  (189, ⟨[.v true [(.int .i64), (.int .i64), (.int .i64), (.int .i64), (.int .i64)] [false, false, false, false, false], .v true [(.int .i64), (.int .i64), (.int .i64), (.int .i64), (.int .i64)] [false, false, false, false, false]], [⟨false, [.bool], [false]⟩]⟩),
  (190, ⟨[.v true [(.int .i64), (.int .i64), (.int .i64), (.int .i64), (.int .i64)] [false, false, false, false, false], .v true [(.int .i64), (.int .i64), (.int .i64), (.int .i64), (.int .i64)] [false, false, false, false, false]], [⟨false, [.bool], [false]⟩]⟩),
  (183, ⟨[.v false [(.sl 216 ts_Key)] [false], .v true [(.int .i64), (.int .i64), (.int .i64), (.int .i64), (.int .i64)] [false, false, false, false, false]], [⟨false, [(.sl 216 ts_Key)], [true]⟩]⟩),
  (175, ⟨[.v false [(.sl 216 ts_Key)] [false], .v false [(.sl 216 ts_Key)] [false]], [⟨false, [(.sl 216 ts_Key)], [true]⟩]⟩),
  (176, ⟨[.v false [(.sl 216 ts_Key)] [false]], [⟨false, [(.sl 216 ts_Key)], [true]⟩]⟩),
  (156, ⟨[.v true [(.sl 141 ts_s_Key)] [false]], [⟨false, [(.sl 216 ts_Key)], [true]⟩]⟩),
  (120, ⟨[.v true [(.sl 3 ts_i64), (.sl 181 ts_Node)] [false, false]], [⟨false, [(.sl 216 ts_Key)], [true]⟩]⟩),
  (54, ⟨[.v true [(.sl 3 ts_i64), (.sl 181 ts_Node), (.sl 185 ts_Age), (.sl 189 ts_Cell), (.sl 192 ts_Vol), (.int .i64)] [false, false, false, false, false, false]], [⟨false, [(.int .i64)], [false]⟩]⟩),
  (157, ⟨[.v false [(.sl 3 ts_i64)] [false], .v false [(.sl 3 ts_i64)] [false]], [⟨false, [.bool], [false]⟩]⟩),
  (193, ⟨[.v true [(.int .i64), (.int .i64), (.int .i64), (.int .i64), (.int .i64)] [false, false, false, false, false], .v true [(.int .i64), (.int .i64), (.int .i64), (.int .i64), (.int .i64)] [false, false, false, false, false]], [⟨false, [.bool], [false]⟩]⟩),
  (191, ⟨[.v false [(.sl 216 ts_Key)] [false], .v false [(.sl 216 ts_Key)] [false]], [⟨false, [.bool], [false]⟩]⟩),
  (184, ⟨[.v false [(.sl 141 ts_s_Key)] [false], .v false [(.sl 141 ts_s_Key)] [false]], [⟨false, [.bool], [false]⟩]⟩),
  (177, ⟨[.v true [(.sl 141 ts_s_Key)] [false], .v true [(.sl 141 ts_s_Key)] [false]], [⟨false, [.bool], [false]⟩]⟩),
  (158, ⟨[.v false [(.sl 181 ts_Node)] [false], .v false [(.sl 181 ts_Node)] [false]], [⟨false, [.bool], [false]⟩]⟩),
  (121, ⟨[.v true [(.sl 3 ts_i64), (.sl 181 ts_Node)] [false, false], .v true [(.sl 3 ts_i64), (.sl 181 ts_Node)] [false, false]], [⟨false, [.bool], [false]⟩]⟩),
  (159, ⟨[.v true [(.int .i64), (.int .i64)] [false, false], .v true [(.int .i64), (.int .i64)] [false, false]], [⟨false, [.bool], [false]⟩]⟩),
  (122, ⟨[.v false [(.sl 185 ts_Age)] [false], .v false [(.sl 185 ts_Age)] [false]], [⟨false, [.bool], [false]⟩]⟩),
  (160, ⟨[.v true [(.int .i64), .bool, (.int .i64)] [false, false, false], .v true [(.int .i64), .bool, (.int .i64)] [false, false, false]], [⟨false, [.bool], [false]⟩]⟩),
  (123, ⟨[.v false [(.sl 189 ts_Cell)] [false], .v false [(.sl 189 ts_Cell)] [false]], [⟨false, [.bool], [false]⟩]⟩),
  (161, ⟨[.v true [.str, (.int .i64), (.int .i64), .bool] [false, false, false, false], .v true [.str, (.int .i64), (.int .i64), .bool] [false, false, false, false]], [⟨false, [.bool], [false]⟩]⟩),
  (124, ⟨[.v false [(.sl 192 ts_Vol)] [false], .v false [(.sl 192 ts_Vol)] [false]], [⟨false, [.bool], [false]⟩]⟩),
  (55, ⟨[.v true [(.sl 3 ts_i64), (.sl 181 ts_Node), (.sl 185 ts_Age), (.sl 189 ts_Cell), (.sl 192 ts_Vol), (.int .i64)] [false, false, false, false, false, false], .v true [(.sl 3 ts_i64), (.sl 181 ts_Node), (.sl 185 ts_Age), (.sl 189 ts_Cell), (.sl 192 ts_Vol), (.int .i64)] [false, false, false, false, false, false]], [⟨false, [.bool], [false]⟩]⟩),
  (9, ⟨[.v true [(.sl 3 ts_i64), (.sl 207 ts_LNode), (.sl 187 ts_LAge), (.sl 191 ts_LCell), (.sl 177 ts_LVol), (.int .i64)] [false, false, false, false, false, false]], [⟨false, [.bool], [false]⟩]⟩)]
def liveL : List (Nat × (List Nat × List Nat)) := [
  (17900005, ([0, 1, 5], [1, 4])),
  (14800005, ([0, 1, 5], [1, 4])),
  (11400005, ([0, 1, 5], [1, 4])),
  (18000004, ([0, 3, 5, 6, 7, 18, 19, 20, 21, 22, 23, 24], [3, 5, 6])),
  (17200003, ([1, 5, 6], [5])),
  (17300003, ([0, 3, 4], [3])),
  (15000003, ([1, 3, 4], [3])),
  (11500003, ([1, 3, 4], [3])),
  (15100003, ([0, 3, 4], [3])),
  (18800003, ([0, 3, 4], [3])),
  (18100003, ([0, 3, 4], [3])),
  (15200003, ([0, 3, 4], [3])),
  (11700003, ([0, 3, 4], [3])),
  (11800003, ([0, 3, 4], [3])),
  (11900003, ([0, 3, 4], [3])),
  (18300004, ([3, 5, 6, 10, 11, 12, 19, 20, 21, 22], [3, 5, 6])),
  (17500003, ([5, 10, 11, 12], [5])),
  (17600003, ([3, 7, 8, 9], [3])),
  (15600003, ([3, 8, 9, 10], [3])),
  (12000003, ([3, 8, 9, 10], [3])),
  (15700004, ([0, 1, 5], [4])),
  (19100004, ([0, 1, 5], [4])),
  (18400004, ([0, 1, 5], [4])),
  (15800004, ([0, 1, 5], [4])),
  (12200004, ([0, 1, 5], [4])),
  (12300004, ([0, 1, 5], [4])),
  (12400004, ([0, 1, 5], [4]))]
def C : Ctx := { info := lookN infoL, sig := lookN sigL, live := fun f i => lookN liveL (100000 * f + i) }
theorem tok : TOk C Try.prog := tok_of (l := infoL) rfl (by kernel_rfl)
theorem mixed : Try.prog.follows .mixedOrders = true := by kernel_rfl
end Go.Proofs.Ytmanmgafjbnakaa.XB
