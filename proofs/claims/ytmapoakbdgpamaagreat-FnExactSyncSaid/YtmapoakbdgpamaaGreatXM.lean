/- The context of the evaluator for M: types, signatures, slots that live at loops; by a program (dec.py). No condition. -/
import Derived.Test.YtmapoakbdgpamaaGreatProg
import Derived.Test.YtmapoakbdgpamaaGreatRRow
import Derived.KernelRfl
set_option linter.all false
namespace Go.Proofs.YtmapoakbdgpamaaGreat.XM
open Go.Proofs.YtmapoakbdgpamaaGreat.R
set_option maxRecDepth 100000
abbrev ts_i64 : List Ty := [(.int .i64)]
abbrev E_i64 : Type := Int
abbrev z_i64 : E_i64 := zeroE ts_i64
abbrev rd_i64 (xs : List E_i64) (i : Int) : E_i64 := rdE ts_i64 xs i
def v_i64 (x : List E_i64) : A := .val (.sl 3 ts_i64) x
abbrev ts_LKey : List Ty := [(.int .i64), (.int .i64), (.int .i64), (.int .i64), (.int .i64)]
abbrev E_LKey : Type := Int × Int × Int × Int × Int
abbrev z_LKey : E_LKey := zeroE ts_LKey
abbrev rd_LKey (xs : List E_LKey) (i : Int) : E_LKey := rdE ts_LKey xs i
def v_LKey (x : List E_LKey) : A := .val (.sl 279 ts_LKey) x
abbrev ts_s_LKey : List Ty := [(.sl 279 ts_LKey)]
abbrev E_s_LKey : Type := List E_LKey
abbrev z_s_LKey : E_s_LKey := zeroE ts_s_LKey
abbrev rd_s_LKey (xs : List E_s_LKey) (i : Int) : E_s_LKey := rdE ts_s_LKey xs i
def v_s_LKey (x : List E_s_LKey) : A := .val (.sl 267 ts_s_LKey) x
abbrev ts_LNode : List Ty := [(.sl 267 ts_s_LKey)]
abbrev E_LNode : Type := List E_s_LKey
abbrev z_LNode : E_LNode := zeroE ts_LNode
abbrev rd_LNode (xs : List E_LNode) (i : Int) : E_LNode := rdE ts_LNode xs i
def v_LNode (x : List E_LNode) : A := .val (.sl 216 ts_LNode) x
abbrev ts_LAge : List Ty := [(.int .i64), (.int .i64)]
abbrev E_LAge : Type := Int × Int
abbrev z_LAge : E_LAge := zeroE ts_LAge
abbrev rd_LAge (xs : List E_LAge) (i : Int) : E_LAge := rdE ts_LAge xs i
def v_LAge (x : List E_LAge) : A := .val (.sl 166 ts_LAge) x
abbrev ts_LCell : List Ty := [(.int .i64), .bool, (.int .i64)]
abbrev E_LCell : Type := Int × Bool × Int
abbrev z_LCell : E_LCell := zeroE ts_LCell
abbrev rd_LCell (xs : List E_LCell) (i : Int) : E_LCell := rdE ts_LCell xs i
def v_LCell (x : List E_LCell) : A := .val (.sl 168 ts_LCell) x
abbrev ts_LVol : List Ty := [.str, (.int .i64), (.int .i64), .bool]
abbrev E_LVol : Type := ByteArray × Int × Int × Bool
abbrev z_LVol : E_LVol := zeroE ts_LVol
abbrev rd_LVol (xs : List E_LVol) (i : Int) : E_LVol := rdE ts_LVol xs i
def v_LVol (x : List E_LVol) : A := .val (.sl 158 ts_LVol) x
abbrev ts_u8 : List Ty := [(.int .u8)]
abbrev E_u8 : Type := Int
abbrev z_u8 : E_u8 := zeroE ts_u8
abbrev rd_u8 (xs : List E_u8) (i : Int) : E_u8 := rdE ts_u8 xs i
def v_u8 (x : List E_u8) : A := .val (.sl 5 ts_u8) x
abbrev ts_Key : List Ty := [(.int .i64), (.int .i64), (.int .i64), (.int .i64), (.int .i64)]
abbrev E_Key : Type := Int × Int × Int × Int × Int
abbrev z_Key : E_Key := zeroE ts_Key
abbrev rd_Key (xs : List E_Key) (i : Int) : E_Key := rdE ts_Key xs i
def v_Key (x : List E_Key) : A := .val (.sl 106 ts_Key) x
abbrev ts_s_Key : List Ty := [(.sl 106 ts_Key)]
abbrev E_s_Key : Type := List E_Key
abbrev z_s_Key : E_s_Key := zeroE ts_s_Key
abbrev rd_s_Key (xs : List E_s_Key) (i : Int) : E_s_Key := rdE ts_s_Key xs i
def v_s_Key (x : List E_s_Key) : A := .val (.sl 100 ts_s_Key) x
abbrev ts_Node : List Ty := [(.sl 100 ts_s_Key)]
abbrev E_Node : Type := List E_s_Key
abbrev z_Node : E_Node := zeroE ts_Node
abbrev rd_Node (xs : List E_Node) (i : Int) : E_Node := rdE ts_Node xs i
def v_Node (x : List E_Node) : A := .val (.sl 98 ts_Node) x
abbrev ts_Age : List Ty := [(.int .i64), (.int .i64)]
abbrev E_Age : Type := Int × Int
abbrev z_Age : E_Age := zeroE ts_Age
abbrev rd_Age (xs : List E_Age) (i : Int) : E_Age := rdE ts_Age xs i
def v_Age (x : List E_Age) : A := .val (.sl 89 ts_Age) x
abbrev ts_Cell : List Ty := [(.int .i64), .bool, (.int .i64)]
abbrev E_Cell : Type := Int × Bool × Int
abbrev z_Cell : E_Cell := zeroE ts_Cell
abbrev rd_Cell (xs : List E_Cell) (i : Int) : E_Cell := rdE ts_Cell xs i
def v_Cell (x : List E_Cell) : A := .val (.sl 95 ts_Cell) x
abbrev ts_Vol : List Ty := [.str, (.int .i64), (.int .i64), .bool]
abbrev E_Vol : Type := ByteArray × Int × Int × Bool
abbrev z_Vol : E_Vol := zeroE ts_Vol
abbrev rd_Vol (xs : List E_Vol) (i : Int) : E_Vol := rdE ts_Vol xs i
def v_Vol (x : List E_Vol) : A := .val (.sl 91 ts_Vol) x
abbrev ts_s_u8 : List Ty := [(.sl 5 ts_u8)]
abbrev E_s_u8 : Type := List E_u8
abbrev z_s_u8 : E_s_u8 := zeroE ts_s_u8
abbrev rd_s_u8 (xs : List E_s_u8) (i : Int) : E_s_u8 := rdE ts_s_u8 xs i
def v_s_u8 (x : List E_s_u8) : A := .val (.sl 32 ts_s_u8) x
abbrev ts_LWr : List Ty := [(.int .i64), (.sl 5 ts_u8)]
abbrev E_LWr : Type := Int × List E_u8
abbrev z_LWr : E_LWr := zeroE ts_LWr
abbrev rd_LWr (xs : List E_LWr) (i : Int) : E_LWr := rdE ts_LWr xs i
def v_LWr (x : List E_LWr) : A := .val (.sl 181 ts_LWr) x
abbrev ts_Wr : List Ty := [(.int .i64), (.sl 5 ts_u8)]
abbrev E_Wr : Type := Int × List E_u8
abbrev z_Wr : E_Wr := zeroE ts_Wr
abbrev rd_Wr (xs : List E_Wr) (i : Int) : E_Wr := rdE ts_Wr xs i
def v_Wr (x : List E_Wr) : A := .val (.sl 186 ts_Wr) x
abbrev ts_bool : List Ty := [.bool]
abbrev E_bool : Type := Bool
abbrev z_bool : E_bool := zeroE ts_bool
abbrev rd_bool (xs : List E_bool) (i : Int) : E_bool := rdE ts_bool xs i
def v_bool (x : List E_bool) : A := .val (.sl 4 ts_bool) x
abbrev Qz0 : Type := List E_i64 × List E_i64 × Int
abbrev qz0 : List Ty := [(.sl 3 ts_i64), (.sl 3 ts_i64), (.int .i64)]
abbrev Qz1 : Type := List E_i64 × List E_i64
abbrev qz1 : List Ty := [(.sl 3 ts_i64), (.sl 3 ts_i64)]
abbrev Qz2 : Type := Int × Int × Int × Int × Int × Int × Int × Int × Int × Int
abbrev qz2 : List Ty := [(.int .i64), (.int .i64), (.int .i64), (.int .i64), (.int .i64), (.int .i64), (.int .i64), (.int .i64), (.int .i64), (.int .i64)]
abbrev Qz3 : Type := List E_Key × List E_Key × Int
abbrev qz3 : List Ty := [(.sl 106 ts_Key), (.sl 106 ts_Key), (.int .i64)]
abbrev Qz4 : Type := List E_Key × List E_Key
abbrev qz4 : List Ty := [(.sl 106 ts_Key), (.sl 106 ts_Key)]
abbrev Qz5 : Type := List E_s_Key × List E_s_Key × Int
abbrev qz5 : List Ty := [(.sl 100 ts_s_Key), (.sl 100 ts_s_Key), (.int .i64)]
abbrev Qz6 : Type := List E_s_Key × List E_s_Key
abbrev qz6 : List Ty := [(.sl 100 ts_s_Key), (.sl 100 ts_s_Key)]
abbrev Qz7 : Type := List E_Node × List E_Node × Int
abbrev qz7 : List Ty := [(.sl 98 ts_Node), (.sl 98 ts_Node), (.int .i64)]
abbrev Qz8 : Type := List E_Node × List E_Node
abbrev qz8 : List Ty := [(.sl 98 ts_Node), (.sl 98 ts_Node)]
abbrev Qz9 : Type := List E_i64 × List E_Node × List E_i64 × List E_Node
abbrev qz9 : List Ty := [(.sl 3 ts_i64), (.sl 98 ts_Node), (.sl 3 ts_i64), (.sl 98 ts_Node)]
abbrev Qz10 : Type := Int × Int × Int × Int
abbrev qz10 : List Ty := [(.int .i64), (.int .i64), (.int .i64), (.int .i64)]
abbrev Qz11 : Type := List E_Age × List E_Age × Int
abbrev qz11 : List Ty := [(.sl 89 ts_Age), (.sl 89 ts_Age), (.int .i64)]
abbrev Qz12 : Type := List E_Age × List E_Age
abbrev qz12 : List Ty := [(.sl 89 ts_Age), (.sl 89 ts_Age)]
abbrev Qz13 : Type := Int × Bool × Int × Int × Bool × Int
abbrev qz13 : List Ty := [(.int .i64), .bool, (.int .i64), (.int .i64), .bool, (.int .i64)]
abbrev Qz14 : Type := List E_Cell × List E_Cell × Int
abbrev qz14 : List Ty := [(.sl 95 ts_Cell), (.sl 95 ts_Cell), (.int .i64)]
abbrev Qz15 : Type := List E_Cell × List E_Cell
abbrev qz15 : List Ty := [(.sl 95 ts_Cell), (.sl 95 ts_Cell)]
abbrev Qz16 : Type := ByteArray × Int × Int × Bool × ByteArray × Int × Int × Bool
abbrev qz16 : List Ty := [.str, (.int .i64), (.int .i64), .bool, .str, (.int .i64), (.int .i64), .bool]
abbrev Qz17 : Type := List E_Vol × List E_Vol × Int
abbrev qz17 : List Ty := [(.sl 91 ts_Vol), (.sl 91 ts_Vol), (.int .i64)]
abbrev Qz18 : Type := List E_Vol × List E_Vol
abbrev qz18 : List Ty := [(.sl 91 ts_Vol), (.sl 91 ts_Vol)]
abbrev Qz19 : Type := List E_i64 × List E_Node × List E_Age × List E_Cell × List E_Vol × Int × List E_i64 × List E_Node × List E_Age × List E_Cell × List E_Vol × Int
abbrev qz19 : List Ty := [(.sl 3 ts_i64), (.sl 98 ts_Node), (.sl 89 ts_Age), (.sl 95 ts_Cell), (.sl 91 ts_Vol), (.int .i64), (.sl 3 ts_i64), (.sl 98 ts_Node), (.sl 89 ts_Age), (.sl 95 ts_Cell), (.sl 91 ts_Vol), (.int .i64)]
abbrev Qz20 : Type := List E_u8 × List E_u8 × Int
abbrev qz20 : List Ty := [(.sl 5 ts_u8), (.sl 5 ts_u8), (.int .i64)]
abbrev Qz21 : Type := List E_u8 × List E_u8
abbrev qz21 : List Ty := [(.sl 5 ts_u8), (.sl 5 ts_u8)]
abbrev Qz22 : Type := List E_s_u8 × List E_s_u8 × Int
abbrev qz22 : List Ty := [(.sl 32 ts_s_u8), (.sl 32 ts_s_u8), (.int .i64)]
abbrev Qz23 : Type := List E_s_u8 × List E_s_u8
abbrev qz23 : List Ty := [(.sl 32 ts_s_u8), (.sl 32 ts_s_u8)]
abbrev Qz24 : Type := Int × List E_u8 × Int × List E_u8
abbrev qz24 : List Ty := [(.int .i64), (.sl 5 ts_u8), (.int .i64), (.sl 5 ts_u8)]
abbrev Qz25 : Type := List E_Wr × List E_Wr × Int
abbrev qz25 : List Ty := [(.sl 186 ts_Wr), (.sl 186 ts_Wr), (.int .i64)]
abbrev Qz26 : Type := List E_Wr × List E_Wr
abbrev qz26 : List Ty := [(.sl 186 ts_Wr), (.sl 186 ts_Wr)]
abbrev Qz27 : Type := List E_s_u8 × List E_Wr × Int × Bool × List E_s_u8 × List E_Wr × Int × Bool
abbrev qz27 : List Ty := [(.sl 32 ts_s_u8), (.sl 186 ts_Wr), (.int .i64), .bool, (.sl 32 ts_s_u8), (.sl 186 ts_Wr), (.int .i64), .bool]
abbrev Qz28 : Type := List E_s_u8 × List E_Wr × Int × Bool × List E_i64 × List E_Node × List E_Age × List E_Cell × List E_Vol × Int × Int × Int × Int × List E_s_u8 × List E_Wr × Int × Bool × List E_i64 × List E_Node × List E_Age × List E_Cell × List E_Vol × Int × Int × Int × Int
abbrev qz28 : List Ty := [(.sl 32 ts_s_u8), (.sl 186 ts_Wr), (.int .i64), .bool, (.sl 3 ts_i64), (.sl 98 ts_Node), (.sl 89 ts_Age), (.sl 95 ts_Cell), (.sl 91 ts_Vol), (.int .i64), (.int .i64), (.int .i64), (.int .i64), (.sl 32 ts_s_u8), (.sl 186 ts_Wr), (.int .i64), .bool, (.sl 3 ts_i64), (.sl 98 ts_Node), (.sl 89 ts_Age), (.sl 95 ts_Cell), (.sl 91 ts_Vol), (.int .i64), (.int .i64), (.int .i64), (.int .i64)]
abbrev Qz29 : Type := Int × Int × List E_i64
abbrev qz29 : List Ty := [(.int .i64), (.int .i64), (.sl 3 ts_i64)]
abbrev Qz30 : Type := Int × List E_i64
abbrev qz30 : List Ty := [(.int .i64), (.sl 3 ts_i64)]
abbrev Qz31 : Type := List E_i64 × Int
abbrev qz31 : List Ty := [(.sl 3 ts_i64), (.int .i64)]
abbrev Qz32 : Type := Int × Int × List E_Key
abbrev qz32 : List Ty := [(.int .i64), (.int .i64), (.sl 106 ts_Key)]
abbrev Qz33 : Type := Int × List E_Key
abbrev qz33 : List Ty := [(.int .i64), (.sl 106 ts_Key)]
abbrev Qz34 : Type := List E_Key × Int
abbrev qz34 : List Ty := [(.sl 106 ts_Key), (.int .i64)]
abbrev Qz35 : Type := Int × Int × List E_s_Key
abbrev qz35 : List Ty := [(.int .i64), (.int .i64), (.sl 100 ts_s_Key)]
abbrev Qz36 : Type := Int × List E_s_Key
abbrev qz36 : List Ty := [(.int .i64), (.sl 100 ts_s_Key)]
abbrev Qz37 : Type := List E_s_Key × Int
abbrev qz37 : List Ty := [(.sl 100 ts_s_Key), (.int .i64)]
abbrev Qz38 : Type := Int × Int × List E_Node
abbrev qz38 : List Ty := [(.int .i64), (.int .i64), (.sl 98 ts_Node)]
abbrev Qz39 : Type := Int × List E_Node
abbrev qz39 : List Ty := [(.int .i64), (.sl 98 ts_Node)]
abbrev Qz40 : Type := List E_Node × Int
abbrev qz40 : List Ty := [(.sl 98 ts_Node), (.int .i64)]
abbrev Qz41 : Type := List E_i64 × List E_Node × Int
abbrev qz41 : List Ty := [(.sl 3 ts_i64), (.sl 98 ts_Node), (.int .i64)]
abbrev Qz42 : Type := Int × List E_i64 × List E_Node
abbrev qz42 : List Ty := [(.int .i64), (.sl 3 ts_i64), (.sl 98 ts_Node)]
abbrev Qz43 : Type := Int × Int × List E_Age
abbrev qz43 : List Ty := [(.int .i64), (.int .i64), (.sl 89 ts_Age)]
abbrev Qz44 : Type := Int × List E_Age
abbrev qz44 : List Ty := [(.int .i64), (.sl 89 ts_Age)]
abbrev Qz45 : Type := List E_Age × Int
abbrev qz45 : List Ty := [(.sl 89 ts_Age), (.int .i64)]
abbrev Qz46 : Type := Int × Int × List E_Cell
abbrev qz46 : List Ty := [(.int .i64), (.int .i64), (.sl 95 ts_Cell)]
abbrev Qz47 : Type := Int × List E_Cell
abbrev qz47 : List Ty := [(.int .i64), (.sl 95 ts_Cell)]
abbrev Qz48 : Type := List E_Cell × Int
abbrev qz48 : List Ty := [(.sl 95 ts_Cell), (.int .i64)]
abbrev Qz49 : Type := Int × ByteArray
abbrev qz49 : List Ty := [(.int .i64), .str]
abbrev Qz50 : Type := Int × Int × List E_Vol
abbrev qz50 : List Ty := [(.int .i64), (.int .i64), (.sl 91 ts_Vol)]
abbrev Qz51 : Type := Int × List E_Vol
abbrev qz51 : List Ty := [(.int .i64), (.sl 91 ts_Vol)]
abbrev Qz52 : Type := List E_Vol × Int
abbrev qz52 : List Ty := [(.sl 91 ts_Vol), (.int .i64)]
abbrev Qz53 : Type := List E_i64 × List E_Node × List E_Age × List E_Cell × List E_Vol × Int × Int
abbrev qz53 : List Ty := [(.sl 3 ts_i64), (.sl 98 ts_Node), (.sl 89 ts_Age), (.sl 95 ts_Cell), (.sl 91 ts_Vol), (.int .i64), (.int .i64)]
abbrev Qz54 : Type := Int × List E_i64 × List E_Node × List E_Age × List E_Cell × List E_Vol
abbrev qz54 : List Ty := [(.int .i64), (.sl 3 ts_i64), (.sl 98 ts_Node), (.sl 89 ts_Age), (.sl 95 ts_Cell), (.sl 91 ts_Vol)]
abbrev Qz55 : Type := Int × Int × List E_u8
abbrev qz55 : List Ty := [(.int .i64), (.int .i64), (.sl 5 ts_u8)]
abbrev Qz56 : Type := Int × List E_u8
abbrev qz56 : List Ty := [(.int .i64), (.sl 5 ts_u8)]
abbrev Qz57 : Type := List E_u8 × Int
abbrev qz57 : List Ty := [(.sl 5 ts_u8), (.int .i64)]
abbrev Qz58 : Type := Int × Int × List E_s_u8
abbrev qz58 : List Ty := [(.int .i64), (.int .i64), (.sl 32 ts_s_u8)]
abbrev Qz59 : Type := Int × List E_s_u8
abbrev qz59 : List Ty := [(.int .i64), (.sl 32 ts_s_u8)]
abbrev Qz60 : Type := List E_s_u8 × Int
abbrev qz60 : List Ty := [(.sl 32 ts_s_u8), (.int .i64)]
abbrev Qz61 : Type := Int × Int × List E_Wr
abbrev qz61 : List Ty := [(.int .i64), (.int .i64), (.sl 186 ts_Wr)]
abbrev Qz62 : Type := Int × List E_Wr
abbrev qz62 : List Ty := [(.int .i64), (.sl 186 ts_Wr)]
abbrev Qz63 : Type := List E_Wr × Int
abbrev qz63 : List Ty := [(.sl 186 ts_Wr), (.int .i64)]
abbrev Qz64 : Type := List E_s_u8 × List E_Wr × Int × Bool × Int
abbrev qz64 : List Ty := [(.sl 32 ts_s_u8), (.sl 186 ts_Wr), (.int .i64), .bool, (.int .i64)]
abbrev Qz65 : Type := Int × List E_s_u8 × List E_Wr
abbrev qz65 : List Ty := [(.int .i64), (.sl 32 ts_s_u8), (.sl 186 ts_Wr)]
abbrev Qz66 : Type := List E_s_u8 × List E_Wr × Int × Bool × List E_i64 × List E_Node × List E_Age × List E_Cell × List E_Vol × Int × Int × Int × Int × Int
abbrev qz66 : List Ty := [(.sl 32 ts_s_u8), (.sl 186 ts_Wr), (.int .i64), .bool, (.sl 3 ts_i64), (.sl 98 ts_Node), (.sl 89 ts_Age), (.sl 95 ts_Cell), (.sl 91 ts_Vol), (.int .i64), (.int .i64), (.int .i64), (.int .i64), (.int .i64)]
abbrev Qz67 : Type := Int × List E_s_u8 × List E_Wr × List E_i64 × List E_Node × List E_Age × List E_Cell × List E_Vol
abbrev qz67 : List Ty := [(.int .i64), (.sl 32 ts_s_u8), (.sl 186 ts_Wr), (.sl 3 ts_i64), (.sl 98 ts_Node), (.sl 89 ts_Age), (.sl 95 ts_Cell), (.sl 91 ts_Vol)]
abbrev Qz68 : Type := List E_i64 × Int × Int
abbrev qz68 : List Ty := [(.sl 3 ts_i64), (.int .i64), (.int .i64)]
abbrev Qz69 : Type := Int × Int
abbrev qz69 : List Ty := [(.int .i64), (.int .i64)]
abbrev Qz70 : Type := List E_Key × Int × Int
abbrev qz70 : List Ty := [(.sl 106 ts_Key), (.int .i64), (.int .i64)]
abbrev Qz71 : Type := List E_s_Key × Int × Int
abbrev qz71 : List Ty := [(.sl 100 ts_s_Key), (.int .i64), (.int .i64)]
abbrev Qz72 : Type := List E_Node × Int × Int
abbrev qz72 : List Ty := [(.sl 98 ts_Node), (.int .i64), (.int .i64)]
abbrev Qz73 : Type := List E_Age × Int × Int
abbrev qz73 : List Ty := [(.sl 89 ts_Age), (.int .i64), (.int .i64)]
abbrev Qz74 : Type := List E_Cell × Int × Int
abbrev qz74 : List Ty := [(.sl 95 ts_Cell), (.int .i64), (.int .i64)]
abbrev Qz75 : Type := List E_Vol × Int × Int
abbrev qz75 : List Ty := [(.sl 91 ts_Vol), (.int .i64), (.int .i64)]
abbrev Qz76 : Type := List E_u8 × Int × Int
abbrev qz76 : List Ty := [(.sl 5 ts_u8), (.int .i64), (.int .i64)]
abbrev Qz77 : Type := List E_s_u8 × Int × Int
abbrev qz77 : List Ty := [(.sl 32 ts_s_u8), (.int .i64), (.int .i64)]
abbrev Qz78 : Type := List E_Wr × Int × Int
abbrev qz78 : List Ty := [(.sl 186 ts_Wr), (.int .i64), (.int .i64)]
abbrev Qz79 : Type := List E_LKey × Int
abbrev qz79 : List Ty := [(.sl 279 ts_LKey), (.int .i64)]
abbrev Qz80 : Type := List E_s_LKey × Int × Int
abbrev qz80 : List Ty := [(.sl 267 ts_s_LKey), (.int .i64), (.int .i64)]
abbrev Qz81 : Type := List E_s_LKey × Int
abbrev qz81 : List Ty := [(.sl 267 ts_s_LKey), (.int .i64)]
abbrev Qz82 : Type := List E_LNode × Int × Int
abbrev qz82 : List Ty := [(.sl 216 ts_LNode), (.int .i64), (.int .i64)]
abbrev Qz83 : Type := List E_LNode × Int
abbrev qz83 : List Ty := [(.sl 216 ts_LNode), (.int .i64)]
abbrev Qz84 : Type := List E_i64 × List E_LNode × Int
abbrev qz84 : List Ty := [(.sl 3 ts_i64), (.sl 216 ts_LNode), (.int .i64)]
abbrev Qz85 : Type := List E_LAge × Int
abbrev qz85 : List Ty := [(.sl 166 ts_LAge), (.int .i64)]
abbrev Qz86 : Type := List E_LCell × Int
abbrev qz86 : List Ty := [(.sl 168 ts_LCell), (.int .i64)]
abbrev Qz87 : Type := ByteArray × Int × Int × Bool × Int
abbrev qz87 : List Ty := [.str, (.int .i64), (.int .i64), .bool, (.int .i64)]
abbrev Qz88 : Type := List E_LVol × Int × Int
abbrev qz88 : List Ty := [(.sl 158 ts_LVol), (.int .i64), (.int .i64)]
abbrev Qz89 : Type := List E_LVol × Int
abbrev qz89 : List Ty := [(.sl 158 ts_LVol), (.int .i64)]
abbrev Qz90 : Type := List E_i64 × List E_LNode × List E_LAge × List E_LCell × List E_LVol × Int × Int
abbrev qz90 : List Ty := [(.sl 3 ts_i64), (.sl 216 ts_LNode), (.sl 166 ts_LAge), (.sl 168 ts_LCell), (.sl 158 ts_LVol), (.int .i64), (.int .i64)]
abbrev Qz91 : Type := Int × List E_u8 × Int
abbrev qz91 : List Ty := [(.int .i64), (.sl 5 ts_u8), (.int .i64)]
abbrev Qz92 : Type := List E_LWr × Int × Int
abbrev qz92 : List Ty := [(.sl 181 ts_LWr), (.int .i64), (.int .i64)]
abbrev Qz93 : Type := List E_LWr × Int
abbrev qz93 : List Ty := [(.sl 181 ts_LWr), (.int .i64)]
abbrev Qz94 : Type := List E_s_u8 × List E_LWr × Int × Bool × Int
abbrev qz94 : List Ty := [(.sl 32 ts_s_u8), (.sl 181 ts_LWr), (.int .i64), .bool, (.int .i64)]
abbrev Qz95 : Type := List E_s_u8 × List E_LWr × Int × Bool × List E_i64 × List E_LNode × List E_LAge × List E_LCell × List E_LVol × Int × Int × Int × Int × Int
abbrev qz95 : List Ty := [(.sl 32 ts_s_u8), (.sl 181 ts_LWr), (.int .i64), .bool, (.sl 3 ts_i64), (.sl 216 ts_LNode), (.sl 166 ts_LAge), (.sl 168 ts_LCell), (.sl 158 ts_LVol), (.int .i64), (.int .i64), (.int .i64), (.int .i64), (.int .i64)]
abbrev Qz96 : Type := Int × List E_s_Key × List E_s_Key
abbrev qz96 : List Ty := [(.int .i64), (.sl 100 ts_s_Key), (.sl 100 ts_s_Key)]
abbrev Qz97 : Type := Int × List E_i64 × List E_Node × List E_i64
abbrev qz97 : List Ty := [(.int .i64), (.sl 3 ts_i64), (.sl 98 ts_Node), (.sl 3 ts_i64)]
abbrev Qz98 : Type := Int × List E_i64 × List E_Node × List E_i64 × List E_Node
abbrev qz98 : List Ty := [(.int .i64), (.sl 3 ts_i64), (.sl 98 ts_Node), (.sl 3 ts_i64), (.sl 98 ts_Node)]
abbrev Qz99 : Type := List E_i64 × List E_Node
abbrev qz99 : List Ty := [(.sl 3 ts_i64), (.sl 98 ts_Node)]
abbrev Qz100 : Type := List E_i64 × List E_Node × List E_Age × List E_Cell × List E_Vol × Int
abbrev qz100 : List Ty := [(.sl 3 ts_i64), (.sl 98 ts_Node), (.sl 89 ts_Age), (.sl 95 ts_Cell), (.sl 91 ts_Vol), (.int .i64)]
abbrev Qz101 : Type := Int × List E_s_u8 × List E_Wr × Int × Bool × Int × Bool × Int × Bool
abbrev qz101 : List Ty := [(.int .i64), (.sl 32 ts_s_u8), (.sl 186 ts_Wr), (.int .i64), .bool, (.int .i64), .bool, (.int .i64), .bool]
abbrev Qz102 : Type := Int × List E_s_u8 × List E_Wr × Int × Bool × Int × Bool × Int × Bool × List E_s_u8
abbrev qz102 : List Ty := [(.int .i64), (.sl 32 ts_s_u8), (.sl 186 ts_Wr), (.int .i64), .bool, (.int .i64), .bool, (.int .i64), .bool, (.sl 32 ts_s_u8)]
abbrev Qz103 : Type := List E_s_u8 × List E_Wr × Int × Bool × Int × Bool × Int × Bool
abbrev qz103 : List Ty := [(.sl 32 ts_s_u8), (.sl 186 ts_Wr), (.int .i64), .bool, (.int .i64), .bool, (.int .i64), .bool]
abbrev Qz104 : Type := List E_s_u8 × List E_Wr × Int × Bool × Int × Bool × Int × Bool × List E_s_u8
abbrev qz104 : List Ty := [(.sl 32 ts_s_u8), (.sl 186 ts_Wr), (.int .i64), .bool, (.int .i64), .bool, (.int .i64), .bool, (.sl 32 ts_s_u8)]
abbrev Qz105 : Type := Int × List E_s_u8 × List E_Wr × Int × Bool × Int × Bool × Int × Bool × List E_Wr
abbrev qz105 : List Ty := [(.int .i64), (.sl 32 ts_s_u8), (.sl 186 ts_Wr), (.int .i64), .bool, (.int .i64), .bool, (.int .i64), .bool, (.sl 186 ts_Wr)]
abbrev Qz106 : Type := Int × List E_s_u8 × List E_Wr × Int × Bool × Int × Bool × Int × Bool × List E_s_u8 × List E_Wr
abbrev qz106 : List Ty := [(.int .i64), (.sl 32 ts_s_u8), (.sl 186 ts_Wr), (.int .i64), .bool, (.int .i64), .bool, (.int .i64), .bool, (.sl 32 ts_s_u8), (.sl 186 ts_Wr)]
abbrev Qz107 : Type := Int × Bool × Int × Bool
abbrev qz107 : List Ty := [(.int .i64), .bool, (.int .i64), .bool]
abbrev Qz108 : Type := Int × Bool × Int × Bool × List E_Wr
abbrev qz108 : List Ty := [(.int .i64), .bool, (.int .i64), .bool, (.sl 186 ts_Wr)]
abbrev Qz109 : Type := Int × Bool × Int × Bool × List E_s_u8
abbrev qz109 : List Ty := [(.int .i64), .bool, (.int .i64), .bool, (.sl 32 ts_s_u8)]
abbrev Qz110 : Type := Int × Bool × Int × Bool × List E_s_u8 × List E_Wr
abbrev qz110 : List Ty := [(.int .i64), .bool, (.int .i64), .bool, (.sl 32 ts_s_u8), (.sl 186 ts_Wr)]
abbrev Qz111 : Type := List E_s_u8 × List E_Wr × Int × Bool
abbrev qz111 : List Ty := [(.sl 32 ts_s_u8), (.sl 186 ts_Wr), (.int .i64), .bool]
abbrev Qz112 : Type := List E_s_u8 × List E_Wr × Int × Bool × List E_i64 × List E_Node × List E_Age × List E_Cell × List E_Vol × Int × Int × Int × Int
abbrev qz112 : List Ty := [(.sl 32 ts_s_u8), (.sl 186 ts_Wr), (.int .i64), .bool, (.sl 3 ts_i64), (.sl 98 ts_Node), (.sl 89 ts_Age), (.sl 95 ts_Cell), (.sl 91 ts_Vol), (.int .i64), (.int .i64), (.int .i64), (.int .i64)]
abbrev Qz113 : Type := Int × Int × Int
abbrev qz113 : List Ty := [(.int .i64), (.int .i64), (.int .i64)]
abbrev Qz114 : Type := List E_Key × Int × List E_Key
abbrev qz114 : List Ty := [(.sl 106 ts_Key), (.int .i64), (.sl 106 ts_Key)]
abbrev Qz115 : Type := List E_Key × Bool × Int × Int × Int × Int × Int × Int × List E_Key
abbrev qz115 : List Ty := [(.sl 106 ts_Key), .bool, (.int .i64), (.int .i64), (.int .i64), (.int .i64), (.int .i64), (.int .i64), (.sl 106 ts_Key)]
abbrev Qz116 : Type := Bool × Int × Int × Int × Int × Int × List E_Key
abbrev qz116 : List Ty := [.bool, (.int .i64), (.int .i64), (.int .i64), (.int .i64), (.int .i64), (.sl 106 ts_Key)]
abbrev Qz117 : Type := List E_Key × Int × Int × Int × Int × Int
abbrev qz117 : List Ty := [(.sl 106 ts_Key), (.int .i64), (.int .i64), (.int .i64), (.int .i64), (.int .i64)]
abbrev Qz118 : Type := Int × List E_s_Key × List E_Key
abbrev qz118 : List Ty := [(.int .i64), (.sl 100 ts_s_Key), (.sl 106 ts_Key)]
abbrev Qz119 : Type := Int × List E_i64 × List E_Node × List E_Key
abbrev qz119 : List Ty := [(.int .i64), (.sl 3 ts_i64), (.sl 98 ts_Node), (.sl 106 ts_Key)]
abbrev Qz120 : Type := Int × Int × Int × Int × Int
abbrev qz120 : List Ty := [(.int .i64), (.int .i64), (.int .i64), (.int .i64), (.int .i64)]
abbrev Qz121 : Type := List E_Key × Bool
abbrev qz121 : List Ty := [(.sl 106 ts_Key), .bool]
abbrev Qz122 : Type := Bool × List E_s_Key
abbrev qz122 : List Ty := [.bool, (.sl 100 ts_s_Key)]
abbrev Qz123 : Type := Int × Int × Int × List E_i64 × List E_Node × List E_s_Key
abbrev qz123 : List Ty := [(.int .i64), (.int .i64), (.int .i64), (.sl 3 ts_i64), (.sl 98 ts_Node), (.sl 100 ts_s_Key)]
abbrev Qz124 : Type := Int × Bool × Int × List E_i64 × List E_Node × List E_s_Key
abbrev qz124 : List Ty := [(.int .i64), .bool, (.int .i64), (.sl 3 ts_i64), (.sl 98 ts_Node), (.sl 100 ts_s_Key)]
abbrev Qz125 : Type := Int × Int × List E_i64 × List E_Node × List E_s_Key
abbrev qz125 : List Ty := [(.int .i64), (.int .i64), (.sl 3 ts_i64), (.sl 98 ts_Node), (.sl 100 ts_s_Key)]
abbrev Qz126 : Type := Bool × List E_i64 × List E_Node
abbrev qz126 : List Ty := [.bool, (.sl 3 ts_i64), (.sl 98 ts_Node)]
abbrev Qz127 : Type := List E_Age × Bool
abbrev qz127 : List Ty := [(.sl 89 ts_Age), .bool]
abbrev Qz128 : Type := List E_Cell × Bool
abbrev qz128 : List Ty := [(.sl 95 ts_Cell), .bool]
abbrev Qz129 : Type := ByteArray × Int
abbrev qz129 : List Ty := [.str, (.int .i64)]
abbrev Qz130 : Type := ByteArray × Bool
abbrev qz130 : List Ty := [.str, .bool]
abbrev Qz131 : Type := List E_Age × Int × Int × List E_i64
abbrev qz131 : List Ty := [(.sl 89 ts_Age), (.int .i64), (.int .i64), (.sl 3 ts_i64)]
abbrev Qz132 : Type := Int × Int × List E_i64 × List E_Node × List E_Age × List E_Cell × List E_Vol × Int × ByteArray × Int × Int × Bool
abbrev qz132 : List Ty := [(.int .i64), (.int .i64), (.sl 3 ts_i64), (.sl 98 ts_Node), (.sl 89 ts_Age), (.sl 95 ts_Cell), (.sl 91 ts_Vol), (.int .i64), .str, (.int .i64), (.int .i64), .bool]
abbrev Qz133 : Type := Bool × Int × List E_i64 × List E_Node × List E_Age × List E_Cell × List E_Vol × Int
abbrev qz133 : List Ty := [.bool, (.int .i64), (.sl 3 ts_i64), (.sl 98 ts_Node), (.sl 89 ts_Age), (.sl 95 ts_Cell), (.sl 91 ts_Vol), (.int .i64)]
abbrev Qz134 : Type := Int × List E_i64 × List E_Node × List E_Age × List E_Cell × List E_Vol × Int
abbrev qz134 : List Ty := [(.int .i64), (.sl 3 ts_i64), (.sl 98 ts_Node), (.sl 89 ts_Age), (.sl 95 ts_Cell), (.sl 91 ts_Vol), (.int .i64)]
abbrev Qz135 : Type := Bool × List E_i64 × List E_Node × List E_Age × List E_Cell × List E_Vol × Int
abbrev qz135 : List Ty := [.bool, (.sl 3 ts_i64), (.sl 98 ts_Node), (.sl 89 ts_Age), (.sl 95 ts_Cell), (.sl 91 ts_Vol), (.int .i64)]
abbrev Qz136 : Type := Int × Bool
abbrev qz136 : List Ty := [(.int .i64), .bool]
abbrev Qz137 : Type := Int × Int × Int × List E_i64 × List E_Node × List E_Age × List E_Cell × List E_Vol × Int × List E_Key
abbrev qz137 : List Ty := [(.int .i64), (.int .i64), (.int .i64), (.sl 3 ts_i64), (.sl 98 ts_Node), (.sl 89 ts_Age), (.sl 95 ts_Cell), (.sl 91 ts_Vol), (.int .i64), (.sl 106 ts_Key)]
abbrev Qz138 : Type := Bool × Int × Int × List E_i64 × List E_Node × List E_Age × List E_Cell × List E_Vol × Int × List E_Key
abbrev qz138 : List Ty := [.bool, (.int .i64), (.int .i64), (.sl 3 ts_i64), (.sl 98 ts_Node), (.sl 89 ts_Age), (.sl 95 ts_Cell), (.sl 91 ts_Vol), (.int .i64), (.sl 106 ts_Key)]
abbrev Qz139 : Type := Int × Int × List E_i64 × List E_Node × List E_Age × List E_Cell × List E_Vol × Int × List E_Key
abbrev qz139 : List Ty := [(.int .i64), (.int .i64), (.sl 3 ts_i64), (.sl 98 ts_Node), (.sl 89 ts_Age), (.sl 95 ts_Cell), (.sl 91 ts_Vol), (.int .i64), (.sl 106 ts_Key)]
abbrev Qz140 : Type := Int × List E_s_u8 × List E_Wr × Int × Bool
abbrev qz140 : List Ty := [(.int .i64), (.sl 32 ts_s_u8), (.sl 186 ts_Wr), (.int .i64), .bool]
abbrev Qz141 : Type := Bool × List E_s_u8 × List E_Wr × Int × Bool
abbrev qz141 : List Ty := [.bool, (.sl 32 ts_s_u8), (.sl 186 ts_Wr), (.int .i64), .bool]
abbrev Qz142 : Type := Bool × List E_s_u8 × List E_Wr × Int × Bool × List E_i64 × List E_Node × List E_Age × List E_Cell × List E_Vol × Int × Int × Int × Int
abbrev qz142 : List Ty := [.bool, (.sl 32 ts_s_u8), (.sl 186 ts_Wr), (.int .i64), .bool, (.sl 3 ts_i64), (.sl 98 ts_Node), (.sl 89 ts_Age), (.sl 95 ts_Cell), (.sl 91 ts_Vol), (.int .i64), (.int .i64), (.int .i64), (.int .i64)]
abbrev Qz143 : Type := Int × Int × Bool × Int × Int × Int × Int × List E_s_u8 × List E_Wr × List E_i64 × List E_Node × List E_Age × List E_Cell × List E_Vol
abbrev qz143 : List Ty := [(.int .i64), (.int .i64), .bool, (.int .i64), (.int .i64), (.int .i64), (.int .i64), (.sl 32 ts_s_u8), (.sl 186 ts_Wr), (.sl 3 ts_i64), (.sl 98 ts_Node), (.sl 89 ts_Age), (.sl 95 ts_Cell), (.sl 91 ts_Vol)]
abbrev Qz144 : Type := Int × Bool × Int × Int × Int × Int × List E_s_u8 × List E_Wr × List E_i64 × List E_Node × List E_Age × List E_Cell × List E_Vol
abbrev qz144 : List Ty := [(.int .i64), .bool, (.int .i64), (.int .i64), (.int .i64), (.int .i64), (.sl 32 ts_s_u8), (.sl 186 ts_Wr), (.sl 3 ts_i64), (.sl 98 ts_Node), (.sl 89 ts_Age), (.sl 95 ts_Cell), (.sl 91 ts_Vol)]
abbrev Qz145 : Type := List E_i64 × Int × List E_i64
abbrev qz145 : List Ty := [(.sl 3 ts_i64), (.int .i64), (.sl 3 ts_i64)]
abbrev Qz146 : Type := List E_LKey × Int × List E_Key
abbrev qz146 : List Ty := [(.sl 279 ts_LKey), (.int .i64), (.sl 106 ts_Key)]
abbrev Qz147 : Type := List E_s_LKey × Int × List E_s_Key
abbrev qz147 : List Ty := [(.sl 267 ts_s_LKey), (.int .i64), (.sl 100 ts_s_Key)]
abbrev Qz148 : Type := List E_LNode × Int × List E_Node
abbrev qz148 : List Ty := [(.sl 216 ts_LNode), (.int .i64), (.sl 98 ts_Node)]
abbrev Qz149 : Type := List E_i64 × List E_LNode
abbrev qz149 : List Ty := [(.sl 3 ts_i64), (.sl 216 ts_LNode)]
abbrev Qz150 : Type := List E_LAge × Int × List E_Age
abbrev qz150 : List Ty := [(.sl 166 ts_LAge), (.int .i64), (.sl 89 ts_Age)]
abbrev Qz151 : Type := Int × Bool × Int
abbrev qz151 : List Ty := [(.int .i64), .bool, (.int .i64)]
abbrev Qz152 : Type := List E_LCell × Int × List E_Cell
abbrev qz152 : List Ty := [(.sl 168 ts_LCell), (.int .i64), (.sl 95 ts_Cell)]
abbrev Qz153 : Type := ByteArray × Int × Int × Bool
abbrev qz153 : List Ty := [.str, (.int .i64), (.int .i64), .bool]
abbrev Qz154 : Type := List E_LVol × Int × List E_Vol
abbrev qz154 : List Ty := [(.sl 158 ts_LVol), (.int .i64), (.sl 91 ts_Vol)]
abbrev Qz155 : Type := List E_i64 × List E_LNode × List E_LAge × List E_LCell × List E_LVol × Int
abbrev qz155 : List Ty := [(.sl 3 ts_i64), (.sl 216 ts_LNode), (.sl 166 ts_LAge), (.sl 168 ts_LCell), (.sl 158 ts_LVol), (.int .i64)]
abbrev Qz156 : Type := List E_u8 × Int × List E_u8
abbrev qz156 : List Ty := [(.sl 5 ts_u8), (.int .i64), (.sl 5 ts_u8)]
abbrev Qz157 : Type := List E_s_u8 × Int × List E_s_u8
abbrev qz157 : List Ty := [(.sl 32 ts_s_u8), (.int .i64), (.sl 32 ts_s_u8)]
abbrev Qz158 : Type := List E_LWr × Int × List E_Wr
abbrev qz158 : List Ty := [(.sl 181 ts_LWr), (.int .i64), (.sl 186 ts_Wr)]
abbrev Qz159 : Type := List E_s_u8 × List E_LWr × Int × Bool
abbrev qz159 : List Ty := [(.sl 32 ts_s_u8), (.sl 181 ts_LWr), (.int .i64), .bool]
abbrev Qz160 : Type := List E_s_u8 × List E_LWr × Int × Bool × List E_i64 × List E_LNode × List E_LAge × List E_LCell × List E_LVol × Int × Int × Int × Int
abbrev qz160 : List Ty := [(.sl 32 ts_s_u8), (.sl 181 ts_LWr), (.int .i64), .bool, (.sl 3 ts_i64), (.sl 216 ts_LNode), (.sl 166 ts_LAge), (.sl 168 ts_LCell), (.sl 158 ts_LVol), (.int .i64), (.int .i64), (.int .i64), (.int .i64)]
abbrev Qz161 : Type := List E_s_u8 × Int × Int × List E_u8
abbrev qz161 : List Ty := [(.sl 32 ts_s_u8), (.int .i64), (.int .i64), (.sl 5 ts_u8)]
abbrev Qz162 : Type := List E_s_u8 × Int × Int × List E_s_u8 × List E_Wr × Int × Bool × Int × Bool × Int × Bool
abbrev qz162 : List Ty := [(.sl 32 ts_s_u8), (.int .i64), (.int .i64), (.sl 32 ts_s_u8), (.sl 186 ts_Wr), (.int .i64), .bool, (.int .i64), .bool, (.int .i64), .bool]
abbrev Qz163 : Type := List E_s_u8 × Int × Int × List E_s_u8 × List E_Wr × Int × Bool × Int × Bool × Int × Bool × List E_s_u8
abbrev qz163 : List Ty := [(.sl 32 ts_s_u8), (.int .i64), (.int .i64), (.sl 32 ts_s_u8), (.sl 186 ts_Wr), (.int .i64), .bool, (.int .i64), .bool, (.int .i64), .bool, (.sl 32 ts_s_u8)]
abbrev Qz164 : Type := List E_Wr × Int × Int × Int × Bool × Int × Bool
abbrev qz164 : List Ty := [(.sl 186 ts_Wr), (.int .i64), (.int .i64), (.int .i64), .bool, (.int .i64), .bool]
abbrev Qz165 : Type := List E_Wr × Int × Int × Int × Bool × Int × Bool × List E_Wr
abbrev qz165 : List Ty := [(.sl 186 ts_Wr), (.int .i64), (.int .i64), (.int .i64), .bool, (.int .i64), .bool, (.sl 186 ts_Wr)]
abbrev Qz166 : Type := List E_Wr × Int × Int × Int × Bool × Int × Bool × List E_s_u8
abbrev qz166 : List Ty := [(.sl 186 ts_Wr), (.int .i64), (.int .i64), (.int .i64), .bool, (.int .i64), .bool, (.sl 32 ts_s_u8)]
abbrev Qz167 : Type := List E_Wr × Int × Int × Int × Bool × Int × Bool × List E_s_u8 × List E_Wr
abbrev qz167 : List Ty := [(.sl 186 ts_Wr), (.int .i64), (.int .i64), (.int .i64), .bool, (.int .i64), .bool, (.sl 32 ts_s_u8), (.sl 186 ts_Wr)]
abbrev Qz168 : Type := List E_s_Key × Int × Int × List E_s_Key
abbrev qz168 : List Ty := [(.sl 100 ts_s_Key), (.int .i64), (.int .i64), (.sl 100 ts_s_Key)]
abbrev Qz169 : Type := List E_Node × Int × Int × List E_i64
abbrev qz169 : List Ty := [(.sl 98 ts_Node), (.int .i64), (.int .i64), (.sl 3 ts_i64)]
abbrev Qz170 : Type := List E_Node × Int × Int × List E_i64 × List E_Node
abbrev qz170 : List Ty := [(.sl 98 ts_Node), (.int .i64), (.int .i64), (.sl 3 ts_i64), (.sl 98 ts_Node)]
abbrev Qz171 : Type := List E_Key × List E_Key × Int × Int
abbrev qz171 : List Ty := [(.sl 106 ts_Key), (.sl 106 ts_Key), (.int .i64), (.int .i64)]
abbrev Qz172 : Type := Int × List E_s_Key × Int × Int × List E_s_Key
abbrev qz172 : List Ty := [(.int .i64), (.sl 100 ts_s_Key), (.int .i64), (.int .i64), (.sl 100 ts_s_Key)]
abbrev Qz173 : Type := Bool × Int × List E_s_Key
abbrev qz173 : List Ty := [.bool, (.int .i64), (.sl 100 ts_s_Key)]
abbrev Qz174 : Type := Int × List E_s_Key × Int × Int × List E_Key × Int × Int × List E_i64 × List E_Node
abbrev qz174 : List Ty := [(.int .i64), (.sl 100 ts_s_Key), (.int .i64), (.int .i64), (.sl 106 ts_Key), (.int .i64), (.int .i64), (.sl 3 ts_i64), (.sl 98 ts_Node)]
abbrev Qz175 : Type := Int × Bool × List E_s_Key × Int × Int × List E_i64 × List E_Node
abbrev qz175 : List Ty := [(.int .i64), .bool, (.sl 100 ts_s_Key), (.int .i64), (.int .i64), (.sl 3 ts_i64), (.sl 98 ts_Node)]
abbrev Qz176 : Type := Int × List E_s_Key × Int × Int × List E_i64 × List E_Node
abbrev qz176 : List Ty := [(.int .i64), (.sl 100 ts_s_Key), (.int .i64), (.int .i64), (.sl 3 ts_i64), (.sl 98 ts_Node)]
abbrev Qz177 : Type := Bool × List E_Key × Int × Int × Int × Int × Int × Int × Int × List E_Key
abbrev qz177 : List Ty := [.bool, (.sl 106 ts_Key), (.int .i64), (.int .i64), (.int .i64), (.int .i64), (.int .i64), (.int .i64), (.int .i64), (.sl 106 ts_Key)]
abbrev Qz178 : Type := List E_Key × Int × Int × List E_Key
abbrev qz178 : List Ty := [(.sl 106 ts_Key), (.int .i64), (.int .i64), (.sl 106 ts_Key)]
abbrev Qz179 : Type := List E_s_Key × Int × Int × List E_Key
abbrev qz179 : List Ty := [(.sl 100 ts_s_Key), (.int .i64), (.int .i64), (.sl 106 ts_Key)]
abbrev Qz180 : Type := Int × List E_Node × Int × Int × List E_i64 × List E_Node
abbrev qz180 : List Ty := [(.int .i64), (.sl 98 ts_Node), (.int .i64), (.int .i64), (.sl 3 ts_i64), (.sl 98 ts_Node)]
abbrev Qz181 : Type := Bool × Int
abbrev qz181 : List Ty := [.bool, (.int .i64)]
abbrev Qz182 : Type := List E_Age × Int × Int × Int
abbrev qz182 : List Ty := [(.sl 89 ts_Age), (.int .i64), (.int .i64), (.int .i64)]
abbrev Qz183 : Type := List E_Age × List E_Age × Int × Int
abbrev qz183 : List Ty := [(.sl 89 ts_Age), (.sl 89 ts_Age), (.int .i64), (.int .i64)]
abbrev Qz184 : Type := List E_Cell × List E_Cell × Int × Int
abbrev qz184 : List Ty := [(.sl 95 ts_Cell), (.sl 95 ts_Cell), (.int .i64), (.int .i64)]
abbrev Qz185 : Type := Int × List E_Age × Int × Int × List E_i64
abbrev qz185 : List Ty := [(.int .i64), (.sl 89 ts_Age), (.int .i64), (.int .i64), (.sl 3 ts_i64)]
abbrev Qz186 : Type := Bool × ByteArray × Int × Int × Bool
abbrev qz186 : List Ty := [.bool, .str, (.int .i64), (.int .i64), .bool]
abbrev Qz187 : Type := List E_Vol × Int × Int × ByteArray × Int × Int × Bool
abbrev qz187 : List Ty := [(.sl 91 ts_Vol), (.int .i64), (.int .i64), .str, (.int .i64), (.int .i64), .bool]
abbrev Qz188 : Type := Int × ByteArray × Int × Int × Bool
abbrev qz188 : List Ty := [(.int .i64), .str, (.int .i64), (.int .i64), .bool]
abbrev Qz189 : Type := List E_Vol × ByteArray × Int × Int × Bool
abbrev qz189 : List Ty := [(.sl 91 ts_Vol), .str, (.int .i64), (.int .i64), .bool]
abbrev Qz190 : Type := List E_Vol × Int × Int × List E_i64 × List E_Node × List E_Age × List E_Cell × List E_Vol × Int
abbrev qz190 : List Ty := [(.sl 91 ts_Vol), (.int .i64), (.int .i64), (.sl 3 ts_i64), (.sl 98 ts_Node), (.sl 89 ts_Age), (.sl 95 ts_Cell), (.sl 91 ts_Vol), (.int .i64)]
abbrev Qz191 : Type := List E_Node × Int × Int × List E_Key
abbrev qz191 : List Ty := [(.sl 98 ts_Node), (.int .i64), (.int .i64), (.sl 106 ts_Key)]
abbrev Qz192 : Type := Int × List E_Cell × Int × Int
abbrev qz192 : List Ty := [(.int .i64), (.sl 95 ts_Cell), (.int .i64), (.int .i64)]
abbrev Qz193 : Type := Int × Int × Int × List E_i64 × List E_Node × List E_Age × List E_Cell × List E_Vol × Int × List E_bool × List E_Key
abbrev qz193 : List Ty := [(.int .i64), (.int .i64), (.int .i64), (.sl 3 ts_i64), (.sl 98 ts_Node), (.sl 89 ts_Age), (.sl 95 ts_Cell), (.sl 91 ts_Vol), (.int .i64), (.sl 4 ts_bool), (.sl 106 ts_Key)]
abbrev Qz194 : Type := List E_Age × Int × Int × List E_i64 × List E_Node × List E_Age × List E_Cell × List E_Vol × Int
abbrev qz194 : List Ty := [(.sl 89 ts_Age), (.int .i64), (.int .i64), (.sl 3 ts_i64), (.sl 98 ts_Node), (.sl 89 ts_Age), (.sl 95 ts_Cell), (.sl 91 ts_Vol), (.int .i64)]
abbrev Qz195 : Type := List E_s_u8 × Int × Int × List E_s_u8 × List E_Wr × Int × Bool
abbrev qz195 : List Ty := [(.sl 32 ts_s_u8), (.int .i64), (.int .i64), (.sl 32 ts_s_u8), (.sl 186 ts_Wr), (.int .i64), .bool]
abbrev Qz196 : Type := List E_Wr × Int × Int × List E_s_u8 × List E_Wr × Int × Bool
abbrev qz196 : List Ty := [(.sl 186 ts_Wr), (.int .i64), (.int .i64), (.sl 32 ts_s_u8), (.sl 186 ts_Wr), (.int .i64), .bool]
abbrev Qz197 : Type := List E_s_u8 × List E_Wr × Int × Bool × Bool
abbrev qz197 : List Ty := [(.sl 32 ts_s_u8), (.sl 186 ts_Wr), (.int .i64), .bool, .bool]
abbrev Qz198 : Type := Int × Int × Int × Bool × Int × Bool × List E_Wr × List E_s_u8
abbrev qz198 : List Ty := [(.int .i64), (.int .i64), (.int .i64), .bool, (.int .i64), .bool, (.sl 186 ts_Wr), (.sl 32 ts_s_u8)]
abbrev Qz199 : Type := List E_Wr × Int × Int × Int × Bool × List E_Wr × Int × Bool × List E_s_u8
abbrev qz199 : List Ty := [(.sl 186 ts_Wr), (.int .i64), (.int .i64), (.int .i64), .bool, (.sl 186 ts_Wr), (.int .i64), .bool, (.sl 32 ts_s_u8)]
abbrev Qz200 : Type := Int × Bool × List E_Wr × Int × Bool × List E_s_u8
abbrev qz200 : List Ty := [(.int .i64), .bool, (.sl 186 ts_Wr), (.int .i64), .bool, (.sl 32 ts_s_u8)]
def infoL : List (Nat × TI) := [
 (3, .c (.int .i64) 8),
 (4, .c (.bool) 1),
 (5, .c (.int .u8) 1),
 (9, .c (.str) 16),
 (22, .c (.sl 3 ts_i64) 24),
 (23, .c (.sl 216 ts_LNode) 24),
 (25, .s [(0, 22), (1, 23)] [(.sl 3 ts_i64), (.sl 216 ts_LNode)] 48),
 (26, .c (.sl 166 ts_LAge) 24),
 (27, .c (.sl 168 ts_LCell) 24),
 (28, .c (.sl 158 ts_LVol) 24),
 (30, .s [(0, 25), (2, 26), (3, 27), (4, 28), (5, 3)] [(.sl 3 ts_i64), (.sl 216 ts_LNode), (.sl 166 ts_LAge), (.sl 168 ts_LCell), (.sl 158 ts_LVol), (.int .i64)] 128),
 (32, .c (.sl 5 ts_u8) 24),
 (34, .c (.sl 98 ts_Node) 24),
 (36, .s [(0, 22), (1, 34)] [(.sl 3 ts_i64), (.sl 98 ts_Node)] 48),
 (37, .c (.sl 89 ts_Age) 24),
 (38, .c (.sl 95 ts_Cell) 24),
 (39, .c (.sl 91 ts_Vol) 24),
 (41, .s [(0, 36), (2, 37), (3, 38), (4, 39), (5, 3)] [(.sl 3 ts_i64), (.sl 98 ts_Node), (.sl 89 ts_Age), (.sl 95 ts_Cell), (.sl 91 ts_Vol), (.int .i64)] 128),
 (48, .c (.sl 32 ts_s_u8) 24),
 (49, .c (.sl 181 ts_LWr) 24),
 (51, .s [(0, 48), (1, 49), (2, 3), (3, 4)] [(.sl 32 ts_s_u8), (.sl 181 ts_LWr), (.int .i64), .bool] 64),
 (57, .c (.sl 186 ts_Wr) 24),
 (59, .s [(0, 48), (1, 57), (2, 3), (3, 4)] [(.sl 32 ts_s_u8), (.sl 186 ts_Wr), (.int .i64), .bool] 64),
 (70, .s [(0, 59), (4, 41), (10, 3), (11, 3), (12, 3)] [(.sl 32 ts_s_u8), (.sl 186 ts_Wr), (.int .i64), .bool, (.sl 3 ts_i64), (.sl 98 ts_Node), (.sl 89 ts_Age), (.sl 95 ts_Cell), (.sl 91 ts_Vol), (.int .i64), (.int .i64), (.int .i64), (.int .i64)] 216),
 (76, .s [(0, 51), (4, 30), (10, 3), (11, 3), (12, 3)] [(.sl 32 ts_s_u8), (.sl 181 ts_LWr), (.int .i64), .bool, (.sl 3 ts_i64), (.sl 216 ts_LNode), (.sl 166 ts_LAge), (.sl 168 ts_LCell), (.sl 158 ts_LVol), (.int .i64), (.int .i64), (.int .i64), (.int .i64)] 216),
 (89, .s [(0, 3), (1, 3)] [(.int .i64), (.int .i64)] 16),
 (91, .s [(0, 9), (1, 3), (2, 3), (3, 4)] [.str, (.int .i64), (.int .i64), .bool] 40),
 (95, .s [(0, 3), (1, 4), (2, 3)] [(.int .i64), .bool, (.int .i64)] 24),
 (96, .c (.sl 100 ts_s_Key) 24),
 (98, .s [(0, 96)] [(.sl 100 ts_s_Key)] 24),
 (100, .c (.sl 106 ts_Key) 24),
 (106, .s [(0, 3), (1, 3), (2, 3), (3, 3), (4, 3)] [(.int .i64), (.int .i64), (.int .i64), (.int .i64), (.int .i64)] 40),
 (158, .s [(0, 9), (1, 3), (2, 3), (3, 4)] [.str, (.int .i64), (.int .i64), .bool] 40),
 (166, .s [(0, 3), (1, 3)] [(.int .i64), (.int .i64)] 16),
 (168, .s [(0, 3), (1, 4), (2, 3)] [(.int .i64), .bool, (.int .i64)] 24),
 (181, .s [(0, 3), (1, 32)] [(.int .i64), (.sl 5 ts_u8)] 32),
 (186, .s [(0, 3), (1, 32)] [(.int .i64), (.sl 5 ts_u8)] 32),
 (214, .c (.sl 267 ts_s_LKey) 24),
 (216, .s [(0, 214)] [(.sl 267 ts_s_LKey)] 24),
 (229, .c (.sl 4 ts_bool) 24),
 (267, .c (.sl 279 ts_LKey) 24),
 (279, .s [(0, 3), (1, 3), (2, 3), (3, 3), (4, 3)] [(.int .i64), (.int .i64), (.int .i64), (.int .i64), (.int .i64)] 40)]
def sg139 : Sig := ⟨[.v false [(.sl 3 ts_i64)] [false], .v false [(.sl 3 ts_i64)] [false]], [⟨false, [.bool], [false]⟩], false, false, false⟩
def sg303 : Sig := ⟨[.v true qz120 (nf 5), .v true qz120 (nf 5)], [⟨false, [.bool], [false]⟩], false, false, false⟩
def sg282 : Sig := ⟨[.v false [(.sl 106 ts_Key)] [false], .v false [(.sl 106 ts_Key)] [false]], [⟨false, [.bool], [false]⟩], false, false, false⟩
def sg253 : Sig := ⟨[.v false [(.sl 100 ts_s_Key)] [false], .v false [(.sl 100 ts_s_Key)] [false]], [⟨false, [.bool], [false]⟩], false, false, false⟩
def sg216 : Sig := ⟨[.v true [(.sl 100 ts_s_Key)] [false], .v true [(.sl 100 ts_s_Key)] [false]], [⟨false, [.bool], [false]⟩], false, false, false⟩
def sg140 : Sig := ⟨[.v false [(.sl 98 ts_Node)] [false], .v false [(.sl 98 ts_Node)] [false]], [⟨false, [.bool], [false]⟩], false, false, false⟩
def sg61 : Sig := ⟨[.v true qz99 [false, false], .v true qz99 [false, false]], [⟨false, [.bool], [false]⟩], false, false, false⟩
def sg141 : Sig := ⟨[.v true qz69 [false, false], .v true qz69 [false, false]], [⟨false, [.bool], [false]⟩], false, false, false⟩
def sg62 : Sig := ⟨[.v false [(.sl 89 ts_Age)] [false], .v false [(.sl 89 ts_Age)] [false]], [⟨false, [.bool], [false]⟩], false, false, false⟩
def sg142 : Sig := ⟨[.v true qz151 (nf 3), .v true qz151 (nf 3)], [⟨false, [.bool], [false]⟩], false, false, false⟩
def sg63 : Sig := ⟨[.v false [(.sl 95 ts_Cell)] [false], .v false [(.sl 95 ts_Cell)] [false]], [⟨false, [.bool], [false]⟩], false, false, false⟩
def sg143 : Sig := ⟨[.v true qz153 (nf 4), .v true qz153 (nf 4)], [⟨false, [.bool], [false]⟩], false, false, false⟩
def sg64 : Sig := ⟨[.v false [(.sl 91 ts_Vol)] [false], .v false [(.sl 91 ts_Vol)] [false]], [⟨false, [.bool], [false]⟩], false, false, false⟩
def sg15 : Sig := ⟨[.v true qz100 (nf 6), .v true qz100 (nf 6)], [⟨false, [.bool], [false]⟩], false, false, false⟩
def sg14 : Sig := ⟨[.v false [(.sl 5 ts_u8)] [false], .v false [(.sl 5 ts_u8)] [false]], [⟨false, [.bool], [false]⟩], false, false, false⟩
def sg79 : Sig := ⟨[.v false [(.sl 32 ts_s_u8)] [false], .v false [(.sl 32 ts_s_u8)] [false]], [⟨false, [.bool], [false]⟩], false, false, false⟩
def sg162 : Sig := ⟨[.v true qz56 [false, false], .v true qz56 [false, false]], [⟨false, [.bool], [false]⟩], false, false, false⟩
def sg80 : Sig := ⟨[.v false [(.sl 186 ts_Wr)] [false], .v false [(.sl 186 ts_Wr)] [false]], [⟨false, [.bool], [false]⟩], false, false, false⟩
def sg24 : Sig := ⟨[.v true qz111 (nf 4), .v true qz111 (nf 4)], [⟨false, [.bool], [false]⟩], false, false, false⟩
def sg32 : Sig := ⟨[.v true qz112 (nf 13), .v true qz112 (nf 13)], [⟨false, [.bool], [false]⟩], false, false, false⟩
def sg144 : Sig := ⟨[.v false [(.sl 3 ts_i64)] [true], .v false [(.int .i64)] [false]], [⟨false, [(.int .i64)], [false]⟩], false, true, true⟩
def sg254 : Sig := ⟨[.v false [(.sl 106 ts_Key)] [true], .v false [(.int .i64)] [false]], [⟨false, [(.int .i64)], [false]⟩], false, true, true⟩
def sg217 : Sig := ⟨[.v false [(.sl 100 ts_s_Key)] [true], .v false [(.int .i64)] [false]], [⟨false, [(.int .i64)], [false]⟩], false, true, true⟩
def sg145 : Sig := ⟨[.v false [(.sl 98 ts_Node)] [true], .v false [(.int .i64)] [false]], [⟨false, [(.int .i64)], [false]⟩], false, true, true⟩
def sg65 : Sig := ⟨[.v true qz99 [true, true], .v false [(.int .i64)] [false]], [⟨false, [(.int .i64)], [false]⟩], false, true, true⟩
def sg66 : Sig := ⟨[.v false [(.sl 89 ts_Age)] [true], .v false [(.int .i64)] [false]], [⟨false, [(.int .i64)], [false]⟩], false, true, true⟩
def sg67 : Sig := ⟨[.v false [(.sl 95 ts_Cell)] [true], .v false [(.int .i64)] [false]], [⟨false, [(.int .i64)], [false]⟩], false, true, true⟩
def sg146 : Sig := ⟨[.v false [(.int .i64)] [false]], [⟨false, [.str], [false]⟩], false, false, false⟩
def sg68 : Sig := ⟨[.v false [(.sl 91 ts_Vol)] [true], .v false [(.int .i64)] [false]], [⟨false, [(.int .i64)], [false]⟩], false, true, true⟩
def sg16 : Sig := ⟨[.v true qz100 [true, true, true, true, true, false], .v false [(.int .i64)] [false]], [⟨false, [(.int .i64)], [false]⟩], false, true, true⟩
def sg17 : Sig := ⟨[.v false [(.sl 5 ts_u8)] [true], .v false [(.int .i64)] [false]], [⟨false, [(.int .i64)], [false]⟩], false, true, true⟩
def sg81 : Sig := ⟨[.v false [(.sl 32 ts_s_u8)] [true], .v false [(.int .i64)] [false]], [⟨false, [(.int .i64)], [false]⟩], false, true, true⟩
def sg82 : Sig := ⟨[.v false [(.sl 186 ts_Wr)] [true], .v false [(.int .i64)] [false]], [⟨false, [(.int .i64)], [false]⟩], false, true, true⟩
def sg25 : Sig := ⟨[.v true qz111 [true, true, false, false], .v false [(.int .i64)] [false]], [⟨false, [(.int .i64)], [false]⟩], false, true, true⟩
def sg33 : Sig := ⟨[.v true qz112 [true, true, false, false, true, true, true, true, true, false, false, false, false], .v false [(.int .i64)] [false]], [⟨false, [(.int .i64)], [false]⟩], false, true, true⟩
def sg168 : Sig := ⟨[.v false [(.sl 3 ts_i64)] [false], .v false [(.int .i64)] [false]], [⟨false, [(.int .i64)], [false]⟩], false, false, false⟩
def sg255 : Sig := ⟨[.v false [(.sl 106 ts_Key)] [false], .v false [(.int .i64)] [false]], [⟨false, [(.int .i64)], [false]⟩], false, false, false⟩
def sg222 : Sig := ⟨[.v false [(.sl 100 ts_s_Key)] [false], .v false [(.int .i64)] [false]], [⟨false, [(.int .i64)], [false]⟩], false, false, false⟩
def sg169 : Sig := ⟨[.v false [(.sl 98 ts_Node)] [false], .v false [(.int .i64)] [false]], [⟨false, [(.int .i64)], [false]⟩], false, false, false⟩
def sg91 : Sig := ⟨[.v true qz99 [false, false], .v false [(.int .i64)] [false]], [⟨false, [(.int .i64)], [false]⟩], false, false, false⟩
def sg92 : Sig := ⟨[.v false [(.sl 89 ts_Age)] [false], .v false [(.int .i64)] [false]], [⟨false, [(.int .i64)], [false]⟩], false, false, false⟩
def sg93 : Sig := ⟨[.v false [(.sl 95 ts_Cell)] [false], .v false [(.int .i64)] [false]], [⟨false, [(.int .i64)], [false]⟩], false, false, false⟩
def sg94 : Sig := ⟨[.v false [(.sl 91 ts_Vol)] [false], .v false [(.int .i64)] [false]], [⟨false, [(.int .i64)], [false]⟩], false, false, false⟩
def sg29 : Sig := ⟨[.v true qz100 (nf 6), .v false [(.int .i64)] [false]], [⟨false, [(.int .i64)], [false]⟩], false, false, false⟩
def sg18 : Sig := ⟨[.v false [(.sl 5 ts_u8)] [false], .v false [(.int .i64)] [false]], [⟨false, [(.int .i64)], [false]⟩], false, false, false⟩
def sg174 : Sig := ⟨[.v false [(.sl 32 ts_s_u8)] [false], .v false [(.int .i64)] [false]], [⟨false, [(.int .i64)], [false]⟩], false, false, false⟩
def sg175 : Sig := ⟨[.v false [(.sl 186 ts_Wr)] [false], .v false [(.int .i64)] [false]], [⟨false, [(.int .i64)], [false]⟩], false, false, false⟩
def sg99 : Sig := ⟨[.v true qz111 (nf 4), .v false [(.int .i64)] [false]], [⟨false, [(.int .i64)], [false]⟩], false, false, false⟩
def sg34 : Sig := ⟨[.v true qz112 (nf 13), .v false [(.int .i64)] [false]], [⟨false, [(.int .i64)], [false]⟩], false, false, false⟩
def sg117 : Sig := ⟨[.v false [(.sl 3 ts_i64)] [false], .v false [(.int .i64)] [false]], [⟨false, [(.int .i64)], [false]⟩], false, false, false⟩
def sg275 : Sig := ⟨[.v false [(.sl 279 ts_LKey)] [false], .v false [(.int .i64)] [false]], [⟨false, [(.int .i64)], [false]⟩], false, false, false⟩
def sg243 : Sig := ⟨[.v false [(.sl 267 ts_s_LKey)] [false], .v false [(.int .i64)] [false]], [⟨false, [(.int .i64)], [false]⟩], false, false, false⟩
def sg194 : Sig := ⟨[.v true [(.sl 267 ts_s_LKey)] [false], .v false [(.int .i64)] [false]], [⟨false, [(.int .i64)], [false]⟩], false, false, false⟩
def sg118 : Sig := ⟨[.v false [(.sl 216 ts_LNode)] [false], .v false [(.int .i64)] [false]], [⟨false, [(.int .i64)], [false]⟩], false, false, false⟩
def sg43 : Sig := ⟨[.v true qz149 [false, false], .v false [(.int .i64)] [false]], [⟨false, [(.int .i64)], [false]⟩], false, false, false⟩
def sg44 : Sig := ⟨[.v false [(.sl 166 ts_LAge)] [false], .v false [(.int .i64)] [false]], [⟨false, [(.int .i64)], [false]⟩], false, false, false⟩
def sg45 : Sig := ⟨[.v false [(.sl 168 ts_LCell)] [false], .v false [(.int .i64)] [false]], [⟨false, [(.int .i64)], [false]⟩], false, false, false⟩
def sg119 : Sig := ⟨[.v true qz153 (nf 4), .v false [(.int .i64)] [false]], [⟨false, [(.int .i64)], [false]⟩], false, false, false⟩
def sg46 : Sig := ⟨[.v false [(.sl 158 ts_LVol)] [false], .v false [(.int .i64)] [false]], [⟨false, [(.int .i64)], [false]⟩], false, false, false⟩
def sg10 : Sig := ⟨[.v true qz155 (nf 6), .v false [(.int .i64)] [false]], [⟨false, [(.int .i64)], [false]⟩], false, false, false⟩
def sg147 : Sig := ⟨[.v false [(.sl 5 ts_u8)] [false], .v false [(.int .i64)] [false]], [⟨false, [(.int .i64)], [false]⟩], false, false, false⟩
def sg69 : Sig := ⟨[.v false [(.sl 32 ts_s_u8)] [false], .v false [(.int .i64)] [false]], [⟨false, [(.int .i64)], [false]⟩], false, false, false⟩
def sg148 : Sig := ⟨[.v true qz56 [false, false], .v false [(.int .i64)] [false]], [⟨false, [(.int .i64)], [false]⟩], false, false, false⟩
def sg70 : Sig := ⟨[.v false [(.sl 181 ts_LWr)] [false], .v false [(.int .i64)] [false]], [⟨false, [(.int .i64)], [false]⟩], false, false, false⟩
def sg19 : Sig := ⟨[.v true qz159 (nf 4), .v false [(.int .i64)] [false]], [⟨false, [(.int .i64)], [false]⟩], false, false, false⟩
def sg35 : Sig := ⟨[.v true qz160 (nf 13), .v false [(.int .i64)] [false]], [⟨false, [(.int .i64)], [false]⟩], false, false, false⟩
def sg227 : Sig := ⟨[.v true [(.sl 100 ts_s_Key)] [false]], [⟨true, [(.sl 100 ts_s_Key)], [true]⟩], false, false, false⟩
def sg185 : Sig := ⟨[.v true qz99 [false, false]], [⟨true, qz99, [true, true]⟩], false, false, false⟩
def sg186 : Sig := ⟨[.v false [(.sl 95 ts_Cell)] [false]], [⟨false, [(.sl 95 ts_Cell)], [true]⟩], false, false, false⟩
def sg114 : Sig := ⟨[.v true qz100 (nf 6)], [⟨true, qz100, [true, true, true, true, true, false]⟩], false, false, false⟩
def sg176 : Sig := ⟨[.v true qz111 (nf 4)], [⟨true, qz111, [true, true, false, false]⟩], false, false, false⟩
def sg100 : Sig := ⟨[.v true qz112 (nf 13)], [⟨true, qz112, [true, true, false, false, true, true, true, true, true, false, false, false, false]⟩], false, false, false⟩
def sg107 : Sig := ⟨[.v false [(.int .i64)] [false], .v false [(.int .i64)] [false], .v false [(.int .i64)] [false]], [⟨false, [.bool], [false]⟩], false, false, false⟩
def sg235 : Sig := ⟨[.v false [(.sl 106 ts_Key)] [false]], [⟨false, [(.sl 106 ts_Key)], [true]⟩], false, false, false⟩
def sg266 : Sig := ⟨[.v true qz120 (nf 5), .v true qz120 (nf 5)], [⟨false, [.bool], [false]⟩], false, false, false⟩
def sg267 : Sig := ⟨[.v true qz120 (nf 5), .v true qz120 (nf 5)], [⟨false, [.bool], [false]⟩], false, false, false⟩
def sg236 : Sig := ⟨[.v false [(.sl 106 ts_Key)] [false], .v true qz120 (nf 5)], [⟨false, [(.sl 106 ts_Key)], [true]⟩], false, false, false⟩
def sg261 : Sig := ⟨[.v false [(.sl 106 ts_Key)] [false], .v false [(.sl 106 ts_Key)] [false]], [⟨false, [(.sl 106 ts_Key)], [true]⟩], false, false, false⟩
def sg230 : Sig := ⟨[.v true [(.sl 100 ts_s_Key)] [false]], [⟨false, [(.sl 106 ts_Key)], [true]⟩], false, false, false⟩
def sg188 : Sig := ⟨[.v true qz99 [false, false]], [⟨false, [(.sl 106 ts_Key)], [true]⟩], false, false, false⟩
def sg264 : Sig := ⟨[.v false [(.int .i64)] [false], .v false [(.int .i64)] [false]], [⟨false, [(.int .i64)], [false]⟩], false, false, false⟩
def sg237 : Sig := ⟨[.v true qz120 (nf 5)], [⟨false, [(.int .i64)], [false]⟩], false, false, false⟩
def sg202 : Sig := ⟨[.v true qz120 (nf 5)], [⟨false, [.bool], [false]⟩], false, false, false⟩
def sg300 : Sig := ⟨[.v false [(.sl 106 ts_Key)] [false]], [⟨false, [.bool], [false]⟩], false, false, false⟩
def sg276 : Sig := ⟨[.v false [(.sl 106 ts_Key)] [false]], [⟨false, [.bool], [false]⟩], false, false, false⟩
def sg277 : Sig := ⟨[.v true [(.sl 100 ts_s_Key)] [false]], [⟨false, [(.int .i64)], [false]⟩], false, false, false⟩
def sg244 : Sig := ⟨[.v true [(.sl 100 ts_s_Key)] [false]], [⟨false, [.bool], [false]⟩], false, false, false⟩
def sg195 : Sig := ⟨[.v true qz99 [false, false], .v false [(.int .i64)] [false]], [⟨false, [.bool], [false]⟩], false, false, false⟩
def sg120 : Sig := ⟨[.v true qz99 [false, false]], [⟨false, [.bool], [false]⟩], false, false, false⟩
def sg196 : Sig := ⟨[.v false [(.sl 89 ts_Age)] [false], .v false [(.int .i64)] [false]], [⟨false, [(.int .i64)], [false]⟩], false, false, false⟩
def sg121 : Sig := ⟨[.v false [(.sl 89 ts_Age)] [false]], [⟨false, [.bool], [false]⟩], false, false, false⟩
def sg197 : Sig := ⟨[.v false [(.int .i64)] [false]], [⟨false, [.bool], [false]⟩], false, false, false⟩
def sg122 : Sig := ⟨[.v false [(.sl 95 ts_Cell)] [false]], [⟨false, [.bool], [false]⟩], false, false, false⟩
def sg198 : Sig := ⟨[.v false [.str] [false]], [⟨false, [.bool], [false]⟩], false, false, false⟩
def sg199 : Sig := ⟨[.v false [(.sl 89 ts_Age)] [false], .v false [(.int .i64)] [false]], [⟨false, [(.sl 3 ts_i64)], [true]⟩], false, false, false⟩
def sg123 : Sig := ⟨[.v true qz100 (nf 6)], [⟨false, [.bool], [false]⟩], false, false, false⟩
def sg200 : Sig := ⟨[.v false [(.sl 95 ts_Cell)] [false], .v false [(.int .i64)] [false], .v false [(.int .i64)] [false]], [⟨false, [(.int .i64)], [false]⟩, ⟨false, [.bool], [false]⟩], false, false, false⟩
def sg201 : Sig := ⟨[.v false [(.sl 95 ts_Cell)] [false]], [⟨false, [(.int .i64)], [false]⟩], false, false, false⟩
def sg124 : Sig := ⟨[.v true qz100 (nf 6)], [⟨false, [.bool], [false]⟩], false, false, false⟩
def sg47 : Sig := ⟨[.v true qz100 (nf 6)], [⟨false, [.bool], [false]⟩], false, false, false⟩
def sg153 : Sig := ⟨[.v true qz111 (nf 4)], [⟨false, [.bool], [false]⟩], false, false, false⟩
def sg106 : Sig := ⟨[.v true qz112 (nf 13)], [⟨false, [.bool], [false]⟩], false, false, false⟩
def sg101 : Sig := ⟨[.v true qz112 (nf 13)], [⟨false, [.bool], [false]⟩], false, false, false⟩
def sg100001 : Sig := ⟨[.p (some 1000000000) qz112 [true, true, false, false, true, true, true, true, true, false, false, false, false]], [⟨false, [.bool], [false]⟩], false, false, false⟩
def sg100000 : Sig := ⟨[.p (some 1000000000) qz112 [true, true, false, false, true, true, true, true, true, false, false, false, false]], [], false, false, false⟩
def sg36 : Sig := ⟨[.v true qz112 (nf 13)], [⟨true, qz112, [true, true, false, false, true, true, true, true, true, false, false, false, false]⟩], false, false, false⟩
def sg126 : Sig := ⟨[.v false [(.sl 3 ts_i64)] [false]], [⟨false, [(.sl 3 ts_i64)], [true]⟩], false, true, false⟩
def sg301 : Sig := ⟨[.v true qz120 (nf 5)], [⟨true, qz120, (nf 5)⟩], false, true, false⟩
def sg278 : Sig := ⟨[.v false [(.sl 279 ts_LKey)] [false]], [⟨false, [(.sl 106 ts_Key)], [true]⟩], false, true, false⟩
def sg245 : Sig := ⟨[.v false [(.sl 267 ts_s_LKey)] [false]], [⟨false, [(.sl 100 ts_s_Key)], [true]⟩], false, true, false⟩
def sg203 : Sig := ⟨[.v true [(.sl 267 ts_s_LKey)] [false]], [⟨true, [(.sl 100 ts_s_Key)], [true]⟩], false, true, false⟩
def sg127 : Sig := ⟨[.v false [(.sl 216 ts_LNode)] [false]], [⟨false, [(.sl 98 ts_Node)], [true]⟩], false, true, false⟩
def sg52 : Sig := ⟨[.v true qz149 [false, false]], [⟨true, qz99, [true, true]⟩], false, true, false⟩
def sg128 : Sig := ⟨[.v true qz69 [false, false]], [⟨true, qz69, [false, false]⟩], false, true, false⟩
def sg53 : Sig := ⟨[.v false [(.sl 166 ts_LAge)] [false]], [⟨false, [(.sl 89 ts_Age)], [true]⟩], false, true, false⟩
def sg129 : Sig := ⟨[.v true qz151 (nf 3)], [⟨true, qz151, (nf 3)⟩], false, true, false⟩
def sg54 : Sig := ⟨[.v false [(.sl 168 ts_LCell)] [false]], [⟨false, [(.sl 95 ts_Cell)], [true]⟩], false, true, false⟩
def sg130 : Sig := ⟨[.v true qz153 (nf 4)], [⟨true, qz153, (nf 4)⟩], false, true, false⟩
def sg55 : Sig := ⟨[.v false [(.sl 158 ts_LVol)] [false]], [⟨false, [(.sl 91 ts_Vol)], [true]⟩], false, true, false⟩
def sg12 : Sig := ⟨[.v true qz155 (nf 6)], [⟨true, qz100, [true, true, true, true, true, false]⟩], false, true, false⟩
def sg27 : Sig := ⟨[.v false [(.sl 5 ts_u8)] [false]], [⟨false, [(.sl 5 ts_u8)], [true]⟩], false, true, false⟩
def sg74 : Sig := ⟨[.v false [(.sl 32 ts_s_u8)] [false]], [⟨false, [(.sl 32 ts_s_u8)], [true]⟩], false, true, false⟩
def sg155 : Sig := ⟨[.v true qz56 [false, false]], [⟨true, qz56, [false, true]⟩], false, true, false⟩
def sg75 : Sig := ⟨[.v false [(.sl 181 ts_LWr)] [false]], [⟨false, [(.sl 186 ts_Wr)], [true]⟩], false, true, false⟩
def sg21 : Sig := ⟨[.v true qz159 (nf 4)], [⟨true, qz111, [true, true, false, false]⟩], false, true, false⟩
def sg37 : Sig := ⟨[.v true qz160 (nf 13)], [⟨true, qz112, [true, true, false, false, true, true, true, true, true, false, false, false, false]⟩], false, true, false⟩
def sg137 : Sig := ⟨[.v false [(.sl 32 ts_s_u8)] [false]], [⟨false, [(.sl 5 ts_u8)], [true]⟩], false, false, false⟩
def sg178 : Sig := ⟨[.v true qz111 (nf 4)], [⟨true, qz111, [true, true, false, false]⟩], false, true, false⟩
def sg256 : Sig := ⟨[.v false [(.sl 3 ts_i64)] [false]], [⟨false, [(.sl 3 ts_i64)], [true]⟩], false, false, false⟩
def sg280 : Sig := ⟨[.v false [(.sl 106 ts_Key)] [false]], [⟨false, [(.sl 106 ts_Key)], [true]⟩], false, false, false⟩
def sg257 : Sig := ⟨[.v true [(.sl 100 ts_s_Key)] [false]], [⟨true, [(.sl 100 ts_s_Key)], [true]⟩], false, true, false⟩
def sg223 : Sig := ⟨[.v true qz99 [false, false]], [⟨true, qz99, [true, true]⟩], false, true, false⟩
def sg224 : Sig := ⟨[.v false [(.sl 89 ts_Age)] [false]], [⟨false, [(.sl 89 ts_Age)], [true]⟩], false, false, false⟩
def sg225 : Sig := ⟨[.v false [(.sl 95 ts_Cell)] [false]], [⟨false, [(.sl 95 ts_Cell)], [true]⟩], false, false, false⟩
def sg179 : Sig := ⟨[.v true qz100 (nf 6)], [⟨true, qz100, [true, true, true, true, true, false]⟩], false, true, false⟩
def sg103 : Sig := ⟨[.v true qz112 (nf 13)], [⟨true, qz112, [true, true, false, false, true, true, true, true, true, false, false, false, false]⟩], false, true, false⟩
def sg134 : Sig := ⟨[.v false [(.int .i64)] [false], .v false [(.int .i64)] [false], .v false [(.int .i64)] [false]], [⟨false, [.bool], [false]⟩], false, false, false⟩
def sg138 : Sig := ⟨[.v true qz120 (nf 5)], [⟨false, [.bool], [false]⟩], false, false, false⟩
def sg279 : Sig := ⟨[.v true qz120 (nf 5), .v true qz120 (nf 5)], [⟨false, [.bool], [false]⟩], false, false, false⟩
def sg246 : Sig := ⟨[.v false [(.sl 106 ts_Key)] [false]], [⟨false, [.bool], [false]⟩], false, false, false⟩
def sg204 : Sig := ⟨[.v true [(.sl 100 ts_s_Key)] [false]], [⟨false, [.bool], [false]⟩], false, false, false⟩
def sg247 : Sig := ⟨[.v false [(.int .i64)] [false], .v false [(.int .i64)] [false]], [⟨false, [(.int .i64)], [false]⟩], false, false, false⟩
def sg205 : Sig := ⟨[.v true qz99 [false, false], .v false [(.int .i64)] [false]], [⟨false, [.bool], [false]⟩], false, false, false⟩
def sg302 : Sig := ⟨[.v true qz120 (nf 5), .v true qz120 (nf 5)], [⟨false, [.bool], [false]⟩], false, false, false⟩
def sg281 : Sig := ⟨[.v false [(.sl 106 ts_Key)] [false], .v true qz120 (nf 5)], [⟨false, [(.sl 106 ts_Key)], [true]⟩], false, false, false⟩
def sg248 : Sig := ⟨[.v false [(.sl 106 ts_Key)] [false], .v false [(.sl 106 ts_Key)] [false]], [⟨false, [(.sl 106 ts_Key)], [true]⟩], false, false, false⟩
def sg249 : Sig := ⟨[.v false [(.sl 106 ts_Key)] [false]], [⟨false, [(.sl 106 ts_Key)], [true]⟩], false, false, false⟩
def sg206 : Sig := ⟨[.v true [(.sl 100 ts_s_Key)] [false]], [⟨false, [(.sl 106 ts_Key)], [true]⟩], false, false, false⟩
def sg131 : Sig := ⟨[.v true qz99 [false, false]], [⟨false, [.bool], [false]⟩], false, false, false⟩
def sg251 : Sig := ⟨[.v true qz69 [false, false], .p none [(.int .i64)] [false]], [⟨false, [.bool], [false]⟩], false, false, false⟩
def sg100002 : Sig := ⟨[.v false [(.sl 89 ts_Age)] [false], .p (some 251) [(.int .i64)] [false]], [⟨false, [(.int .i64)], [false]⟩], false, false, false⟩
def sg207 : Sig := ⟨[.v false [(.sl 89 ts_Age)] [false], .v false [(.int .i64)] [false]], [⟨false, [(.int .i64)], [false]⟩], false, false, false⟩
def sg132 : Sig := ⟨[.v false [(.sl 89 ts_Age)] [false]], [⟨false, [.bool], [false]⟩], false, false, false⟩
def sg208 : Sig := ⟨[.v false [(.int .i64)] [false]], [⟨false, [.bool], [false]⟩], false, false, false⟩
def sg133 : Sig := ⟨[.v false [(.sl 95 ts_Cell)] [false]], [⟨false, [.bool], [false]⟩], false, false, false⟩
def sg209 : Sig := ⟨[.v false [.str] [false]], [⟨false, [.bool], [false]⟩], false, false, false⟩
def sg210 : Sig := ⟨[.v false [(.sl 89 ts_Age)] [false], .v false [(.int .i64)] [false]], [⟨false, [(.sl 3 ts_i64)], [true]⟩], false, false, false⟩
def sg212 : Sig := ⟨[.v true qz153 (nf 4), .p none qz153 (nf 4)], [⟨false, [.bool], [false]⟩], false, false, false⟩
def sg100004 : Sig := ⟨[.v false [(.sl 91 ts_Vol)] [false], .p (some 212) qz153 (nf 4)], [⟨false, [(.int .i64)], [false]⟩], false, false, false⟩
def sg100003 : Sig := ⟨[.v false [(.sl 91 ts_Vol)] [false], .p (some 212) qz153 (nf 4)], [⟨false, [.bool], [false]⟩], false, false, false⟩
def sg135 : Sig := ⟨[.v true qz100 (nf 6)], [⟨false, [.bool], [false]⟩], false, false, false⟩
def sg213 : Sig := ⟨[.v true qz99 [false, false]], [⟨false, [(.sl 106 ts_Key)], [true]⟩], false, false, false⟩
def sg214 : Sig := ⟨[.v false [(.sl 95 ts_Cell)] [false], .v false [(.int .i64)] [false], .v false [(.int .i64)] [false]], [⟨false, [(.int .i64)], [false]⟩, ⟨false, [.bool], [false]⟩], false, false, false⟩
def sg215 : Sig := ⟨[.v false [(.sl 95 ts_Cell)] [false]], [⟨false, [(.int .i64)], [false]⟩], false, false, false⟩
def sg136 : Sig := ⟨[.v true qz100 (nf 6)], [⟨false, [.bool], [false]⟩], false, false, false⟩
def sg56 : Sig := ⟨[.v true qz100 (nf 6)], [⟨false, [.bool], [false]⟩], false, false, false⟩
def sg160 : Sig := ⟨[.v true qz111 (nf 4)], [⟨false, [.bool], [false]⟩], false, false, false⟩
def sg109 : Sig := ⟨[.v true qz112 (nf 13), .v false [(.int .i64)] [false]], [⟨false, [.bool], [false]⟩], false, false, false⟩
def sg104 : Sig := ⟨[.v true qz112 (nf 13)], [⟨false, [.bool], [false]⟩], false, false, false⟩
def sg180 : Sig := ⟨[.v true qz111 [true, true, false, false]], [⟨true, qz111, [true, true, false, false]⟩, ⟨false, [.bool], [false]⟩], false, true, false⟩
def sg105 : Sig := ⟨[.v true qz111 (nf 4)], [⟨true, qz111, [true, true, false, false]⟩], false, true, false⟩
def sg38 : Sig := ⟨[.v true qz112 (nf 13)], [⟨true, qz112, [true, true, false, false, true, true, true, true, true, false, false, false, false]⟩], false, true, false⟩
def sg7 : Sig := ⟨[.v true qz160 (nf 13)], [⟨false, [.bool], [false]⟩], false, false, false⟩
def sigL : List (Nat × Sig) := [(139, sg139), (303, sg303), (282, sg282), (253, sg253), (216, sg216), (140, sg140), (61, sg61), (141, sg141), (62, sg62), (142, sg142), (63, sg63), (143, sg143), (64, sg64), (15, sg15), (14, sg14), (79, sg79), (162, sg162), (80, sg80), (24, sg24), (32, sg32), (144, sg144), (254, sg254), (217, sg217), (145, sg145), (65, sg65), (66, sg66), (67, sg67), (146, sg146), (68, sg68), (16, sg16), (17, sg17), (81, sg81), (82, sg82), (25, sg25), (33, sg33), (168, sg168), (255, sg255), (222, sg222), (169, sg169), (91, sg91), (92, sg92), (93, sg93), (94, sg94), (29, sg29), (18, sg18), (174, sg174), (175, sg175), (99, sg99), (34, sg34), (117, sg117), (275, sg275), (243, sg243), (194, sg194), (118, sg118), (43, sg43), (44, sg44), (45, sg45), (119, sg119), (46, sg46), (10, sg10), (147, sg147), (69, sg69), (148, sg148), (70, sg70), (19, sg19), (35, sg35), (227, sg227), (185, sg185), (186, sg186), (114, sg114), (176, sg176), (100, sg100), (107, sg107), (235, sg235), (266, sg266), (267, sg267), (236, sg236), (261, sg261), (230, sg230), (188, sg188), (264, sg264), (237, sg237), (202, sg202), (300, sg300), (276, sg276), (277, sg277), (244, sg244), (195, sg195), (120, sg120), (196, sg196), (121, sg121), (197, sg197), (122, sg122), (198, sg198), (199, sg199), (123, sg123), (200, sg200), (201, sg201), (124, sg124), (47, sg47), (153, sg153), (106, sg106), (101, sg101), (100001, sg100001), (100000, sg100000), (36, sg36), (126, sg126), (301, sg301), (278, sg278), (245, sg245), (203, sg203), (127, sg127), (52, sg52), (128, sg128), (53, sg53), (129, sg129), (54, sg54), (130, sg130), (55, sg55), (12, sg12), (27, sg27), (74, sg74), (155, sg155), (75, sg75), (21, sg21), (37, sg37), (137, sg137), (178, sg178), (256, sg256), (280, sg280), (257, sg257), (223, sg223), (224, sg224), (225, sg225), (179, sg179), (103, sg103), (134, sg134), (138, sg138), (279, sg279), (246, sg246), (204, sg204), (247, sg247), (205, sg205), (302, sg302), (281, sg281), (248, sg248), (249, sg249), (206, sg206), (131, sg131), (251, sg251), (100002, sg100002), (207, sg207), (132, sg132), (208, sg208), (133, sg133), (209, sg209), (210, sg210), (212, sg212), (100004, sg100004), (100003, sg100003), (135, sg135), (213, sg213), (214, sg214), (215, sg215), (136, sg136), (56, sg56), (160, sg160), (109, sg109), (104, sg104), (180, sg180), (105, sg105), (38, sg38), (7, sg7)]
def liveL : List (Nat × (List Nat × List Nat)) := [
 (13900004, [0, 1, 5], [4]),
 (28200004, [0, 1, 5], [4]),
 (25300004, [0, 1, 5], [4]),
 (14000004, [0, 1, 5], [4]),
 (6200004, [0, 1, 5], [4]),
 (6300004, [0, 1, 5], [4]),
 (6400004, [0, 1, 5], [4]),
 (1400004, [0, 1, 5], [4]),
 (7900004, [0, 1, 5], [4]),
 (8000004, [0, 1, 5], [4]),
 (14400002, [0, 1, 5], [0, 1]),
 (25400002, [0, 1, 5], [0, 1]),
 (21700002, [0, 1, 5], [0, 1]),
 (14500002, [0, 1, 5], [0, 1]),
 (6600002, [0, 1, 5], [0, 1]),
 (6700002, [0, 1, 5], [0, 1]),
 (14600004, [0, 3], [3]),
 (6800002, [0, 1, 5], [0, 1]),
 (1700002, [0, 1, 5], [0, 1]),
 (8100002, [0, 1, 5], [0, 1]),
 (8200002, [0, 1, 5], [0, 1]),
 (16800002, [0, 1, 5], [1, 4]),
 (25500002, [0, 1, 5], [1, 4]),
 (22200002, [0, 1, 5], [1, 4]),
 (16900002, [0, 1, 5], [1, 4]),
 (9200002, [0, 1, 5], [1, 4]),
 (9300002, [0, 1, 5], [1, 4]),
 (9400002, [0, 1, 5], [1, 4]),
 (1800002, [0, 1, 5], [1, 4]),
 (17400002, [0, 1, 5], [1, 4]),
 (17500002, [0, 1, 5], [1, 4]),
 (24300005, [0, 1, 5], [1, 4]),
 (11800005, [0, 1, 5], [1, 4]),
 (4600005, [0, 1, 5], [1, 4]),
 (6900005, [0, 1, 5], [1, 4]),
 (7000005, [0, 1, 5], [1, 4]),
 (22700003, [1, 2, 3, 4], [2, 3]),
 (18500003, [1, 2, 3, 4], [2, 3]),
 (17600003, [1, 2, 3, 4], [1, 2, 3]),
 (17600007, [1, 2, 3, 5], [2, 3]),
 (23500003, [0, 3, 4], [3]),
 (23600004, [0, 3, 5, 6, 7, 18, 19, 20, 21, 22, 23, 24], [3, 5, 6]),
 (26100003, [1, 5, 6], [5]),
 (23000003, [1, 3, 4], [3]),
 (18800003, [1, 3, 4], [3]),
 (30000002, [0, 3], [2]),
 (27600002, [0, 3, 19, 20, 21], [0, 2, 19, 20, 21]),
 (27700003, [1, 3, 4], [3]),
 (24400002, [1, 3, 19, 20, 21, 22, 23, 24, 25, 32, 33, 34], [1, 2, 32, 33, 34]),
 (19500005, [1, 2, 5, 6, 61, 62, 63, 64, 65, 66, 67, 68, 69, 70, 71, 72, 73, 74, 75, 76], [4]),
 (19500008, [1, 2, 5, 6, 7, 61, 62, 63, 64, 65, 66, 67, 68, 69, 70, 71, 72, 73, 74, 75, 76], [1, 2, 4, 5, 6, 61, 62, 63, 64, 65, 66, 67, 68, 69, 70, 71, 72, 73, 74, 75, 76]),
 (12000004, [1, 3, 35, 36, 37, 38, 39, 40, 41, 42, 43, 44, 45, 46, 49, 50, 51, 52], [1, 2]),
 (19600002, [0, 1, 5], [4]),
 (12100002, [0, 3, 18, 19, 20, 21, 22, 23, 24, 25, 26, 27, 28, 29, 30, 31, 32, 33, 42, 43, 44, 45, 46, 47, 48, 49, 50, 51], [0, 2]),
 (12200002, [0, 3, 18, 19, 20, 21, 22, 23, 24, 27, 28, 29, 30, 31, 32, 33, 34, 35, 36, 37, 38, 39, 40], [0, 2]),
 (19800002, [0, 3, 17, 18, 19, 20, 21, 22], [0, 2]),
 (19900003, [0, 1, 5, 6, 22, 23], [5]),
 (12300002, [1, 3, 23, 24, 25, 26, 29, 30, 31, 32, 33, 34, 37, 38, 39, 40, 41, 42, 43, 46, 47, 48, 49, 50, 51, 52, 53, 54, 55, 56, 57, 58, 59], [1, 2]),
 (12300008, [1, 3, 4, 5, 23, 24, 25, 26, 29, 30, 31, 32, 33, 34, 37, 38, 39, 40, 41, 42, 43, 46, 47, 48, 49, 50, 51, 52, 53, 54, 55, 56, 57, 58, 59], [1, 2, 3, 23, 24, 25, 26, 29, 30, 31, 32, 33, 34, 37, 38, 39, 40, 41, 42, 43, 46, 47, 48, 49, 50, 51, 52, 53, 54, 55, 56, 57, 58, 59]),
 (20100003, [0, 3, 4], [3]),
 (12400004, [1, 3, 4, 5, 65, 66, 67, 68, 69, 70, 71, 72, 73, 74, 75], [1, 2, 4]),
 (12400014, [1, 3, 4, 5, 8, 65, 66, 67, 68, 69, 70, 71, 72, 73, 74, 75], [1, 2, 3, 4, 5, 65, 66, 67, 68, 69, 70, 71, 72, 73, 74, 75]),
 (4700002, [1, 3, 24, 25, 26, 29, 30, 31, 34, 35, 36, 39, 40, 43, 44], [1, 2, 24, 25, 26, 29, 30, 31, 34, 35, 36, 39, 40, 43, 44]),
 (15300002, [1, 3, 39, 40, 41, 42, 43, 44, 45, 46, 53, 54, 55, 56, 59, 60, 61], [1, 2, 39, 40, 41, 42, 43, 44, 45, 46, 53, 54, 55, 56, 59, 60, 61]),
 (15300007, [1, 4, 39, 40, 41, 42, 43, 44, 45, 46, 53, 54, 55, 56, 59, 60, 61], [1, 2, 53, 54, 55, 56, 59, 60, 61]),
 (10000000002, [0, 2], [0]),
 (12600003, [0, 3, 4], [3]),
 (27800003, [0, 3, 4], [3]),
 (24500003, [0, 3, 4], [3]),
 (12700003, [0, 3, 4], [3]),
 (5300003, [0, 3, 4], [3]),
 (5400003, [0, 3, 4], [3]),
 (5500003, [0, 3, 4], [3]),
 (2700003, [0, 3, 4], [3]),
 (7400003, [0, 3, 4], [3]),
 (7500003, [0, 3, 4], [3]),
 (13700003, [3, 7, 8, 9], [3]),
 (17800003, [1, 2, 3, 14, 15, 16], [1, 2, 3]),
 (17800008, [2, 3, 30, 31, 32], [2, 3]),
 (25700003, [2, 3, 8, 9, 10], [2, 3]),
 (22300003, [2, 3, 11, 12, 13], [2, 3]),
 (24600002, [0, 5, 6, 7, 16, 17, 18, 19, 20, 21, 22, 23, 24, 25, 26, 27], [0, 2]),
 (20400003, [1, 3, 7, 8, 9, 17, 18, 19, 31, 32], [1, 2, 3, 31, 32]),
 (20500002, [1, 2, 15, 16, 17, 40, 41, 42, 43, 44, 45, 46, 47, 48, 49, 50, 51, 52, 53, 54, 55], [4]),
 (20500005, [1, 2, 15, 16, 17, 21, 22, 23, 40, 41, 42, 43, 44, 45, 46, 47, 48, 49, 50, 51, 52, 53, 54, 55], [1, 2, 4, 15, 16, 17, 40, 41, 42, 43, 44, 45, 46, 47, 48, 49, 50, 51, 52, 53, 54, 55]),
 (28100004, [3, 5, 6, 10, 11, 12, 19, 20, 21, 22], [3, 5, 6]),
 (24800003, [5, 10, 11, 12], [5]),
 (24900003, [3, 7, 8, 9], [3]),
 (20600003, [3, 8, 9, 10], [3]),
 (13100005, [1, 3, 29, 30, 31, 39, 40, 41, 42, 43, 44, 45, 46, 47, 48, 49, 50, 53, 54, 55, 58, 59, 60, 61, 69, 70], [2, 3]),
 (10000200002, [0, 1, 7, 8], [1, 4]),
 (13200002, [0, 5, 6, 7, 17, 18, 19, 20, 21, 22, 23, 24, 25, 26, 27, 28, 29, 32, 33, 34, 35, 36, 37, 38, 39, 40, 41, 42, 43], [0, 2]),
 (13300002, [0, 5, 6, 7, 16, 17, 18, 19, 22, 23, 24, 25, 26, 27, 28, 29], [0, 2]),
 (20900002, [0, 3, 17, 18, 19, 20, 21, 22], [0, 2]),
 (21000005, [1, 5, 12, 13, 14], [5]),
 (10000400002, [0, 1, 7, 8], [1, 4]),
 (13500002, [1, 6, 7, 8, 18, 19, 20, 21, 22, 23, 24, 25, 26, 27, 28, 29, 30, 31, 34, 35, 36, 37, 46, 47, 48, 49, 50, 51, 52], [1, 2]),
 (21300003, [3, 8, 9, 10], [3]),
 (21500003, [3, 6, 7, 8], [3]),
 (13600004, [1, 3, 4, 12, 13, 14, 40, 41, 42, 43, 44], [1, 2, 4]),
 (5600004, [1, 28, 29, 30, 43, 44], [1, 2, 43, 44]),
 (16000004, [1, 25, 26, 27, 51, 52, 53, 54], [1, 2, 51, 52, 53, 54]),
 (16000010, [1, 36, 37, 38, 51, 52, 53, 54], [2]),
 (10500008, [2, 3, 26, 27, 28], [2, 3])]
def keyL : List (Nat × List Nat × Nat) := [(102, [2001300000], 100000), (177, [2001300000], 100001), (250, [251], 100002), (211, [212], 100003), (252, [212], 100004)]
def hintL : List (Nat × List Nat) := [(227, [22]), (185, [25]), (176, [27, 54]), (245, [100007]), (127, [100007]), (74, [100007]), (75, [100007]), (178, [100025, 100026, 100045, 100046]), (257, [100018, 100019]), (223, [100021, 100022]), (105, [100031])]
def C : Ctx := { info := lookN infoL, sig := lookN sigL, live := fun f i => lookN liveL (100000 * f + i), key := keyNo keyL, fid := fidNo keyL, hint := hintNo hintL }
theorem tok : TOk C Tryz.prog := tok_of (l := infoL) rfl (by kernel_rfl)
theorem mixed : Tryz.prog.follows .mixedOrders = true := by kernel_rfl
abbrev QF := Qf C Tryz.prog
abbrev EV (l : List QF) (lp : Lp) (n : Nat) (fn : Func) (sg : Sig) (ins outs : List Ty) (F : Elts ins → Option (Elts outs)) : Prop := ∀ x, evalB C (tabQ l) lp n fn (bodyOf fn) sg ins outs x = F x
abbrev LF (l : List QF) (lp : Lp) (n i : Nat) (fn : Func) (k : Nat) {T V : Type} (e : T → St) (g : Gk T) (inj : V → T) : Prop := LC C (tabQ l) lp n i (cL fn k) e g inj
abbrev LK (l : List QF) (lp : Lp) (n : Nat) (fn : Func) (k : Nat) : Prop := LoopOk C (tabQ l) lp n (cL fn k)
theorem okN {l : List QF} {lp : Lp} {f g : Nat} {fn : Func} {sg : Sig} {n : Nat} (hfn : Tryz.prog.funcs[g]? = some fn) (hl : AllK (LoopOk C (tabQ l) lp f) (loopsOf (bodyOf fn)) n 0) {F : Elts (C.ins f) → Option (Elts (C.outs f))} (hF : ∀ x, evalB C (tabQ l) lp f fn (bodyOf fn) sg (C.ins f) (C.outs f) x = F x) (hsig : C.sig f = some sg := by kernel_rfl) (hB : fnB C f g fn sg n = true := by kernel_rfl) : ContractAt C Tryz.prog f F := fn_ok tok mixed hfn hsig hB hl hF
theorem lkN {call : C.Sem} {lp : Lp} {f i : Nat} {c : Code} {T : Type} {e : T → St} {u : St → Option T} {g : Gk T} (hu : ∀ s t, u s = some t → e t = s) (hc : LC C call lp f i c e @g (fun t => t)) (hl : laB C f i c = true := by kernel_rfl) (hb : LB lp i u @g := by intro R κ s; kernel_rfl) : LoopOk C call lp f c := loop_okG hl hu hb hc
end Go.Proofs.YtmapoakbdgpamaaGreat.XM
