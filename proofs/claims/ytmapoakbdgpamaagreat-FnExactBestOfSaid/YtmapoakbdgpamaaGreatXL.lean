/- The context of the evaluator for L: types, signatures, slots that live at loops; by a program (dec.py). No condition. -/
import Derived.Test.YtmapoakbdgpamaaGreatProg
import Derived.Test.YtmapoakbdgpamaaGreatRRow
import Derived.KernelRfl
set_option linter.all false
namespace Go.Proofs.YtmapoakbdgpamaaGreat.XL
open Go.Proofs.YtmapoakbdgpamaaGreat.R
set_option maxRecDepth 100000
abbrev ts_i64 : List Ty := [(.int .i64)]
abbrev E_i64 : Type := Int
abbrev z_i64 : E_i64 := zeroE ts_i64
abbrev rd_i64 (xs : List E_i64) (i : Int) : E_i64 := rdE ts_i64 xs i
def v_i64 (x : List E_i64) : A := .val (.sl 3 ts_i64) x
abbrev ts_u8 : List Ty := [(.int .u8)]
abbrev E_u8 : Type := Int
abbrev z_u8 : E_u8 := zeroE ts_u8
abbrev rd_u8 (xs : List E_u8) (i : Int) : E_u8 := rdE ts_u8 xs i
def v_u8 (x : List E_u8) : A := .val (.sl 5 ts_u8) x
abbrev ts_Key : List Ty := [(.int .i64), (.int .i64), (.int .i64), (.int .i64), (.int .i64)]
abbrev E_Key : Type := Int × Int × Int × Int × Int
abbrev z_Key : E_Key := zeroE ts_Key
abbrev rd_Key (xs : List E_Key) (i : Int) : E_Key := rdE ts_Key xs i
def v_Key (x : List E_Key) : A := .val (.sl 106 ts_Key) x
abbrev ts_s_Key : List Ty := [(.sl 106 ts_Key)]
abbrev E_s_Key : Type := List E_Key
abbrev z_s_Key : E_s_Key := zeroE ts_s_Key
abbrev rd_s_Key (xs : List E_s_Key) (i : Int) : E_s_Key := rdE ts_s_Key xs i
def v_s_Key (x : List E_s_Key) : A := .val (.sl 100 ts_s_Key) x
abbrev ts_Node : List Ty := [(.sl 100 ts_s_Key)]
abbrev E_Node : Type := List E_s_Key
abbrev z_Node : E_Node := zeroE ts_Node
abbrev rd_Node (xs : List E_Node) (i : Int) : E_Node := rdE ts_Node xs i
def v_Node (x : List E_Node) : A := .val (.sl 98 ts_Node) x
abbrev ts_Age : List Ty := [(.int .i64), (.int .i64)]
abbrev E_Age : Type := Int × Int
abbrev z_Age : E_Age := zeroE ts_Age
abbrev rd_Age (xs : List E_Age) (i : Int) : E_Age := rdE ts_Age xs i
def v_Age (x : List E_Age) : A := .val (.sl 89 ts_Age) x
abbrev ts_Cell : List Ty := [(.int .i64), .bool, (.int .i64)]
abbrev E_Cell : Type := Int × Bool × Int
abbrev z_Cell : E_Cell := zeroE ts_Cell
abbrev rd_Cell (xs : List E_Cell) (i : Int) : E_Cell := rdE ts_Cell xs i
def v_Cell (x : List E_Cell) : A := .val (.sl 95 ts_Cell) x
abbrev ts_Vol : List Ty := [.str, (.int .i64), (.int .i64), .bool]
abbrev E_Vol : Type := ByteArray × Int × Int × Bool
abbrev z_Vol : E_Vol := zeroE ts_Vol
abbrev rd_Vol (xs : List E_Vol) (i : Int) : E_Vol := rdE ts_Vol xs i
def v_Vol (x : List E_Vol) : A := .val (.sl 91 ts_Vol) x
abbrev ts_s_u8 : List Ty := [(.sl 5 ts_u8)]
abbrev E_s_u8 : Type := List E_u8
abbrev z_s_u8 : E_s_u8 := zeroE ts_s_u8
abbrev rd_s_u8 (xs : List E_s_u8) (i : Int) : E_s_u8 := rdE ts_s_u8 xs i
def v_s_u8 (x : List E_s_u8) : A := .val (.sl 32 ts_s_u8) x
abbrev ts_LWr : List Ty := [(.int .i64), (.sl 5 ts_u8)]
abbrev E_LWr : Type := Int × List E_u8
abbrev z_LWr : E_LWr := zeroE ts_LWr
abbrev rd_LWr (xs : List E_LWr) (i : Int) : E_LWr := rdE ts_LWr xs i
def v_LWr (x : List E_LWr) : A := .val (.sl 181 ts_LWr) x
abbrev ts_Wr : List Ty := [(.int .i64), (.sl 5 ts_u8)]
abbrev E_Wr : Type := Int × List E_u8
abbrev z_Wr : E_Wr := zeroE ts_Wr
abbrev rd_Wr (xs : List E_Wr) (i : Int) : E_Wr := rdE ts_Wr xs i
def v_Wr (x : List E_Wr) : A := .val (.sl 186 ts_Wr) x
abbrev ts_bool : List Ty := [.bool]
abbrev E_bool : Type := Bool
abbrev z_bool : E_bool := zeroE ts_bool
abbrev rd_bool (xs : List E_bool) (i : Int) : E_bool := rdE ts_bool xs i
def v_bool (x : List E_bool) : A := .val (.sl 4 ts_bool) x
abbrev Qz0 : Type := List E_u8 × List E_u8 × Int
abbrev qz0 : List Ty := [(.sl 5 ts_u8), (.sl 5 ts_u8), (.int .i64)]
abbrev Qz1 : Type := List E_u8 × List E_u8
abbrev qz1 : List Ty := [(.sl 5 ts_u8), (.sl 5 ts_u8)]
abbrev Qz2 : Type := Int × Int × List E_u8
abbrev qz2 : List Ty := [(.int .i64), (.int .i64), (.sl 5 ts_u8)]
abbrev Qz3 : Type := Int × List E_u8
abbrev qz3 : List Ty := [(.int .i64), (.sl 5 ts_u8)]
abbrev Qz4 : Type := List E_u8 × Int
abbrev qz4 : List Ty := [(.sl 5 ts_u8), (.int .i64)]
abbrev Qz5 : Type := List E_u8 × Int × Int
abbrev qz5 : List Ty := [(.sl 5 ts_u8), (.int .i64), (.int .i64)]
abbrev Qz6 : Type := Int × Int
abbrev qz6 : List Ty := [(.int .i64), (.int .i64)]
abbrev Qz7 : Type := List E_s_u8 × Int × Int
abbrev qz7 : List Ty := [(.sl 32 ts_s_u8), (.int .i64), (.int .i64)]
abbrev Qz8 : Type := List E_s_u8 × Int
abbrev qz8 : List Ty := [(.sl 32 ts_s_u8), (.int .i64)]
abbrev Qz9 : Type := Int × List E_u8 × Int
abbrev qz9 : List Ty := [(.int .i64), (.sl 5 ts_u8), (.int .i64)]
abbrev Qz10 : Type := List E_LWr × Int × Int
abbrev qz10 : List Ty := [(.sl 181 ts_LWr), (.int .i64), (.int .i64)]
abbrev Qz11 : Type := List E_LWr × Int
abbrev qz11 : List Ty := [(.sl 181 ts_LWr), (.int .i64)]
abbrev Qz12 : Type := List E_s_u8 × List E_LWr × Int × Bool × Int
abbrev qz12 : List Ty := [(.sl 32 ts_s_u8), (.sl 181 ts_LWr), (.int .i64), .bool, (.int .i64)]
abbrev Qz13 : Type := Int × Int × Int
abbrev qz13 : List Ty := [(.int .i64), (.int .i64), (.int .i64)]
abbrev Qz14 : Type := List E_Key × Int × List E_Key
abbrev qz14 : List Ty := [(.sl 106 ts_Key), (.int .i64), (.sl 106 ts_Key)]
abbrev Qz15 : Type := Int × Int × Int × Int × Int × Int × Int × Int × Int × Int
abbrev qz15 : List Ty := [(.int .i64), (.int .i64), (.int .i64), (.int .i64), (.int .i64), (.int .i64), (.int .i64), (.int .i64), (.int .i64), (.int .i64)]
abbrev Qz16 : Type := List E_Key × Bool × Int × Int × Int × Int × Int × Int × List E_Key
abbrev qz16 : List Ty := [(.sl 106 ts_Key), .bool, (.int .i64), (.int .i64), (.int .i64), (.int .i64), (.int .i64), (.int .i64), (.sl 106 ts_Key)]
abbrev Qz17 : Type := Bool × Int × Int × Int × Int × Int × List E_Key
abbrev qz17 : List Ty := [.bool, (.int .i64), (.int .i64), (.int .i64), (.int .i64), (.int .i64), (.sl 106 ts_Key)]
abbrev Qz18 : Type := List E_Key × Int × Int × Int × Int × Int
abbrev qz18 : List Ty := [(.sl 106 ts_Key), (.int .i64), (.int .i64), (.int .i64), (.int .i64), (.int .i64)]
abbrev Qz19 : Type := List E_Key × List E_Key
abbrev qz19 : List Ty := [(.sl 106 ts_Key), (.sl 106 ts_Key)]
abbrev Qz20 : Type := Int × List E_s_Key × List E_Key
abbrev qz20 : List Ty := [(.int .i64), (.sl 100 ts_s_Key), (.sl 106 ts_Key)]
abbrev Qz21 : Type := Int × List E_i64 × List E_Node × List E_Key
abbrev qz21 : List Ty := [(.int .i64), (.sl 3 ts_i64), (.sl 98 ts_Node), (.sl 106 ts_Key)]
abbrev Qz22 : Type := List E_i64 × List E_Node
abbrev qz22 : List Ty := [(.sl 3 ts_i64), (.sl 98 ts_Node)]
abbrev Qz23 : Type := Int × Int × Int × Int × Int
abbrev qz23 : List Ty := [(.int .i64), (.int .i64), (.int .i64), (.int .i64), (.int .i64)]
abbrev Qz24 : Type := List E_Key × Int
abbrev qz24 : List Ty := [(.sl 106 ts_Key), (.int .i64)]
abbrev Qz25 : Type := List E_Key × Bool
abbrev qz25 : List Ty := [(.sl 106 ts_Key), .bool]
abbrev Qz26 : Type := Int × Int × List E_s_Key
abbrev qz26 : List Ty := [(.int .i64), (.int .i64), (.sl 100 ts_s_Key)]
abbrev Qz27 : Type := Int × List E_s_Key
abbrev qz27 : List Ty := [(.int .i64), (.sl 100 ts_s_Key)]
abbrev Qz28 : Type := Bool × List E_s_Key
abbrev qz28 : List Ty := [.bool, (.sl 100 ts_s_Key)]
abbrev Qz29 : Type := Int × Int × Int × List E_i64 × List E_Node × List E_s_Key
abbrev qz29 : List Ty := [(.int .i64), (.int .i64), (.int .i64), (.sl 3 ts_i64), (.sl 98 ts_Node), (.sl 100 ts_s_Key)]
abbrev Qz30 : Type := Int × Bool × Int × List E_i64 × List E_Node × List E_s_Key
abbrev qz30 : List Ty := [(.int .i64), .bool, (.int .i64), (.sl 3 ts_i64), (.sl 98 ts_Node), (.sl 100 ts_s_Key)]
abbrev Qz31 : Type := Int × Int × List E_i64 × List E_Node × List E_s_Key
abbrev qz31 : List Ty := [(.int .i64), (.int .i64), (.sl 3 ts_i64), (.sl 98 ts_Node), (.sl 100 ts_s_Key)]
abbrev Qz32 : Type := List E_i64 × List E_Node × Int
abbrev qz32 : List Ty := [(.sl 3 ts_i64), (.sl 98 ts_Node), (.int .i64)]
abbrev Qz33 : Type := Int × List E_i64 × List E_Node
abbrev qz33 : List Ty := [(.int .i64), (.sl 3 ts_i64), (.sl 98 ts_Node)]
abbrev Qz34 : Type := Bool × List E_i64 × List E_Node
abbrev qz34 : List Ty := [.bool, (.sl 3 ts_i64), (.sl 98 ts_Node)]
abbrev Qz35 : Type := List E_Age × Int × Int
abbrev qz35 : List Ty := [(.sl 89 ts_Age), (.int .i64), (.int .i64)]
abbrev Qz36 : Type := List E_Age × Int
abbrev qz36 : List Ty := [(.sl 89 ts_Age), (.int .i64)]
abbrev Qz37 : Type := List E_Age × Bool
abbrev qz37 : List Ty := [(.sl 89 ts_Age), .bool]
abbrev Qz38 : Type := List E_Cell × Int
abbrev qz38 : List Ty := [(.sl 95 ts_Cell), (.int .i64)]
abbrev Qz39 : Type := List E_Cell × Bool
abbrev qz39 : List Ty := [(.sl 95 ts_Cell), .bool]
abbrev Qz40 : Type := ByteArray × Int
abbrev qz40 : List Ty := [.str, (.int .i64)]
abbrev Qz41 : Type := ByteArray × Bool
abbrev qz41 : List Ty := [.str, .bool]
abbrev Qz42 : Type := List E_Age × Int × Int × List E_i64
abbrev qz42 : List Ty := [(.sl 89 ts_Age), (.int .i64), (.int .i64), (.sl 3 ts_i64)]
abbrev Qz43 : Type := Int × Int × List E_i64 × List E_Node × List E_Age × List E_Cell × List E_Vol × Int × ByteArray × Int × Int × Bool
abbrev qz43 : List Ty := [(.int .i64), (.int .i64), (.sl 3 ts_i64), (.sl 98 ts_Node), (.sl 89 ts_Age), (.sl 95 ts_Cell), (.sl 91 ts_Vol), (.int .i64), .str, (.int .i64), (.int .i64), .bool]
abbrev Qz44 : Type := Bool × Int × List E_i64 × List E_Node × List E_Age × List E_Cell × List E_Vol × Int
abbrev qz44 : List Ty := [.bool, (.int .i64), (.sl 3 ts_i64), (.sl 98 ts_Node), (.sl 89 ts_Age), (.sl 95 ts_Cell), (.sl 91 ts_Vol), (.int .i64)]
abbrev Qz45 : Type := Int × List E_i64 × List E_Node × List E_Age × List E_Cell × List E_Vol × Int
abbrev qz45 : List Ty := [(.int .i64), (.sl 3 ts_i64), (.sl 98 ts_Node), (.sl 89 ts_Age), (.sl 95 ts_Cell), (.sl 91 ts_Vol), (.int .i64)]
abbrev Qz46 : Type := Bool × List E_i64 × List E_Node × List E_Age × List E_Cell × List E_Vol × Int
abbrev qz46 : List Ty := [.bool, (.sl 3 ts_i64), (.sl 98 ts_Node), (.sl 89 ts_Age), (.sl 95 ts_Cell), (.sl 91 ts_Vol), (.int .i64)]
abbrev Qz47 : Type := List E_i64 × List E_Node × List E_Age × List E_Cell × List E_Vol × Int
abbrev qz47 : List Ty := [(.sl 3 ts_i64), (.sl 98 ts_Node), (.sl 89 ts_Age), (.sl 95 ts_Cell), (.sl 91 ts_Vol), (.int .i64)]
abbrev Qz48 : Type := List E_Cell × Int × Int
abbrev qz48 : List Ty := [(.sl 95 ts_Cell), (.int .i64), (.int .i64)]
abbrev Qz49 : Type := Int × Bool
abbrev qz49 : List Ty := [(.int .i64), .bool]
abbrev Qz50 : Type := Int × Int × Int × List E_i64 × List E_Node × List E_Age × List E_Cell × List E_Vol × Int × List E_Key
abbrev qz50 : List Ty := [(.int .i64), (.int .i64), (.int .i64), (.sl 3 ts_i64), (.sl 98 ts_Node), (.sl 89 ts_Age), (.sl 95 ts_Cell), (.sl 91 ts_Vol), (.int .i64), (.sl 106 ts_Key)]
abbrev Qz51 : Type := Bool × Int × Int × List E_i64 × List E_Node × List E_Age × List E_Cell × List E_Vol × Int × List E_Key
abbrev qz51 : List Ty := [.bool, (.int .i64), (.int .i64), (.sl 3 ts_i64), (.sl 98 ts_Node), (.sl 89 ts_Age), (.sl 95 ts_Cell), (.sl 91 ts_Vol), (.int .i64), (.sl 106 ts_Key)]
abbrev Qz52 : Type := Int × Int × List E_i64 × List E_Node × List E_Age × List E_Cell × List E_Vol × Int × List E_Key
abbrev qz52 : List Ty := [(.int .i64), (.int .i64), (.sl 3 ts_i64), (.sl 98 ts_Node), (.sl 89 ts_Age), (.sl 95 ts_Cell), (.sl 91 ts_Vol), (.int .i64), (.sl 106 ts_Key)]
abbrev Qz53 : Type := List E_u8 × Int × Bool
abbrev qz53 : List Ty := [(.sl 5 ts_u8), (.int .i64), .bool]
abbrev Qz54 : Type := Int × List E_u8 × Int × Bool
abbrev qz54 : List Ty := [(.int .i64), (.sl 5 ts_u8), (.int .i64), .bool]
abbrev Qz55 : Type := Bool × List E_u8 × Int × Bool
abbrev qz55 : List Ty := [.bool, (.sl 5 ts_u8), (.int .i64), .bool]
abbrev Qz56 : Type := Int × Int × Bool
abbrev qz56 : List Ty := [(.int .i64), (.int .i64), .bool]
abbrev Qz57 : Type := ByteArray × Int × Bool
abbrev qz57 : List Ty := [.str, (.int .i64), .bool]
abbrev Qz58 : Type := ByteArray × Int × Int × Bool × List E_u8 × Int × Bool
abbrev qz58 : List Ty := [.str, (.int .i64), (.int .i64), .bool, (.sl 5 ts_u8), (.int .i64), .bool]
abbrev Qz59 : Type := Int × Int × Int × Int × Int × Int × Bool
abbrev qz59 : List Ty := [(.int .i64), (.int .i64), (.int .i64), (.int .i64), (.int .i64), (.int .i64), .bool]
abbrev Qz60 : Type := Int × List E_u8 × Int × Bool × List E_Key
abbrev qz60 : List Ty := [(.int .i64), (.sl 5 ts_u8), (.int .i64), .bool, (.sl 106 ts_Key)]
abbrev Qz61 : Type := List E_u8 × Int × Bool × List E_Key
abbrev qz61 : List Ty := [(.sl 5 ts_u8), (.int .i64), .bool, (.sl 106 ts_Key)]
abbrev Qz62 : Type := List E_Key × List E_u8 × Int × Bool
abbrev qz62 : List Ty := [(.sl 106 ts_Key), (.sl 5 ts_u8), (.int .i64), .bool]
abbrev Qz63 : Type := Int × List E_u8 × Int × Bool × List E_s_Key
abbrev qz63 : List Ty := [(.int .i64), (.sl 5 ts_u8), (.int .i64), .bool, (.sl 100 ts_s_Key)]
abbrev Qz64 : Type := List E_u8 × Int × Bool × List E_s_Key
abbrev qz64 : List Ty := [(.sl 5 ts_u8), (.int .i64), .bool, (.sl 100 ts_s_Key)]
abbrev Qz65 : Type := List E_s_Key × List E_u8 × Int × Bool
abbrev qz65 : List Ty := [(.sl 100 ts_s_Key), (.sl 5 ts_u8), (.int .i64), .bool]
abbrev Qz66 : Type := List E_u8 × Int × Int × List E_u8 × Int × Bool × Int × List E_i64 × List E_Age × List E_Cell × List E_Vol
abbrev qz66 : List Ty := [(.sl 5 ts_u8), (.int .i64), (.int .i64), (.sl 5 ts_u8), (.int .i64), .bool, (.int .i64), (.sl 3 ts_i64), (.sl 89 ts_Age), (.sl 95 ts_Cell), (.sl 91 ts_Vol)]
abbrev Qz67 : Type := List E_u8 × Int × List E_u8 × Int × Bool × Int × List E_i64 × List E_Age × List E_Cell × List E_Vol
abbrev qz67 : List Ty := [(.sl 5 ts_u8), (.int .i64), (.sl 5 ts_u8), (.int .i64), .bool, (.int .i64), (.sl 3 ts_i64), (.sl 89 ts_Age), (.sl 95 ts_Cell), (.sl 91 ts_Vol)]
abbrev Qz68 : Type := List E_u8 × Int × Int × List E_u8 × Int × Bool × Int × List E_i64 × List E_Node × List E_Age × List E_Cell × List E_Vol
abbrev qz68 : List Ty := [(.sl 5 ts_u8), (.int .i64), (.int .i64), (.sl 5 ts_u8), (.int .i64), .bool, (.int .i64), (.sl 3 ts_i64), (.sl 98 ts_Node), (.sl 89 ts_Age), (.sl 95 ts_Cell), (.sl 91 ts_Vol)]
abbrev Qz69 : Type := List E_u8 × Int × List E_u8 × Int × Bool × Int × List E_i64 × List E_Node × List E_Age × List E_Cell × List E_Vol
abbrev qz69 : List Ty := [(.sl 5 ts_u8), (.int .i64), (.sl 5 ts_u8), (.int .i64), .bool, (.int .i64), (.sl 3 ts_i64), (.sl 98 ts_Node), (.sl 89 ts_Age), (.sl 95 ts_Cell), (.sl 91 ts_Vol)]
abbrev Qz70 : Type := List E_i64 × List E_Node × List E_Age × List E_Cell × List E_Vol × Int × Bool
abbrev qz70 : List Ty := [(.sl 3 ts_i64), (.sl 98 ts_Node), (.sl 89 ts_Age), (.sl 95 ts_Cell), (.sl 91 ts_Vol), (.int .i64), .bool]
abbrev Qz71 : Type := List E_u8 × Int × Int × Int
abbrev qz71 : List Ty := [(.sl 5 ts_u8), (.int .i64), (.int .i64), (.int .i64)]
abbrev Qz72 : Type := Int × Int × Int × Int × Int × Bool
abbrev qz72 : List Ty := [(.int .i64), (.int .i64), (.int .i64), (.int .i64), (.int .i64), .bool]
abbrev Qz73 : Type := Int × List E_s_u8 × List E_Wr × Int × Bool
abbrev qz73 : List Ty := [(.int .i64), (.sl 32 ts_s_u8), (.sl 186 ts_Wr), (.int .i64), .bool]
abbrev Qz74 : Type := Bool × List E_s_u8 × List E_Wr × Int × Bool
abbrev qz74 : List Ty := [.bool, (.sl 32 ts_s_u8), (.sl 186 ts_Wr), (.int .i64), .bool]
abbrev Qz75 : Type := List E_s_u8 × List E_Wr × Int × Bool
abbrev qz75 : List Ty := [(.sl 32 ts_s_u8), (.sl 186 ts_Wr), (.int .i64), .bool]
abbrev Qz76 : Type := Int × List E_u8 × Int × List E_s_u8 × List E_Wr × Int × Bool
abbrev qz76 : List Ty := [(.int .i64), (.sl 5 ts_u8), (.int .i64), (.sl 32 ts_s_u8), (.sl 186 ts_Wr), (.int .i64), .bool]
abbrev Qz77 : Type := List E_s_u8 × List E_Wr × Int × Bool × Int
abbrev qz77 : List Ty := [(.sl 32 ts_s_u8), (.sl 186 ts_Wr), (.int .i64), .bool, (.int .i64)]
abbrev Qz78 : Type := Int × List E_s_u8 × List E_Wr × Int × Bool × Int × Int × Int × Int × Int × List E_u8
abbrev qz78 : List Ty := [(.int .i64), (.sl 32 ts_s_u8), (.sl 186 ts_Wr), (.int .i64), .bool, (.int .i64), (.int .i64), (.int .i64), (.int .i64), (.int .i64), (.sl 5 ts_u8)]
abbrev Qz79 : Type := Int × Int × Int × Int × Int × List E_u8
abbrev qz79 : List Ty := [(.int .i64), (.int .i64), (.int .i64), (.int .i64), (.int .i64), (.sl 5 ts_u8)]
abbrev Qz80 : Type := List E_s_u8 × List E_Wr × Int × Bool × Int × Int × Int × Int × Int
abbrev qz80 : List Ty := [(.sl 32 ts_s_u8), (.sl 186 ts_Wr), (.int .i64), .bool, (.int .i64), (.int .i64), (.int .i64), (.int .i64), (.int .i64)]
abbrev Qz81 : Type := List E_u8 × Bool
abbrev qz81 : List Ty := [(.sl 5 ts_u8), .bool]
abbrev Qz82 : Type := Bool × Int × List E_s_u8 × List E_Wr × Int × Bool × Int × Int × Int × Int × Int × Int × Int × Int × Int × Int × List E_u8
abbrev qz82 : List Ty := [.bool, (.int .i64), (.sl 32 ts_s_u8), (.sl 186 ts_Wr), (.int .i64), .bool, (.int .i64), (.int .i64), (.int .i64), (.int .i64), (.int .i64), (.int .i64), (.int .i64), (.int .i64), (.int .i64), (.int .i64), (.sl 5 ts_u8)]
abbrev Qz83 : Type := List E_u8 × Bool × Int × List E_s_u8 × List E_Wr × Int × Bool × Int × Int × Int × Int × Int × Int × Int × Int × Int × Int
abbrev qz83 : List Ty := [(.sl 5 ts_u8), .bool, (.int .i64), (.sl 32 ts_s_u8), (.sl 186 ts_Wr), (.int .i64), .bool, (.int .i64), (.int .i64), (.int .i64), (.int .i64), (.int .i64), (.int .i64), (.int .i64), (.int .i64), (.int .i64), (.int .i64)]
abbrev Qz84 : Type := Bool × Int × Int × Int × Int × Int × Int × Int × Int × Int × Int × List E_u8
abbrev qz84 : List Ty := [.bool, (.int .i64), (.int .i64), (.int .i64), (.int .i64), (.int .i64), (.int .i64), (.int .i64), (.int .i64), (.int .i64), (.int .i64), (.sl 5 ts_u8)]
abbrev Qz85 : Type := List E_u8 × Bool × Int × Int × Int × Int × Int × Int × Int × Int × Int × Int
abbrev qz85 : List Ty := [(.sl 5 ts_u8), .bool, (.int .i64), (.int .i64), (.int .i64), (.int .i64), (.int .i64), (.int .i64), (.int .i64), (.int .i64), (.int .i64), (.int .i64)]
abbrev Qz86 : Type := Int × Int × Int × Int × Int × List E_u8 × Bool
abbrev qz86 : List Ty := [(.int .i64), (.int .i64), (.int .i64), (.int .i64), (.int .i64), (.sl 5 ts_u8), .bool]
abbrev Qz87 : Type := List E_u8 × Int × List E_u8
abbrev qz87 : List Ty := [(.sl 5 ts_u8), (.int .i64), (.sl 5 ts_u8)]
abbrev Qz88 : Type := List E_s_u8 × Int × List E_s_u8
abbrev qz88 : List Ty := [(.sl 32 ts_s_u8), (.int .i64), (.sl 32 ts_s_u8)]
abbrev Qz89 : Type := List E_LWr × Int × List E_Wr
abbrev qz89 : List Ty := [(.sl 181 ts_LWr), (.int .i64), (.sl 186 ts_Wr)]
abbrev Qz90 : Type := List E_s_u8 × List E_LWr × Int × Bool
abbrev qz90 : List Ty := [(.sl 32 ts_s_u8), (.sl 181 ts_LWr), (.int .i64), .bool]
abbrev Qz91 : Type := List E_Key × List E_Key × Int × Int
abbrev qz91 : List Ty := [(.sl 106 ts_Key), (.sl 106 ts_Key), (.int .i64), (.int .i64)]
abbrev Qz92 : Type := Int × List E_s_Key × Int × Int × List E_s_Key
abbrev qz92 : List Ty := [(.int .i64), (.sl 100 ts_s_Key), (.int .i64), (.int .i64), (.sl 100 ts_s_Key)]
abbrev Qz93 : Type := Bool × Int × List E_s_Key
abbrev qz93 : List Ty := [.bool, (.int .i64), (.sl 100 ts_s_Key)]
abbrev Qz94 : Type := Int × List E_s_Key × Int × Int × List E_Key × Int × Int × List E_i64 × List E_Node
abbrev qz94 : List Ty := [(.int .i64), (.sl 100 ts_s_Key), (.int .i64), (.int .i64), (.sl 106 ts_Key), (.int .i64), (.int .i64), (.sl 3 ts_i64), (.sl 98 ts_Node)]
abbrev Qz95 : Type := Int × Bool × List E_s_Key × Int × Int × List E_i64 × List E_Node
abbrev qz95 : List Ty := [(.int .i64), .bool, (.sl 100 ts_s_Key), (.int .i64), (.int .i64), (.sl 3 ts_i64), (.sl 98 ts_Node)]
abbrev Qz96 : Type := Int × List E_s_Key × Int × Int × List E_i64 × List E_Node
abbrev qz96 : List Ty := [(.int .i64), (.sl 100 ts_s_Key), (.int .i64), (.int .i64), (.sl 3 ts_i64), (.sl 98 ts_Node)]
abbrev Qz97 : Type := Bool × List E_Key × Int × Int × Int × Int × Int × Int × Int × List E_Key
abbrev qz97 : List Ty := [.bool, (.sl 106 ts_Key), (.int .i64), (.int .i64), (.int .i64), (.int .i64), (.int .i64), (.int .i64), (.int .i64), (.sl 106 ts_Key)]
abbrev Qz98 : Type := List E_Key × Int × Int × List E_Key
abbrev qz98 : List Ty := [(.sl 106 ts_Key), (.int .i64), (.int .i64), (.sl 106 ts_Key)]
abbrev Qz99 : Type := List E_s_Key × Int × Int × List E_Key
abbrev qz99 : List Ty := [(.sl 100 ts_s_Key), (.int .i64), (.int .i64), (.sl 106 ts_Key)]
abbrev Qz100 : Type := Int × List E_Node × Int × Int × List E_i64 × List E_Node
abbrev qz100 : List Ty := [(.int .i64), (.sl 98 ts_Node), (.int .i64), (.int .i64), (.sl 3 ts_i64), (.sl 98 ts_Node)]
abbrev Qz101 : Type := Bool × Int
abbrev qz101 : List Ty := [.bool, (.int .i64)]
abbrev Qz102 : Type := List E_Age × Int × Int × Int
abbrev qz102 : List Ty := [(.sl 89 ts_Age), (.int .i64), (.int .i64), (.int .i64)]
abbrev Qz103 : Type := List E_Age × List E_Age × Int × Int
abbrev qz103 : List Ty := [(.sl 89 ts_Age), (.sl 89 ts_Age), (.int .i64), (.int .i64)]
abbrev Qz104 : Type := List E_Cell × List E_Cell × Int × Int
abbrev qz104 : List Ty := [(.sl 95 ts_Cell), (.sl 95 ts_Cell), (.int .i64), (.int .i64)]
abbrev Qz105 : Type := Int × List E_Age × Int × Int × List E_i64
abbrev qz105 : List Ty := [(.int .i64), (.sl 89 ts_Age), (.int .i64), (.int .i64), (.sl 3 ts_i64)]
abbrev Qz106 : Type := ByteArray × Int × Int × Bool × ByteArray × Int × Int × Bool
abbrev qz106 : List Ty := [.str, (.int .i64), (.int .i64), .bool, .str, (.int .i64), (.int .i64), .bool]
abbrev Qz107 : Type := Bool × ByteArray × Int × Int × Bool
abbrev qz107 : List Ty := [.bool, .str, (.int .i64), (.int .i64), .bool]
abbrev Qz108 : Type := List E_Vol × Int × Int × ByteArray × Int × Int × Bool
abbrev qz108 : List Ty := [(.sl 91 ts_Vol), (.int .i64), (.int .i64), .str, (.int .i64), (.int .i64), .bool]
abbrev Qz109 : Type := Int × ByteArray × Int × Int × Bool
abbrev qz109 : List Ty := [(.int .i64), .str, (.int .i64), (.int .i64), .bool]
abbrev Qz110 : Type := ByteArray × Int × Int × Bool
abbrev qz110 : List Ty := [.str, (.int .i64), (.int .i64), .bool]
abbrev Qz111 : Type := List E_Vol × ByteArray × Int × Int × Bool
abbrev qz111 : List Ty := [(.sl 91 ts_Vol), .str, (.int .i64), (.int .i64), .bool]
abbrev Qz112 : Type := List E_Vol × Int × Int × List E_i64 × List E_Node × List E_Age × List E_Cell × List E_Vol × Int
abbrev qz112 : List Ty := [(.sl 91 ts_Vol), (.int .i64), (.int .i64), (.sl 3 ts_i64), (.sl 98 ts_Node), (.sl 89 ts_Age), (.sl 95 ts_Cell), (.sl 91 ts_Vol), (.int .i64)]
abbrev Qz113 : Type := List E_Node × Int × Int × List E_Key
abbrev qz113 : List Ty := [(.sl 98 ts_Node), (.int .i64), (.int .i64), (.sl 106 ts_Key)]
abbrev Qz114 : Type := Int × List E_Cell × Int × Int
abbrev qz114 : List Ty := [(.int .i64), (.sl 95 ts_Cell), (.int .i64), (.int .i64)]
abbrev Qz115 : Type := Int × Int × Int × List E_i64 × List E_Node × List E_Age × List E_Cell × List E_Vol × Int × List E_bool × List E_Key
abbrev qz115 : List Ty := [(.int .i64), (.int .i64), (.int .i64), (.sl 3 ts_i64), (.sl 98 ts_Node), (.sl 89 ts_Age), (.sl 95 ts_Cell), (.sl 91 ts_Vol), (.int .i64), (.sl 4 ts_bool), (.sl 106 ts_Key)]
abbrev Qz116 : Type := List E_Age × Int × Int × List E_i64 × List E_Node × List E_Age × List E_Cell × List E_Vol × Int
abbrev qz116 : List Ty := [(.sl 89 ts_Age), (.int .i64), (.int .i64), (.sl 3 ts_i64), (.sl 98 ts_Node), (.sl 89 ts_Age), (.sl 95 ts_Cell), (.sl 91 ts_Vol), (.int .i64)]
abbrev Qz117 : Type := List E_s_u8 × Int × Int × List E_u8
abbrev qz117 : List Ty := [(.sl 32 ts_s_u8), (.int .i64), (.int .i64), (.sl 5 ts_u8)]
abbrev Qz118 : Type := List E_u8 × ByteArray
abbrev qz118 : List Ty := [(.sl 5 ts_u8), .str]
abbrev Qz119 : Type := List E_u8 × Int × Int × Int × Int × Int
abbrev qz119 : List Ty := [(.sl 5 ts_u8), (.int .i64), (.int .i64), (.int .i64), (.int .i64), (.int .i64)]
abbrev Qz120 : Type := List E_Age × Int × Int × List E_i64 × List E_Node × List E_Age × List E_Cell × List E_Vol × Int × List E_u8
abbrev qz120 : List Ty := [(.sl 89 ts_Age), (.int .i64), (.int .i64), (.sl 3 ts_i64), (.sl 98 ts_Node), (.sl 89 ts_Age), (.sl 95 ts_Cell), (.sl 91 ts_Vol), (.int .i64), (.sl 5 ts_u8)]
abbrev Qz121 : Type := List E_i64 × List E_Node × List E_Age × List E_Cell × List E_Vol × Int × List E_u8
abbrev qz121 : List Ty := [(.sl 3 ts_i64), (.sl 98 ts_Node), (.sl 89 ts_Age), (.sl 95 ts_Cell), (.sl 91 ts_Vol), (.int .i64), (.sl 5 ts_u8)]
abbrev Qz122 : Type := List E_Vol × Int × Int × List E_i64 × List E_Node × List E_Age × List E_Cell × List E_Vol × Int × List E_u8
abbrev qz122 : List Ty := [(.sl 91 ts_Vol), (.int .i64), (.int .i64), (.sl 3 ts_i64), (.sl 98 ts_Node), (.sl 89 ts_Age), (.sl 95 ts_Cell), (.sl 91 ts_Vol), (.int .i64), (.sl 5 ts_u8)]
abbrev Qz123 : Type := List E_Cell × Int × Int × List E_i64 × List E_Node × List E_Age × List E_Cell × List E_Vol × Int × List E_u8
abbrev qz123 : List Ty := [(.sl 95 ts_Cell), (.int .i64), (.int .i64), (.sl 3 ts_i64), (.sl 98 ts_Node), (.sl 89 ts_Age), (.sl 95 ts_Cell), (.sl 91 ts_Vol), (.int .i64), (.sl 5 ts_u8)]
abbrev Qz124 : Type := List E_Node × Int × Int × List E_s_Key × Int × Int × List E_Key × Int × Int × List E_i64 × List E_Node × List E_Age × List E_Cell × List E_Vol × Int × List E_u8
abbrev qz124 : List Ty := [(.sl 98 ts_Node), (.int .i64), (.int .i64), (.sl 100 ts_s_Key), (.int .i64), (.int .i64), (.sl 106 ts_Key), (.int .i64), (.int .i64), (.sl 3 ts_i64), (.sl 98 ts_Node), (.sl 89 ts_Age), (.sl 95 ts_Cell), (.sl 91 ts_Vol), (.int .i64), (.sl 5 ts_u8)]
abbrev Qz125 : Type := List E_Node × Int × Int × List E_s_Key × Int × Int × List E_i64 × List E_Node × List E_Age × List E_Cell × List E_Vol × Int × List E_u8
abbrev qz125 : List Ty := [(.sl 98 ts_Node), (.int .i64), (.int .i64), (.sl 100 ts_s_Key), (.int .i64), (.int .i64), (.sl 3 ts_i64), (.sl 98 ts_Node), (.sl 89 ts_Age), (.sl 95 ts_Cell), (.sl 91 ts_Vol), (.int .i64), (.sl 5 ts_u8)]
abbrev Qz126 : Type := List E_Node × Int × Int × List E_i64 × List E_Node × List E_Age × List E_Cell × List E_Vol × Int × List E_u8
abbrev qz126 : List Ty := [(.sl 98 ts_Node), (.int .i64), (.int .i64), (.sl 3 ts_i64), (.sl 98 ts_Node), (.sl 89 ts_Age), (.sl 95 ts_Cell), (.sl 91 ts_Vol), (.int .i64), (.sl 5 ts_u8)]
abbrev Qz127 : Type := ByteArray × List E_u8 × Int × Bool
abbrev qz127 : List Ty := [.str, (.sl 5 ts_u8), (.int .i64), .bool]
abbrev Qz128 : Type := Int × Int × Int × Int × Int × List E_u8 × Int × Bool
abbrev qz128 : List Ty := [(.int .i64), (.int .i64), (.int .i64), (.int .i64), (.int .i64), (.sl 5 ts_u8), (.int .i64), .bool]
abbrev Qz129 : Type := Int × Int × Int × Int × List E_u8 × Int × Bool × List E_Key
abbrev qz129 : List Ty := [(.int .i64), (.int .i64), (.int .i64), (.int .i64), (.sl 5 ts_u8), (.int .i64), .bool, (.sl 106 ts_Key)]
abbrev Qz130 : Type := Int × Int × Int × Int × List E_u8 × Int × Bool × List E_Key × List E_s_Key
abbrev qz130 : List Ty := [(.int .i64), (.int .i64), (.int .i64), (.int .i64), (.sl 5 ts_u8), (.int .i64), .bool, (.sl 106 ts_Key), (.sl 100 ts_s_Key)]
abbrev Qz131 : Type := Int × Int × List E_u8 × Int × Bool × List E_Key
abbrev qz131 : List Ty := [(.int .i64), (.int .i64), (.sl 5 ts_u8), (.int .i64), .bool, (.sl 106 ts_Key)]
abbrev Qz132 : Type := Int × Int × List E_u8 × Int × Bool × List E_Key × List E_s_Key
abbrev qz132 : List Ty := [(.int .i64), (.int .i64), (.sl 5 ts_u8), (.int .i64), .bool, (.sl 106 ts_Key), (.sl 100 ts_s_Key)]
abbrev Qz133 : Type := Int × Int × List E_u8 × Int × Bool
abbrev qz133 : List Ty := [(.int .i64), (.int .i64), (.sl 5 ts_u8), (.int .i64), .bool]
abbrev Qz134 : Type := Int × Int × List E_u8 × Int × Bool × List E_s_Key
abbrev qz134 : List Ty := [(.int .i64), (.int .i64), (.sl 5 ts_u8), (.int .i64), .bool, (.sl 100 ts_s_Key)]
abbrev Qz135 : Type := Int × Int × List E_u8 × Int × Bool × Int × Int × List E_i64 × List E_Age × List E_Cell × List E_Vol
abbrev qz135 : List Ty := [(.int .i64), (.int .i64), (.sl 5 ts_u8), (.int .i64), .bool, (.int .i64), (.int .i64), (.sl 3 ts_i64), (.sl 89 ts_Age), (.sl 95 ts_Cell), (.sl 91 ts_Vol)]
abbrev Qz136 : Type := List E_u8 × Int × Bool × Int × Int × List E_i64 × List E_Age × List E_Cell × List E_Vol
abbrev qz136 : List Ty := [(.sl 5 ts_u8), (.int .i64), .bool, (.int .i64), (.int .i64), (.sl 3 ts_i64), (.sl 89 ts_Age), (.sl 95 ts_Cell), (.sl 91 ts_Vol)]
abbrev Qz137 : Type := Int × List E_u8 × Int × Bool × Int × Int × List E_i64 × List E_Age × List E_Cell × List E_Vol
abbrev qz137 : List Ty := [(.int .i64), (.sl 5 ts_u8), (.int .i64), .bool, (.int .i64), (.int .i64), (.sl 3 ts_i64), (.sl 89 ts_Age), (.sl 95 ts_Cell), (.sl 91 ts_Vol)]
abbrev Qz138 : Type := Int × Int × List E_u8 × Int × Bool × Int × Int × List E_i64 × List E_Node × List E_Age × List E_Cell × List E_Vol
abbrev qz138 : List Ty := [(.int .i64), (.int .i64), (.sl 5 ts_u8), (.int .i64), .bool, (.int .i64), (.int .i64), (.sl 3 ts_i64), (.sl 98 ts_Node), (.sl 89 ts_Age), (.sl 95 ts_Cell), (.sl 91 ts_Vol)]
abbrev Qz139 : Type := List E_u8 × Int × Bool × Int × Int × List E_i64 × List E_Node × List E_Age × List E_Cell × List E_Vol
abbrev qz139 : List Ty := [(.sl 5 ts_u8), (.int .i64), .bool, (.int .i64), (.int .i64), (.sl 3 ts_i64), (.sl 98 ts_Node), (.sl 89 ts_Age), (.sl 95 ts_Cell), (.sl 91 ts_Vol)]
abbrev Qz140 : Type := List E_i64 × List E_Node × List E_Age × List E_Cell × List E_Vol × Int × List E_u8 × Int × Bool
abbrev qz140 : List Ty := [(.sl 3 ts_i64), (.sl 98 ts_Node), (.sl 89 ts_Age), (.sl 95 ts_Cell), (.sl 91 ts_Vol), (.int .i64), (.sl 5 ts_u8), (.int .i64), .bool]
abbrev Qz141 : Type := Int × List E_u8 × Int × Int × Int
abbrev qz141 : List Ty := [(.int .i64), (.sl 5 ts_u8), (.int .i64), (.int .i64), (.int .i64)]
abbrev Qz142 : Type := Int × List E_u8 × Int × Int
abbrev qz142 : List Ty := [(.int .i64), (.sl 5 ts_u8), (.int .i64), (.int .i64)]
abbrev Qz143 : Type := List E_s_u8 × Int × Int × List E_s_u8 × List E_Wr × Int × Bool
abbrev qz143 : List Ty := [(.sl 32 ts_s_u8), (.int .i64), (.int .i64), (.sl 32 ts_s_u8), (.sl 186 ts_Wr), (.int .i64), .bool]
abbrev Qz144 : Type := List E_Wr × Int × Int × List E_s_u8 × List E_Wr × Int × Bool
abbrev qz144 : List Ty := [(.sl 186 ts_Wr), (.int .i64), (.int .i64), (.sl 32 ts_s_u8), (.sl 186 ts_Wr), (.int .i64), .bool]
abbrev Qz145 : Type := Int × Int × List E_s_u8 × List E_Wr × Int × Bool
abbrev qz145 : List Ty := [(.int .i64), (.int .i64), (.sl 32 ts_s_u8), (.sl 186 ts_Wr), (.int .i64), .bool]
abbrev Qz146 : Type := Int × List E_s_u8 × List E_Wr × Int × Bool × List E_u8
abbrev qz146 : List Ty := [(.int .i64), (.sl 32 ts_s_u8), (.sl 186 ts_Wr), (.int .i64), .bool, (.sl 5 ts_u8)]
abbrev Qz147 : Type := Int × List E_s_u8 × List E_Wr × Int × Bool × Int × Int × Int × Int × Int × Int × Int × Int × Int × Int × List E_u8
abbrev qz147 : List Ty := [(.int .i64), (.sl 32 ts_s_u8), (.sl 186 ts_Wr), (.int .i64), .bool, (.int .i64), (.int .i64), (.int .i64), (.int .i64), (.int .i64), (.int .i64), (.int .i64), (.int .i64), (.int .i64), (.int .i64), (.sl 5 ts_u8)]
abbrev Qz148 : Type := Int × Int × Int × Int × Int × Int × Int × Int × Int × Int × List E_u8
abbrev qz148 : List Ty := [(.int .i64), (.int .i64), (.int .i64), (.int .i64), (.int .i64), (.int .i64), (.int .i64), (.int .i64), (.int .i64), (.int .i64), (.sl 5 ts_u8)]
abbrev Qz149 : Type := List E_s_u8 × List E_s_u8 × Int
abbrev qz149 : List Ty := [(.sl 32 ts_s_u8), (.sl 32 ts_s_u8), (.int .i64)]
abbrev Qz150 : Type := List E_s_u8 × List E_s_u8
abbrev qz150 : List Ty := [(.sl 32 ts_s_u8), (.sl 32 ts_s_u8)]
abbrev Qz151 : Type := Int × List E_u8 × Int × List E_u8
abbrev qz151 : List Ty := [(.int .i64), (.sl 5 ts_u8), (.int .i64), (.sl 5 ts_u8)]
abbrev Qz152 : Type := List E_Wr × List E_Wr × Int
abbrev qz152 : List Ty := [(.sl 186 ts_Wr), (.sl 186 ts_Wr), (.int .i64)]
abbrev Qz153 : Type := List E_Wr × List E_Wr
abbrev qz153 : List Ty := [(.sl 186 ts_Wr), (.sl 186 ts_Wr)]
abbrev Qz154 : Type := List E_s_u8 × List E_Wr × Int × Bool × List E_s_u8 × List E_Wr × Int × Bool
abbrev qz154 : List Ty := [(.sl 32 ts_s_u8), (.sl 186 ts_Wr), (.int .i64), .bool, (.sl 32 ts_s_u8), (.sl 186 ts_Wr), (.int .i64), .bool]
abbrev Qz155 : Type := Int × Int × List E_s_u8
abbrev qz155 : List Ty := [(.int .i64), (.int .i64), (.sl 32 ts_s_u8)]
abbrev Qz156 : Type := Int × List E_s_u8
abbrev qz156 : List Ty := [(.int .i64), (.sl 32 ts_s_u8)]
abbrev Qz157 : Type := Int × Int × List E_Wr
abbrev qz157 : List Ty := [(.int .i64), (.int .i64), (.sl 186 ts_Wr)]
abbrev Qz158 : Type := Int × List E_Wr
abbrev qz158 : List Ty := [(.int .i64), (.sl 186 ts_Wr)]
abbrev Qz159 : Type := List E_Wr × Int
abbrev qz159 : List Ty := [(.sl 186 ts_Wr), (.int .i64)]
abbrev Qz160 : Type := Int × List E_s_u8 × List E_Wr
abbrev qz160 : List Ty := [(.int .i64), (.sl 32 ts_s_u8), (.sl 186 ts_Wr)]
def infoL : List (Nat × TI) := [
 (3, .c (.int .i64) 8),
 (4, .c (.bool) 1),
 (5, .c (.int .u8) 1),
 (9, .c (.str) 16),
 (22, .c (.sl 3 ts_i64) 24),
 (32, .c (.sl 5 ts_u8) 24),
 (34, .c (.sl 98 ts_Node) 24),
 (36, .s [(0, 22), (1, 34)] [(.sl 3 ts_i64), (.sl 98 ts_Node)] 48),
 (37, .c (.sl 89 ts_Age) 24),
 (38, .c (.sl 95 ts_Cell) 24),
 (39, .c (.sl 91 ts_Vol) 24),
 (41, .s [(0, 36), (2, 37), (3, 38), (4, 39), (5, 3)] [(.sl 3 ts_i64), (.sl 98 ts_Node), (.sl 89 ts_Age), (.sl 95 ts_Cell), (.sl 91 ts_Vol), (.int .i64)] 128),
 (48, .c (.sl 32 ts_s_u8) 24),
 (49, .c (.sl 181 ts_LWr) 24),
 (51, .s [(0, 48), (1, 49), (2, 3), (3, 4)] [(.sl 32 ts_s_u8), (.sl 181 ts_LWr), (.int .i64), .bool] 64),
 (54, .s [(0, 3), (1, 3), (2, 3), (3, 3), (4, 3)] [(.int .i64), (.int .i64), (.int .i64), (.int .i64), (.int .i64)] 40),
 (57, .c (.sl 186 ts_Wr) 24),
 (59, .s [(0, 48), (1, 57), (2, 3), (3, 4)] [(.sl 32 ts_s_u8), (.sl 186 ts_Wr), (.int .i64), .bool] 64),
 (89, .s [(0, 3), (1, 3)] [(.int .i64), (.int .i64)] 16),
 (91, .s [(0, 9), (1, 3), (2, 3), (3, 4)] [.str, (.int .i64), (.int .i64), .bool] 40),
 (95, .s [(0, 3), (1, 4), (2, 3)] [(.int .i64), .bool, (.int .i64)] 24),
 (96, .c (.sl 100 ts_s_Key) 24),
 (98, .s [(0, 96)] [(.sl 100 ts_s_Key)] 24),
 (100, .c (.sl 106 ts_Key) 24),
 (106, .s [(0, 3), (1, 3), (2, 3), (3, 3), (4, 3)] [(.int .i64), (.int .i64), (.int .i64), (.int .i64), (.int .i64)] 40),
 (130, .s [(0, 32), (1, 3), (2, 4)] [(.sl 5 ts_u8), (.int .i64), .bool] 40),
 (137, .s [(0, 32), (1, 3), (2, 4)] [(.sl 5 ts_u8), (.int .i64), .bool] 40),
 (181, .s [(0, 3), (1, 32)] [(.int .i64), (.sl 5 ts_u8)] 32),
 (186, .s [(0, 3), (1, 32)] [(.int .i64), (.sl 5 ts_u8)] 32),
 (229, .c (.sl 4 ts_bool) 24)]
def sg14 : Sig := ⟨[.v false [(.sl 5 ts_u8)] [false], .v false [(.sl 5 ts_u8)] [false]], [⟨false, [.bool], [false]⟩], false, false, false⟩
def sg17 : Sig := ⟨[.v false [(.sl 5 ts_u8)] [true], .v false [(.int .i64)] [false]], [⟨false, [(.int .i64)], [false]⟩], false, true, true⟩
def sg18 : Sig := ⟨[.v false [(.sl 5 ts_u8)] [false], .v false [(.int .i64)] [false]], [⟨false, [(.int .i64)], [false]⟩], false, false, false⟩
def sg147 : Sig := ⟨[.v false [(.sl 5 ts_u8)] [false], .v false [(.int .i64)] [false]], [⟨false, [(.int .i64)], [false]⟩], false, false, false⟩
def sg69 : Sig := ⟨[.v false [(.sl 32 ts_s_u8)] [false], .v false [(.int .i64)] [false]], [⟨false, [(.int .i64)], [false]⟩], false, false, false⟩
def sg148 : Sig := ⟨[.v true qz3 [false, false], .v false [(.int .i64)] [false]], [⟨false, [(.int .i64)], [false]⟩], false, false, false⟩
def sg70 : Sig := ⟨[.v false [(.sl 181 ts_LWr)] [false], .v false [(.int .i64)] [false]], [⟨false, [(.int .i64)], [false]⟩], false, false, false⟩
def sg19 : Sig := ⟨[.v true qz90 (nf 4), .v false [(.int .i64)] [false]], [⟨false, [(.int .i64)], [false]⟩], false, false, false⟩
def sg107 : Sig := ⟨[.v false [(.int .i64)] [false], .v false [(.int .i64)] [false], .v false [(.int .i64)] [false]], [⟨false, [.bool], [false]⟩], false, false, false⟩
def sg235 : Sig := ⟨[.v false [(.sl 106 ts_Key)] [false]], [⟨false, [(.sl 106 ts_Key)], [true]⟩], false, false, false⟩
def sg266 : Sig := ⟨[.v true qz23 (nf 5), .v true qz23 (nf 5)], [⟨false, [.bool], [false]⟩], false, false, false⟩
def sg267 : Sig := ⟨[.v true qz23 (nf 5), .v true qz23 (nf 5)], [⟨false, [.bool], [false]⟩], false, false, false⟩
def sg236 : Sig := ⟨[.v false [(.sl 106 ts_Key)] [false], .v true qz23 (nf 5)], [⟨false, [(.sl 106 ts_Key)], [true]⟩], false, false, false⟩
def sg261 : Sig := ⟨[.v false [(.sl 106 ts_Key)] [false], .v false [(.sl 106 ts_Key)] [false]], [⟨false, [(.sl 106 ts_Key)], [true]⟩], false, false, false⟩
def sg230 : Sig := ⟨[.v true [(.sl 100 ts_s_Key)] [false]], [⟨false, [(.sl 106 ts_Key)], [true]⟩], false, false, false⟩
def sg188 : Sig := ⟨[.v true qz22 [false, false]], [⟨false, [(.sl 106 ts_Key)], [true]⟩], false, false, false⟩
def sg264 : Sig := ⟨[.v false [(.int .i64)] [false], .v false [(.int .i64)] [false]], [⟨false, [(.int .i64)], [false]⟩], false, false, false⟩
def sg237 : Sig := ⟨[.v true qz23 (nf 5)], [⟨false, [(.int .i64)], [false]⟩], false, false, false⟩
def sg202 : Sig := ⟨[.v true qz23 (nf 5)], [⟨false, [.bool], [false]⟩], false, false, false⟩
def sg300 : Sig := ⟨[.v false [(.sl 106 ts_Key)] [false]], [⟨false, [.bool], [false]⟩], false, false, false⟩
def sg276 : Sig := ⟨[.v false [(.sl 106 ts_Key)] [false]], [⟨false, [.bool], [false]⟩], false, false, false⟩
def sg277 : Sig := ⟨[.v true [(.sl 100 ts_s_Key)] [false]], [⟨false, [(.int .i64)], [false]⟩], false, false, false⟩
def sg244 : Sig := ⟨[.v true [(.sl 100 ts_s_Key)] [false]], [⟨false, [.bool], [false]⟩], false, false, false⟩
def sg195 : Sig := ⟨[.v true qz22 [false, false], .v false [(.int .i64)] [false]], [⟨false, [.bool], [false]⟩], false, false, false⟩
def sg120 : Sig := ⟨[.v true qz22 [false, false]], [⟨false, [.bool], [false]⟩], false, false, false⟩
def sg196 : Sig := ⟨[.v false [(.sl 89 ts_Age)] [false], .v false [(.int .i64)] [false]], [⟨false, [(.int .i64)], [false]⟩], false, false, false⟩
def sg121 : Sig := ⟨[.v false [(.sl 89 ts_Age)] [false]], [⟨false, [.bool], [false]⟩], false, false, false⟩
def sg197 : Sig := ⟨[.v false [(.int .i64)] [false]], [⟨false, [.bool], [false]⟩], false, false, false⟩
def sg122 : Sig := ⟨[.v false [(.sl 95 ts_Cell)] [false]], [⟨false, [.bool], [false]⟩], false, false, false⟩
def sg198 : Sig := ⟨[.v false [.str] [false]], [⟨false, [.bool], [false]⟩], false, false, false⟩
def sg199 : Sig := ⟨[.v false [(.sl 89 ts_Age)] [false], .v false [(.int .i64)] [false]], [⟨false, [(.sl 3 ts_i64)], [true]⟩], false, false, false⟩
def sg123 : Sig := ⟨[.v true qz47 (nf 6)], [⟨false, [.bool], [false]⟩], false, false, false⟩
def sg200 : Sig := ⟨[.v false [(.sl 95 ts_Cell)] [false], .v false [(.int .i64)] [false], .v false [(.int .i64)] [false]], [⟨false, [(.int .i64)], [false]⟩, ⟨false, [.bool], [false]⟩], false, false, false⟩
def sg201 : Sig := ⟨[.v false [(.sl 95 ts_Cell)] [false]], [⟨false, [(.int .i64)], [false]⟩], false, false, false⟩
def sg124 : Sig := ⟨[.v true qz47 (nf 6)], [⟨false, [.bool], [false]⟩], false, false, false⟩
def sg47 : Sig := ⟨[.v true qz47 (nf 6)], [⟨false, [.bool], [false]⟩], false, false, false⟩
def sg84 : Sig := ⟨[.p none qz53 (nf 3)], [⟨false, [(.int .i64)], [false]⟩], false, false, false⟩
def sg83 : Sig := ⟨[.p none qz53 (nf 3)], [⟨false, [(.int .i64)], [false]⟩], false, false, false⟩
def sg86 : Sig := ⟨[.p none qz53 (nf 3)], [⟨false, [.bool], [false]⟩], false, false, false⟩
def sg151 : Sig := ⟨[.v false [(.sl 5 ts_u8)] [false], .v false [(.int .i64)] [false]], [⟨false, [(.int .i64)], [false]⟩, ⟨false, [(.int .i64)], [false]⟩, ⟨false, [.bool], [false]⟩], false, false, false⟩
def sg163 : Sig := ⟨[.v false [(.sl 5 ts_u8)] [false], .v false [(.int .i64)] [false]], [⟨false, [.str], [false]⟩, ⟨false, [(.int .i64)], [false]⟩, ⟨false, [.bool], [false]⟩], false, false, false⟩
def sg85 : Sig := ⟨[.p none qz53 (nf 3)], [⟨true, qz110, (nf 4)⟩], false, false, false⟩
def sg219 : Sig := ⟨[.v false [(.sl 5 ts_u8)] [false], .v false [(.int .i64)] [false]], [⟨true, qz23, (nf 5)⟩, ⟨false, [(.int .i64)], [false]⟩, ⟨false, [.bool], [false]⟩], false, false, false⟩
def sg164 : Sig := ⟨[.p none qz53 (nf 3)], [⟨false, [(.sl 106 ts_Key)], [true]⟩], false, false, false⟩
def sg87 : Sig := ⟨[.p none qz53 (nf 3)], [⟨true, [(.sl 100 ts_s_Key)], [true]⟩], false, false, false⟩
def sg26 : Sig := ⟨[.v false [(.sl 5 ts_u8)] [false]], [⟨true, qz47, [true, true, true, true, true, false]⟩, ⟨false, [.bool], [false]⟩], false, false, false⟩
def sg149 : Sig := ⟨[.v false [(.sl 5 ts_u8)] [false], .v false [(.int .i64)] [false]], [⟨false, [(.int .i64)], [false]⟩], false, false, false⟩
def sg150 : Sig := ⟨[.v false [(.sl 5 ts_u8)] [false]], [⟨false, [(.int .i64)], [false]⟩], false, false, false⟩
def sg152 : Sig := ⟨[.v true qz23 (nf 5)], [⟨false, [.bool], [false]⟩], false, false, false⟩
def sg71 : Sig := ⟨[.v false [(.sl 5 ts_u8)] [false]], [⟨true, qz23, (nf 5)⟩, ⟨false, [.bool], [false]⟩], false, false, false⟩
def sg153 : Sig := ⟨[.v true qz75 (nf 4)], [⟨false, [.bool], [false]⟩], false, false, false⟩
def sg72 : Sig := ⟨[.v true qz75 (nf 4), .v false [(.int .i64)] [false]], [⟨false, [(.sl 5 ts_u8)], [true]⟩], false, false, false⟩
def sg154 : Sig := ⟨[.v false [(.int .i64)] [false], .v false [(.int .i64)] [false]], [⟨false, [(.int .i64)], [false]⟩], false, false, false⟩
def sg73 : Sig := ⟨[.v true qz75 (nf 4), .v true qz23 (nf 5)], [⟨false, [(.sl 5 ts_u8)], [true]⟩, ⟨false, [.bool], [false]⟩], false, false, false⟩
def sg20 : Sig := ⟨[.v true qz75 (nf 4)], [⟨true, qz23, (nf 5)⟩, ⟨false, [(.sl 5 ts_u8)], [false]⟩, ⟨false, [.bool], [false]⟩], false, false, false⟩
def sg27 : Sig := ⟨[.v false [(.sl 5 ts_u8)] [false]], [⟨false, [(.sl 5 ts_u8)], [true]⟩], false, true, false⟩
def sg74 : Sig := ⟨[.v false [(.sl 32 ts_s_u8)] [false]], [⟨false, [(.sl 32 ts_s_u8)], [true]⟩], false, true, false⟩
def sg155 : Sig := ⟨[.v true qz3 [false, false]], [⟨true, qz3, [false, true]⟩], false, true, false⟩
def sg75 : Sig := ⟨[.v false [(.sl 181 ts_LWr)] [false]], [⟨false, [(.sl 186 ts_Wr)], [true]⟩], false, true, false⟩
def sg21 : Sig := ⟨[.v true qz90 (nf 4)], [⟨true, qz75, [true, true, false, false]⟩], false, true, false⟩
def sg134 : Sig := ⟨[.v false [(.int .i64)] [false], .v false [(.int .i64)] [false], .v false [(.int .i64)] [false]], [⟨false, [.bool], [false]⟩], false, false, false⟩
def sg138 : Sig := ⟨[.v true qz23 (nf 5)], [⟨false, [.bool], [false]⟩], false, false, false⟩
def sg279 : Sig := ⟨[.v true qz23 (nf 5), .v true qz23 (nf 5)], [⟨false, [.bool], [false]⟩], false, false, false⟩
def sg246 : Sig := ⟨[.v false [(.sl 106 ts_Key)] [false]], [⟨false, [.bool], [false]⟩], false, false, false⟩
def sg204 : Sig := ⟨[.v true [(.sl 100 ts_s_Key)] [false]], [⟨false, [.bool], [false]⟩], false, false, false⟩
def sg247 : Sig := ⟨[.v false [(.int .i64)] [false], .v false [(.int .i64)] [false]], [⟨false, [(.int .i64)], [false]⟩], false, false, false⟩
def sg205 : Sig := ⟨[.v true qz22 [false, false], .v false [(.int .i64)] [false]], [⟨false, [.bool], [false]⟩], false, false, false⟩
def sg280 : Sig := ⟨[.v false [(.sl 106 ts_Key)] [false]], [⟨false, [(.sl 106 ts_Key)], [true]⟩], false, false, false⟩
def sg302 : Sig := ⟨[.v true qz23 (nf 5), .v true qz23 (nf 5)], [⟨false, [.bool], [false]⟩], false, false, false⟩
def sg281 : Sig := ⟨[.v false [(.sl 106 ts_Key)] [false], .v true qz23 (nf 5)], [⟨false, [(.sl 106 ts_Key)], [true]⟩], false, false, false⟩
def sg248 : Sig := ⟨[.v false [(.sl 106 ts_Key)] [false], .v false [(.sl 106 ts_Key)] [false]], [⟨false, [(.sl 106 ts_Key)], [true]⟩], false, false, false⟩
def sg249 : Sig := ⟨[.v false [(.sl 106 ts_Key)] [false]], [⟨false, [(.sl 106 ts_Key)], [true]⟩], false, false, false⟩
def sg206 : Sig := ⟨[.v true [(.sl 100 ts_s_Key)] [false]], [⟨false, [(.sl 106 ts_Key)], [true]⟩], false, false, false⟩
def sg131 : Sig := ⟨[.v true qz22 [false, false]], [⟨false, [.bool], [false]⟩], false, false, false⟩
def sg251 : Sig := ⟨[.v true qz6 [false, false], .p none [(.int .i64)] [false]], [⟨false, [.bool], [false]⟩], false, false, false⟩
def sg100000 : Sig := ⟨[.v false [(.sl 89 ts_Age)] [false], .p (some 251) [(.int .i64)] [false]], [⟨false, [(.int .i64)], [false]⟩], false, false, false⟩
def sg207 : Sig := ⟨[.v false [(.sl 89 ts_Age)] [false], .v false [(.int .i64)] [false]], [⟨false, [(.int .i64)], [false]⟩], false, false, false⟩
def sg132 : Sig := ⟨[.v false [(.sl 89 ts_Age)] [false]], [⟨false, [.bool], [false]⟩], false, false, false⟩
def sg208 : Sig := ⟨[.v false [(.int .i64)] [false]], [⟨false, [.bool], [false]⟩], false, false, false⟩
def sg133 : Sig := ⟨[.v false [(.sl 95 ts_Cell)] [false]], [⟨false, [.bool], [false]⟩], false, false, false⟩
def sg209 : Sig := ⟨[.v false [.str] [false]], [⟨false, [.bool], [false]⟩], false, false, false⟩
def sg210 : Sig := ⟨[.v false [(.sl 89 ts_Age)] [false], .v false [(.int .i64)] [false]], [⟨false, [(.sl 3 ts_i64)], [true]⟩], false, false, false⟩
def sg212 : Sig := ⟨[.v true qz110 (nf 4), .p none qz110 (nf 4)], [⟨false, [.bool], [false]⟩], false, false, false⟩
def sg100002 : Sig := ⟨[.v false [(.sl 91 ts_Vol)] [false], .p (some 212) qz110 (nf 4)], [⟨false, [(.int .i64)], [false]⟩], false, false, false⟩
def sg100001 : Sig := ⟨[.v false [(.sl 91 ts_Vol)] [false], .p (some 212) qz110 (nf 4)], [⟨false, [.bool], [false]⟩], false, false, false⟩
def sg135 : Sig := ⟨[.v true qz47 (nf 6)], [⟨false, [.bool], [false]⟩], false, false, false⟩
def sg213 : Sig := ⟨[.v true qz22 [false, false]], [⟨false, [(.sl 106 ts_Key)], [true]⟩], false, false, false⟩
def sg214 : Sig := ⟨[.v false [(.sl 95 ts_Cell)] [false], .v false [(.int .i64)] [false], .v false [(.int .i64)] [false]], [⟨false, [(.int .i64)], [false]⟩, ⟨false, [.bool], [false]⟩], false, false, false⟩
def sg215 : Sig := ⟨[.v false [(.sl 95 ts_Cell)] [false]], [⟨false, [(.int .i64)], [false]⟩], false, false, false⟩
def sg136 : Sig := ⟨[.v true qz47 (nf 6)], [⟨false, [.bool], [false]⟩], false, false, false⟩
def sg56 : Sig := ⟨[.v true qz47 (nf 6)], [⟨false, [.bool], [false]⟩], false, false, false⟩
def sg137 : Sig := ⟨[.v false [(.sl 32 ts_s_u8)] [false]], [⟨false, [(.sl 5 ts_u8)], [true]⟩], false, false, false⟩
def sg57 : Sig := ⟨[.v false [(.sl 5 ts_u8)] [false], .v false [(.int .i64)] [false]], [⟨false, [(.sl 5 ts_u8)], [true]⟩], false, false, false⟩
def sg58 : Sig := ⟨[.v false [(.sl 5 ts_u8)] [false], .v false [.str] [false]], [⟨false, [(.sl 5 ts_u8)], [true]⟩], false, false, false⟩
def sg59 : Sig := ⟨[.v false [.bool] [false]], [⟨false, [(.int .u8)], [false]⟩], false, false, false⟩
def sg60 : Sig := ⟨[.v false [(.sl 5 ts_u8)] [false], .v true qz23 (nf 5)], [⟨false, [(.sl 5 ts_u8)], [true]⟩], false, false, false⟩
def sg13 : Sig := ⟨[.v true qz47 (nf 6)], [⟨false, [(.sl 5 ts_u8)], [true]⟩], false, false, false⟩
def sg218 : Sig := ⟨[.v false [(.sl 5 ts_u8)] [false], .v false [(.int .i64)] [false]], [⟨false, [(.int .i64)], [false]⟩, ⟨false, [(.int .i64)], [false]⟩, ⟨false, [.bool], [false]⟩], false, false, false⟩
def sg156 : Sig := ⟨[.p none qz53 (nf 3)], [⟨false, [(.int .i64)], [false]⟩], false, false, false⟩
def sg157 : Sig := ⟨[.p none qz53 (nf 3)], [⟨false, [(.int .i64)], [false]⟩], false, false, false⟩
def sg220 : Sig := ⟨[.v false [(.sl 5 ts_u8)] [false], .v false [(.int .i64)] [false]], [⟨false, [.str], [false]⟩, ⟨false, [(.int .i64)], [false]⟩, ⟨false, [.bool], [false]⟩], false, false, false⟩
def sg165 : Sig := ⟨[.p none qz53 (nf 3)], [⟨false, [.str], [false]⟩], false, false, false⟩
def sg166 : Sig := ⟨[.p none qz53 (nf 3)], [⟨false, [.bool], [false]⟩], false, false, false⟩
def sg221 : Sig := ⟨[.p none qz53 (nf 3)], [⟨true, qz23, (nf 5)⟩], false, false, false⟩
def sg167 : Sig := ⟨[.p none qz53 (nf 3)], [⟨true, [(.sl 100 ts_s_Key)], [true]⟩], false, true, false⟩
def sg88 : Sig := ⟨[.p none qz53 (nf 3)], [⟨true, qz47, [true, true, true, true, true, false]⟩], false, true, false⟩
def sg89 : Sig := ⟨[.p none qz53 (nf 3)], [⟨false, [.bool], [false]⟩], false, false, false⟩
def sg90 : Sig := ⟨[.v false [(.sl 5 ts_u8)] [false], .v false [(.sl 5 ts_u8)] [false]], [⟨false, [.bool], [false]⟩], false, false, false⟩
def sg28 : Sig := ⟨[.v false [(.sl 5 ts_u8)] [false]], [⟨true, qz47, [true, true, true, true, true, false]⟩, ⟨false, [.bool], [false]⟩], false, true, false⟩
def sg110 : Sig := ⟨[.v false [(.sl 5 ts_u8)] [false]], [⟨false, [(.int .i64)], [false]⟩], false, false, false⟩
def sg158 : Sig := ⟨[.p none qz53 (nf 3)], [⟨false, [(.int .i64)], [false]⟩], false, false, false⟩
def sg159 : Sig := ⟨[.v true qz23 (nf 5)], [⟨false, [.bool], [false]⟩], false, false, false⟩
def sg76 : Sig := ⟨[.v false [(.sl 5 ts_u8)] [false]], [⟨true, qz23, (nf 5)⟩, ⟨false, [.bool], [false]⟩], false, false, false⟩
def sg160 : Sig := ⟨[.v true qz75 (nf 4)], [⟨false, [.bool], [false]⟩], false, false, false⟩
def sg77 : Sig := ⟨[.v true qz75 (nf 4), .v false [(.int .i64)] [false]], [⟨false, [(.sl 5 ts_u8)], [true]⟩], false, false, false⟩
def sg161 : Sig := ⟨[.v false [(.int .i64)] [false], .v false [(.int .i64)] [false]], [⟨false, [(.int .i64)], [false]⟩], false, false, false⟩
def sg78 : Sig := ⟨[.v true qz75 (nf 4), .v true qz23 (nf 5)], [⟨false, [(.sl 5 ts_u8)], [true]⟩, ⟨false, [.bool], [false]⟩], false, false, false⟩
def sg22 : Sig := ⟨[.v true qz75 (nf 4)], [⟨true, qz23, (nf 5)⟩, ⟨false, [(.sl 5 ts_u8)], [true]⟩, ⟨false, [.bool], [false]⟩], false, false, false⟩
def sg23 : Sig := ⟨[.v true qz23 (nf 5), .v true qz23 (nf 5)], [⟨false, [.bool], [false]⟩], false, false, false⟩
def sg79 : Sig := ⟨[.v false [(.sl 32 ts_s_u8)] [false], .v false [(.sl 32 ts_s_u8)] [false]], [⟨false, [.bool], [false]⟩], false, false, false⟩
def sg162 : Sig := ⟨[.v true qz3 [false, false], .v true qz3 [false, false]], [⟨false, [.bool], [false]⟩], false, false, false⟩
def sg80 : Sig := ⟨[.v false [(.sl 186 ts_Wr)] [false], .v false [(.sl 186 ts_Wr)] [false]], [⟨false, [.bool], [false]⟩], false, false, false⟩
def sg24 : Sig := ⟨[.v true qz75 (nf 4), .v true qz75 (nf 4)], [⟨false, [.bool], [false]⟩], false, false, false⟩
def sg81 : Sig := ⟨[.v false [(.sl 32 ts_s_u8)] [true], .v false [(.int .i64)] [false]], [⟨false, [(.int .i64)], [false]⟩], false, true, true⟩
def sg82 : Sig := ⟨[.v false [(.sl 186 ts_Wr)] [true], .v false [(.int .i64)] [false]], [⟨false, [(.int .i64)], [false]⟩], false, true, true⟩
def sg25 : Sig := ⟨[.v true qz75 [true, true, false, false], .v false [(.int .i64)] [false]], [⟨false, [(.int .i64)], [false]⟩], false, true, true⟩
def sg4 : Sig := ⟨[.v true qz90 (nf 4)], [⟨false, [.bool], [false]⟩], false, false, false⟩
def sigL : List (Nat × Sig) := [(14, sg14), (17, sg17), (18, sg18), (147, sg147), (69, sg69), (148, sg148), (70, sg70), (19, sg19), (107, sg107), (235, sg235), (266, sg266), (267, sg267), (236, sg236), (261, sg261), (230, sg230), (188, sg188), (264, sg264), (237, sg237), (202, sg202), (300, sg300), (276, sg276), (277, sg277), (244, sg244), (195, sg195), (120, sg120), (196, sg196), (121, sg121), (197, sg197), (122, sg122), (198, sg198), (199, sg199), (123, sg123), (200, sg200), (201, sg201), (124, sg124), (47, sg47), (84, sg84), (83, sg83), (86, sg86), (151, sg151), (163, sg163), (85, sg85), (219, sg219), (164, sg164), (87, sg87), (26, sg26), (149, sg149), (150, sg150), (152, sg152), (71, sg71), (153, sg153), (72, sg72), (154, sg154), (73, sg73), (20, sg20), (27, sg27), (74, sg74), (155, sg155), (75, sg75), (21, sg21), (134, sg134), (138, sg138), (279, sg279), (246, sg246), (204, sg204), (247, sg247), (205, sg205), (280, sg280), (302, sg302), (281, sg281), (248, sg248), (249, sg249), (206, sg206), (131, sg131), (251, sg251), (100000, sg100000), (207, sg207), (132, sg132), (208, sg208), (133, sg133), (209, sg209), (210, sg210), (212, sg212), (100002, sg100002), (100001, sg100001), (135, sg135), (213, sg213), (214, sg214), (215, sg215), (136, sg136), (56, sg56), (137, sg137), (57, sg57), (58, sg58), (59, sg59), (60, sg60), (13, sg13), (218, sg218), (156, sg156), (157, sg157), (220, sg220), (165, sg165), (166, sg166), (221, sg221), (167, sg167), (88, sg88), (89, sg89), (90, sg90), (28, sg28), (110, sg110), (158, sg158), (159, sg159), (76, sg76), (160, sg160), (77, sg77), (161, sg161), (78, sg78), (22, sg22), (23, sg23), (79, sg79), (162, sg162), (80, sg80), (24, sg24), (81, sg81), (82, sg82), (25, sg25), (4, sg4)]
def liveL : List (Nat × (List Nat × List Nat)) := [
 (1400004, [0, 1, 5], [4]),
 (1700002, [0, 1, 5], [0, 1]),
 (1800002, [0, 1, 5], [1, 4]),
 (6900005, [0, 1, 5], [1, 4]),
 (7000005, [0, 1, 5], [1, 4]),
 (23500003, [0, 3, 4], [3]),
 (23600004, [0, 3, 5, 6, 7, 18, 19, 20, 21, 22, 23, 24], [3, 5, 6]),
 (26100003, [1, 5, 6], [5]),
 (23000003, [1, 3, 4], [3]),
 (18800003, [1, 3, 4], [3]),
 (30000002, [0, 3], [2]),
 (27600002, [0, 3, 19, 20, 21], [0, 2, 19, 20, 21]),
 (27700003, [1, 3, 4], [3]),
 (24400002, [1, 3, 19, 20, 21, 22, 23, 24, 25, 32, 33, 34], [1, 2, 32, 33, 34]),
 (19500005, [1, 2, 5, 6, 61, 62, 63, 64, 65, 66, 67, 68, 69, 70, 71, 72, 73, 74, 75, 76], [4]),
 (19500008, [1, 2, 5, 6, 7, 61, 62, 63, 64, 65, 66, 67, 68, 69, 70, 71, 72, 73, 74, 75, 76], [1, 2, 4, 5, 6, 61, 62, 63, 64, 65, 66, 67, 68, 69, 70, 71, 72, 73, 74, 75, 76]),
 (12000004, [1, 3, 35, 36, 37, 38, 39, 40, 41, 42, 43, 44, 45, 46, 49, 50, 51, 52], [1, 2]),
 (19600002, [0, 1, 5], [4]),
 (12100002, [0, 3, 18, 19, 20, 21, 22, 23, 24, 25, 26, 27, 28, 29, 30, 31, 32, 33, 42, 43, 44, 45, 46, 47, 48, 49, 50, 51], [0, 2]),
 (12200002, [0, 3, 18, 19, 20, 21, 22, 23, 24, 27, 28, 29, 30, 31, 32, 33, 34, 35, 36, 37, 38, 39, 40], [0, 2]),
 (19800002, [0, 3, 17, 18, 19, 20, 21, 22], [0, 2]),
 (19900003, [0, 1, 5, 6, 22, 23], [5]),
 (12300002, [1, 3, 23, 24, 25, 26, 29, 30, 31, 32, 33, 34, 37, 38, 39, 40, 41, 42, 43, 46, 47, 48, 49, 50, 51, 52, 53, 54, 55, 56, 57, 58, 59], [1, 2]),
 (12300008, [1, 3, 4, 5, 23, 24, 25, 26, 29, 30, 31, 32, 33, 34, 37, 38, 39, 40, 41, 42, 43, 46, 47, 48, 49, 50, 51, 52, 53, 54, 55, 56, 57, 58, 59], [1, 2, 3, 23, 24, 25, 26, 29, 30, 31, 32, 33, 34, 37, 38, 39, 40, 41, 42, 43, 46, 47, 48, 49, 50, 51, 52, 53, 54, 55, 56, 57, 58, 59]),
 (20100003, [0, 3, 4], [3]),
 (12400004, [1, 3, 4, 5, 65, 66, 67, 68, 69, 70, 71, 72, 73, 74, 75], [1, 2, 4]),
 (12400014, [1, 3, 4, 5, 8, 65, 66, 67, 68, 69, 70, 71, 72, 73, 74, 75], [1, 2, 3, 4, 5, 65, 66, 67, 68, 69, 70, 71, 72, 73, 74, 75]),
 (4700002, [1, 3, 24, 25, 26, 29, 30, 31, 34, 35, 36, 39, 40, 43, 44], [1, 2, 24, 25, 26, 29, 30, 31, 34, 35, 36, 39, 40, 43, 44]),
 (16400003, [0, 3, 4, 14, 15, 16, 17, 18], [0, 2, 3]),
 (8700003, [0, 2, 3, 4, 12, 13, 14, 15, 16], [0, 2, 3]),
 (2600004, [0, 2, 4, 5, 6, 26, 27, 28, 29, 30, 51, 52, 53, 54, 55, 70, 71, 72, 73, 74, 98, 99, 100, 101, 102, 131, 132, 133, 134, 135, 136, 137, 140, 141, 142], [0, 2, 4, 5, 51, 52, 53, 54, 55, 70, 71, 72, 73, 74, 98, 99, 100, 101, 102, 131, 132, 133, 134, 135, 136, 137, 140, 141, 142]),
 (2600010, [0, 2, 4, 5, 8, 51, 52, 53, 54, 55, 70, 71, 72, 73, 74, 98, 99, 100, 101, 102, 131, 132, 133, 134, 135, 136, 137, 140, 141, 142], [0, 2, 4, 5, 70, 71, 72, 73, 74, 98, 99, 100, 101, 102, 131, 132, 133, 134, 135, 136, 137, 140, 141, 142]),
 (2600015, [0, 2, 4, 5, 10, 70, 71, 72, 73, 74, 98, 99, 100, 101, 102, 131, 132, 133, 134, 135, 136, 137, 140, 141, 142], [0, 2, 4, 5, 98, 99, 100, 101, 102, 131, 132, 133, 134, 135, 136, 137, 140, 141, 142]),
 (2600022, [0, 2, 4, 5, 12, 98, 99, 100, 101, 102, 131, 132, 133, 134, 135, 136, 137, 140, 141, 142], [0, 2, 4, 5, 131, 132, 133, 134, 135, 136, 137, 140, 141, 142]),
 (15000003, [0, 3, 4], [3]),
 (15000007, [0, 3, 4, 5], [0, 3, 4]),
 (15300002, [1, 3, 39, 40, 41, 42, 43, 44, 45, 46, 53, 54, 55, 56, 59, 60, 61], [1, 2, 39, 40, 41, 42, 43, 44, 45, 46, 53, 54, 55, 56, 59, 60, 61]),
 (15300007, [1, 4, 39, 40, 41, 42, 43, 44, 45, 46, 53, 54, 55, 56, 59, 60, 61], [1, 2, 53, 54, 55, 56, 59, 60, 61]),
 (7200005, [1, 2, 5, 6], [5]),
 (7300003, [2, 3, 6, 7, 12, 13, 14, 15, 16, 32, 33, 34, 35, 36, 39, 40, 41, 42, 43, 44, 45, 46], [3, 6, 32, 33, 34, 35, 36, 39, 40, 41, 42, 43, 44, 45, 46]),
 (2000005, [1, 2, 5, 6, 7, 8, 31, 32, 33, 34, 35, 38, 39, 40, 41, 42, 43, 44, 45, 60], [2, 5, 6, 7]),
 (2700003, [0, 3, 4], [3]),
 (7400003, [0, 3, 4], [3]),
 (7500003, [0, 3, 4], [3]),
 (24600002, [0, 5, 6, 7, 16, 17, 18, 19, 20, 21, 22, 23, 24, 25, 26, 27], [0, 2]),
 (20400003, [1, 3, 7, 8, 9, 17, 18, 19, 31, 32], [1, 2, 3, 31, 32]),
 (20500002, [1, 2, 15, 16, 17, 40, 41, 42, 43, 44, 45, 46, 47, 48, 49, 50, 51, 52, 53, 54, 55], [4]),
 (20500005, [1, 2, 15, 16, 17, 21, 22, 23, 40, 41, 42, 43, 44, 45, 46, 47, 48, 49, 50, 51, 52, 53, 54, 55], [1, 2, 4, 15, 16, 17, 40, 41, 42, 43, 44, 45, 46, 47, 48, 49, 50, 51, 52, 53, 54, 55]),
 (28100004, [3, 5, 6, 10, 11, 12, 19, 20, 21, 22], [3, 5, 6]),
 (24800003, [5, 10, 11, 12], [5]),
 (24900003, [3, 7, 8, 9], [3]),
 (20600003, [3, 8, 9, 10], [3]),
 (13100005, [1, 3, 29, 30, 31, 39, 40, 41, 42, 43, 44, 45, 46, 47, 48, 49, 50, 53, 54, 55, 58, 59, 60, 61, 69, 70], [2, 3]),
 (10000000002, [0, 1, 7, 8], [1, 4]),
 (13200002, [0, 5, 6, 7, 17, 18, 19, 20, 21, 22, 23, 24, 25, 26, 27, 28, 29, 32, 33, 34, 35, 36, 37, 38, 39, 40, 41, 42, 43], [0, 2]),
 (13300002, [0, 5, 6, 7, 16, 17, 18, 19, 22, 23, 24, 25, 26, 27, 28, 29], [0, 2]),
 (20900002, [0, 3, 17, 18, 19, 20, 21, 22], [0, 2]),
 (21000005, [1, 5, 12, 13, 14], [5]),
 (10000200002, [0, 1, 7, 8], [1, 4]),
 (13500002, [1, 6, 7, 8, 18, 19, 20, 21, 22, 23, 24, 25, 26, 27, 28, 29, 30, 31, 34, 35, 36, 37, 46, 47, 48, 49, 50, 51, 52], [1, 2]),
 (21300003, [3, 8, 9, 10], [3]),
 (21500003, [3, 6, 7, 8], [3]),
 (13600004, [1, 3, 4, 12, 13, 14, 40, 41, 42, 43, 44], [1, 2, 4]),
 (5600004, [1, 28, 29, 30, 43, 44], [1, 2, 43, 44]),
 (13700003, [3, 7, 8, 9], [3]),
 (1300005, [1, 3, 29, 30, 31], [1, 3]),
 (1300011, [1, 3, 53, 54, 55], [1, 3]),
 (1300016, [1, 3, 76, 77, 78], [1, 3]),
 (1300022, [1, 3, 105, 106, 107], [3]),
 (1300026, [1, 3, 105, 106, 107, 127, 128, 129], [1, 3, 105, 106, 107]),
 (1300030, [1, 3, 105, 106, 107, 127, 128, 129, 139, 140, 141], [1, 3, 105, 106, 107, 127, 128, 129]),
 (16700004, [0, 2, 3, 11, 12], [0, 2, 3]),
 (16700008, [0, 2, 3, 5, 11, 12, 17, 18], [0, 2, 3, 5, 11, 12]),
 (8800005, [0, 2, 3, 18, 19], [0, 2, 3]),
 (8800013, [0, 2, 3, 37, 38], [0, 2, 3]),
 (8800022, [0, 2, 3, 60], [0, 2, 3]),
 (8800031, [0, 2, 3, 81, 82], [0, 2, 3]),
 (11000003, [3, 7, 8, 9], [3]),
 (11000007, [3, 7, 8, 9, 17], [3, 7, 8, 9]),
 (16000004, [1, 25, 26, 27, 51, 52, 53, 54], [1, 2, 51, 52, 53, 54]),
 (16000010, [1, 36, 37, 38, 51, 52, 53, 54], [2]),
 (7700004, [1, 2, 5], [1, 2, 4]),
 (7800003, [2, 3, 6, 7, 12, 13, 14, 15, 16, 35, 36, 37, 38, 39, 40, 41, 42], [3, 6, 35, 36, 37, 38, 39, 40, 41, 42]),
 (2200004, [1, 2, 5, 6, 16, 29, 30, 31, 32, 33, 36, 37, 38, 39, 40, 55], [2, 5, 6]),
 (7900004, [0, 1, 5], [4]),
 (8000004, [0, 1, 5], [4]),
 (8100002, [0, 1, 5], [0, 1]),
 (8200002, [0, 1, 5], [0, 1])]
def keyL : List (Nat × List Nat × Nat) := [(250, [251], 100000), (211, [212], 100001), (252, [212], 100002)]
def hintL : List (Nat × List Nat) := [(26, [100016, 100020, 100144]), (73, [42]), (74, [100007]), (75, [100007]), (167, [100030, 100031]), (88, [100100, 100101, 100012]), (28, [100007, 100026]), (78, [100047, 200038]), (22, [1000002000000002])]
def C : Ctx := { info := lookN infoL, sig := lookN sigL, live := fun f i => lookN liveL (100000 * f + i), key := keyNo keyL, fid := fidNo keyL, hint := hintNo hintL }
theorem tok : TOk C Tryz.prog := tok_of (l := infoL) rfl (by kernel_rfl)
theorem mixed : Tryz.prog.follows .mixedOrders = true := by kernel_rfl
abbrev QF := Qf C Tryz.prog
abbrev EV (l : List QF) (lp : Lp) (n : Nat) (fn : Func) (sg : Sig) (ins outs : List Ty) (F : Elts ins → Option (Elts outs)) : Prop := ∀ x, evalB C (tabQ l) lp n fn (bodyOf fn) sg ins outs x = F x
abbrev LF (l : List QF) (lp : Lp) (n i : Nat) (fn : Func) (k : Nat) {T V : Type} (e : T → St) (g : Gk T) (inj : V → T) : Prop := LC C (tabQ l) lp n i (cL fn k) e g inj
abbrev LK (l : List QF) (lp : Lp) (n : Nat) (fn : Func) (k : Nat) : Prop := LoopOk C (tabQ l) lp n (cL fn k)
theorem okN {l : List QF} {lp : Lp} {f g : Nat} {fn : Func} {sg : Sig} {n : Nat} (hfn : Tryz.prog.funcs[g]? = some fn) (hl : AllK (LoopOk C (tabQ l) lp f) (loopsOf (bodyOf fn)) n 0) {F : Elts (C.ins f) → Option (Elts (C.outs f))} (hF : ∀ x, evalB C (tabQ l) lp f fn (bodyOf fn) sg (C.ins f) (C.outs f) x = F x) (hsig : C.sig f = some sg := by kernel_rfl) (hB : fnB C f g fn sg n = true := by kernel_rfl) : ContractAt C Tryz.prog f F := fn_ok tok mixed hfn hsig hB hl hF
theorem lkN {call : C.Sem} {lp : Lp} {f i : Nat} {c : Code} {T : Type} {e : T → St} {u : St → Option T} {g : Gk T} (hu : ∀ s t, u s = some t → e t = s) (hc : LC C call lp f i c e @g (fun t => t)) (hl : laB C f i c = true := by kernel_rfl) (hb : LB lp i u @g := by intro R κ s; kernel_rfl) : LoopOk C call lp f c := loop_okG hl hu hb hc
end Go.Proofs.YtmapoakbdgpamaaGreat.XL
