/- The context of the evaluator for N: types, signatures, slots that live at loops; by a program (dec.py). No condition. -/
import Derived.Test.YtmanmgafjbnakaaDoorProg
import Derived.Test.YtmanmgafjbnakaaDoorRHand
import Derived.Test.YtmanmgafjbnakaaDoorShelf
import Derived.Lib.LaidTab
import Derived.Lib.AppendIntMem
import Derived.KernelRfl
set_option linter.all false
namespace Go.Proofs.YtmanmgafjbnakaaDoor.XN
open Go.Proofs.YtmanmgafjbnakaaDoor.R
set_option maxRecDepth 100000
abbrev ts_i64 : List Ty := [(.int .i64)]
abbrev E_i64 : Type := Int
abbrev z_i64 : E_i64 := zeroE ts_i64
abbrev rd_i64 (xs : List E_i64) (i : Int) : E_i64 := rdE ts_i64 xs i
def v_i64 (x : List E_i64) : A := .val (.sl 3 ts_i64) x
abbrev ts_u8 : List Ty := [(.int .u8)]
abbrev E_u8 : Type := Int
abbrev z_u8 : E_u8 := zeroE ts_u8
abbrev rd_u8 (xs : List E_u8) (i : Int) : E_u8 := rdE ts_u8 xs i
def v_u8 (x : List E_u8) : A := .val (.sl 5 ts_u8) x
abbrev ts_string : List Ty := [.str]
abbrev E_string : Type := ByteArray
abbrev z_string : E_string := zeroE ts_string
abbrev rd_string (xs : List E_string) (i : Int) : E_string := rdE ts_string xs i
def v_string (x : List E_string) : A := .val (.sl 9 ts_string) x
abbrev Qz0 : Type := Int × ByteArray × Int
abbrev qz0 : List Ty := [(.int .i64), .str, (.int .i64)]
abbrev Qz1 : Type := Int × ByteArray
abbrev qz1 : List Ty := [(.int .i64), .str]
abbrev Qz2 : Type := Int × Int × Int × Int × Int
abbrev qz2 : List Ty := [(.int .i64), (.int .i64), (.int .i64), (.int .i64), (.int .i64)]
abbrev Qz3 : Type := List E_i64 × Int
abbrev qz3 : List Ty := [(.sl 3 ts_i64), (.int .i64)]
abbrev Qz4 : Type := ByteArray × Bool × List E_i64 × Int
abbrev qz4 : List Ty := [.str, .bool, (.sl 3 ts_i64), (.int .i64)]
abbrev Qz5 : Type := ByteArray × Int × ByteArray × Bool × List E_i64
abbrev qz5 : List Ty := [.str, (.int .i64), .str, .bool, (.sl 3 ts_i64)]
abbrev Qz6 : Type := ByteArray × Bool × List E_i64
abbrev qz6 : List Ty := [.str, .bool, (.sl 3 ts_i64)]
abbrev Qz7 : Type := List E_i64 × Int × List E_i64
abbrev qz7 : List Ty := [(.sl 3 ts_i64), (.int .i64), (.sl 3 ts_i64)]
abbrev Qz8 : Type := ByteArray × List E_i64 × Int × Int × List E_string
abbrev qz8 : List Ty := [.str, (.sl 3 ts_i64), (.int .i64), (.int .i64), (.sl 9 ts_string)]
abbrev Qz9 : Type := ByteArray × List E_string
abbrev qz9 : List Ty := [.str, (.sl 9 ts_string)]
abbrev Qz10 : Type := List E_i64 × List E_i64 × Int
abbrev qz10 : List Ty := [(.sl 3 ts_i64), (.sl 3 ts_i64), (.int .i64)]
abbrev Qz11 : Type := List E_i64 × List E_i64
abbrev qz11 : List Ty := [(.sl 3 ts_i64), (.sl 3 ts_i64)]
abbrev Qz12 : Type := ByteArray × Bool × List E_i64 × ByteArray × Bool × List E_i64
abbrev qz12 : List Ty := [.str, .bool, (.sl 3 ts_i64), .str, .bool, (.sl 3 ts_i64)]
def infoL : List (Nat × TI) := [
  (3, .c (.int .i64) 8),
  (4, .c (.bool) 1),
  (5, .c (.int .u8) 1),
  (9, .c (.str) 16),
  (25, .s [(0, 3), (1, 3), (2, 3), (3, 3), (4, 3)] [(.int .i64), (.int .i64), (.int .i64), (.int .i64), (.int .i64)] 40),
  (27, .s [(0, 3), (1, 3), (2, 3), (3, 3), (4, 3)] [(.int .i64), (.int .i64), (.int .i64), (.int .i64), (.int .i64)] 40),
  (30, .c (.sl 3 ts_i64) 24),
  (32, .s [(0, 9), (1, 4), (2, 30)] [.str, .bool, (.sl 3 ts_i64)] 48),
  (35, .s [(0, 9), (1, 4), (2, 30)] [.str, .bool, (.sl 3 ts_i64)] 48),
  (42, .c (.sl 5 ts_u8) 24),
  (45, .c (.sl 9 ts_string) 24)]
def sg7 : Sig := ⟨[.v false [(.int .i64)] [false]], [⟨false, [.str], [false]⟩], false⟩
def sg19 : Sig := ⟨[.v false [(.int .i64)] [false]], [⟨false, [.str], [false]⟩], false⟩
def sg8 : Sig := ⟨[.v false [(.int .i64)] [false]], [⟨false, [.str], [false]⟩], false⟩
def sg3 : Sig := ⟨[.v false [(.int .i64)] [false]], [⟨false, [.bool], [false]⟩], false⟩
def sg9 : Sig := ⟨[.v true qz2 (nf 5)], [⟨false, [.str], [false]⟩], false⟩
def sg10 : Sig := ⟨[.v true qz2 (nf 5)], [⟨true, qz2, (nf 5)⟩], false⟩
def sg11 : Sig := ⟨[.v true qz2 (nf 5)], [⟨false, [.str], [false]⟩], false⟩
def sg4 : Sig := ⟨[.v true qz2 (nf 5)], [⟨false, [.bool], [false]⟩], false⟩
def sg20 : Sig := ⟨[.v false [(.sl 3 ts_i64)] [false], .v false [(.int .i64)] [false]], [⟨false, [(.int .i64)], [false]⟩], false⟩
def sg12 : Sig := ⟨[.v true qz6 (nf 3), .v false [(.int .i64)] [false]], [⟨false, [(.int .i64)], [false]⟩], false⟩
def sg13 : Sig := ⟨[.v true qz6 (nf 3)], [⟨false, [.str], [false]⟩], false⟩
def sg21 : Sig := ⟨[.v false [(.sl 3 ts_i64)] [false]], [⟨false, [(.sl 3 ts_i64)], [true]⟩], false⟩
def sg14 : Sig := ⟨[.v true qz6 (nf 3)], [⟨true, qz6, [false, false, true]⟩], false⟩
def sg22 : Sig := ⟨[.v false [(.sl 9 ts_string)] [false], .v false [.str] [false]], [⟨false, [.str], [false]⟩], false⟩
def sg15 : Sig := ⟨[.v true qz6 (nf 3)], [⟨false, [.str], [false]⟩], false⟩
def sg23 : Sig := ⟨[.v false [(.sl 3 ts_i64)] [false], .v false [(.sl 3 ts_i64)] [false]], [⟨false, [.bool], [false]⟩], false⟩
def sg16 : Sig := ⟨[.v true qz6 (nf 3), .v true qz6 (nf 3)], [⟨false, [.bool], [false]⟩], false⟩
def sg5 : Sig := ⟨[.v true qz6 (nf 3)], [⟨false, [.bool], [false]⟩], false⟩
def sigL : List (Nat × Sig) := [(7, sg7), (19, sg19), (8, sg8), (3, sg3), (9, sg9), (10, sg10), (11, sg11), (4, sg4), (20, sg20), (12, sg12), (13, sg13), (21, sg21), (14, sg14), (22, sg22), (15, sg15), (23, sg23), (16, sg16), (5, sg5)]
def liveL : List (Nat × (List Nat × List Nat)) := [
  (700005, [0, 3, 4], [0, 3]),
  (1300006, [1, 3, 4], [3]),
  (2100003, [0, 3, 4], [3]),
  (1500006, [3, 4, 15, 16, 17], [3, 4]),
  (2300004, [0, 1, 5], [4])]
def keyL : List (Nat × List Nat × Nat) := []
def hintL : List (Nat × List Nat) := []
/-- What the law's listed variables hold: the table of powers of ten. -/
def glT : (Nat → Option Obj) → Prop := fun H => ∀ w : World, Hp.le H (heapOf w) → Lib.TabIs Tryd.prog w "internal/strconv.uint64pow10" .u64 Lib.pow10Tab
theorem glT_mono : ∀ H H' : Nat → Option Obj, (∀ k o, H k = some o → H' k = some o) → glT H → glT H' := fun H H' h hg w hw => hg w (Hp.le.trans h hw)
def C : Ctx := { info := lookN infoL, sig := lookN sigL, live := fun f i => lookN liveL (100000 * f + i), key := keyNo keyL, fid := fidNo keyL, hint := hintNo hintL, gl := glT, glm := glT_mono }
theorem tok : TOk C Tryd.prog := tok_of (l := infoL) rfl (by kernel_rfl)
theorem mixed : Tryd.prog.follows .mixedOrders = true := by kernel_rfl
abbrev QF := Qf C Tryd.prog
abbrev EV (l : List QF) (lp : Lp) (n : Nat) (fn : Func) (sg : Sig) (ins outs : List Ty) (F : Elts ins → Option (Elts outs)) : Prop := ∀ x, evalB C (tabQ l) lp n fn (bodyOf fn) sg ins outs x = F x
abbrev LF (l : List QF) (lp : Lp) (n i : Nat) (fn : Func) (k : Nat) {T V : Type} (e : T → St) (g : Gk T) (inj : V → T) : Prop := LC C (tabQ l) lp n i (cL fn k) e g inj
abbrev LK (l : List QF) (lp : Lp) (n : Nat) (fn : Func) (k : Nat) : Prop := LoopOk C (tabQ l) lp n (cL fn k)
theorem okN {l : List QF} {lp : Lp} {f g : Nat} {fn : Func} {sg : Sig} {n : Nat} (hfn : Tryd.prog.funcs[g]? = some fn) (hsig : C.sig f = some sg) (hB : fnB C f g fn sg n = true) (hl : AllK (LoopOk C (tabQ l) lp f) (loopsOf (bodyOf fn)) n 0) {F : Elts (C.ins f) → Option (Elts (C.outs f))} (hF : ∀ x, evalB C (tabQ l) lp f fn (bodyOf fn) sg (C.ins f) (C.outs f) x = F x) : ContractAt C Tryd.prog f F := fn_ok tok mixed hfn hsig hB hl hF
end Go.Proofs.YtmanmgafjbnakaaDoor.XN
