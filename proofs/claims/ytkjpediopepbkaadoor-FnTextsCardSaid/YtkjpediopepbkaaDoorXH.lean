/- The context of the evaluator for H: types, signatures, slots that live at loops; by a program (dec.py). No condition. -/
import Derived.Test.YtkjpediopepbkaaDoorProg
import Derived.Test.YtkjpediopepbkaaDoorRHand
import Derived.Test.YtkjpediopepbkaaDoorShelf
import Derived.Lib.LaidTab
import Derived.Lib.AppendIntMem
import Derived.Lib.AtoiErrMem
import Derived.WalkKit
import Derived.BigCall
import Derived.KernelRfl
set_option linter.all false
namespace Go.Proofs.YtkjpediopepbkaaDoor.XH
open Go.Proofs.YtkjpediopepbkaaDoor.R
set_option maxRecDepth 100000
abbrev ts_u8 : List Ty := [(.int .u8)]
abbrev E_u8 : Type := Int
abbrev z_u8 : E_u8 := zeroE ts_u8
abbrev rd_u8 (xs : List E_u8) (i : Int) : E_u8 := rdE ts_u8 xs i
def v_u8 (x : List E_u8) : A := .val (.sl 5 ts_u8) x
abbrev ts_i64 : List Ty := [(.int .i64)]
abbrev E_i64 : Type := Int
abbrev z_i64 : E_i64 := zeroE ts_i64
abbrev rd_i64 (xs : List E_i64) (i : Int) : E_i64 := rdE ts_i64 xs i
def v_i64 (x : List E_i64) : A := .val (.sl 3 ts_i64) x
abbrev ts_string : List Ty := [.str]
abbrev E_string : Type := ByteArray
abbrev z_string : E_string := zeroE ts_string
abbrev rd_string (xs : List E_string) (i : Int) : E_string := rdE ts_string xs i
def v_string (x : List E_string) : A := .val (.sl 9 ts_string) x
abbrev Qz0 : Type := List E_u8 × Int
abbrev qz0 : List Ty := [(.sl 5 ts_u8), (.int .i64)]
abbrev Qz1 : Type := Int × Int × Int
abbrev qz1 : List Ty := [(.int .i64), (.int .i64), (.int .i64)]
abbrev Qz2 : Type := Int × ByteArray × Int
abbrev qz2 : List Ty := [(.int .i64), .str, (.int .i64)]
abbrev Qz3 : Type := Int × ByteArray
abbrev qz3 : List Ty := [(.int .i64), .str]
abbrev Qz4 : Type := List E_u8 × Int × Int
abbrev qz4 : List Ty := [(.sl 5 ts_u8), (.int .i64), (.int .i64)]
abbrev Qz5 : Type := Int × List E_u8 × Int × Int
abbrev qz5 : List Ty := [(.int .i64), (.sl 5 ts_u8), (.int .i64), (.int .i64)]
abbrev Qz6 : Type := List E_u8 × Int × Int × Int
abbrev qz6 : List Ty := [(.sl 5 ts_u8), (.int .i64), (.int .i64), (.int .i64)]
abbrev Qz7 : Type := Bool × List E_u8 × Int × Int
abbrev qz7 : List Ty := [.bool, (.sl 5 ts_u8), (.int .i64), (.int .i64)]
abbrev Qz8 : Type := List E_u8 × Int × Int × List E_string
abbrev qz8 : List Ty := [(.sl 5 ts_u8), (.int .i64), (.int .i64), (.sl 9 ts_string)]
abbrev Qz9 : Type := ByteArray × List E_u8 × Int × Int
abbrev qz9 : List Ty := [.str, (.sl 5 ts_u8), (.int .i64), (.int .i64)]
abbrev Qz10 : Type := ByteArray × Int × Int
abbrev qz10 : List Ty := [.str, (.int .i64), (.int .i64)]
abbrev Qz11 : Type := ByteArray × Int × Bool × Int
abbrev qz11 : List Ty := [.str, (.int .i64), .bool, (.int .i64)]
abbrev Qz12 : Type := ByteArray × Int
abbrev qz12 : List Ty := [.str, (.int .i64)]
abbrev Qz13 : Type := Int × Bool
abbrev qz13 : List Ty := [(.int .i64), .bool]
abbrev Qz14 : Type := List E_u8 × Int × Int × List E_i64
abbrev qz14 : List Ty := [(.sl 5 ts_u8), (.int .i64), (.int .i64), (.sl 3 ts_i64)]
abbrev Qz15 : Type := Int × ByteArray × Bool × List E_u8 × Int × Int × ByteArray × Bool
abbrev qz15 : List Ty := [(.int .i64), .str, .bool, (.sl 5 ts_u8), (.int .i64), (.int .i64), .str, .bool]
abbrev Qz16 : Type := Int × ByteArray × Bool × List E_u8 × Int × Int × ByteArray × Bool × List E_i64
abbrev qz16 : List Ty := [(.int .i64), .str, .bool, (.sl 5 ts_u8), (.int .i64), (.int .i64), .str, .bool, (.sl 3 ts_i64)]
abbrev Qz17 : Type := ByteArray × Bool × ByteArray × Bool
abbrev qz17 : List Ty := [.str, .bool, .str, .bool]
abbrev Qz18 : Type := ByteArray × Bool × ByteArray × Bool × List E_i64
abbrev qz18 : List Ty := [.str, .bool, .str, .bool, (.sl 3 ts_i64)]
abbrev Qz19 : Type := ByteArray × Bool × List E_i64
abbrev qz19 : List Ty := [.str, .bool, (.sl 3 ts_i64)]
abbrev Qz20 : Type := Int × Int × Int × Int × Int × List E_u8 × Int × Int
abbrev qz20 : List Ty := [(.int .i64), (.int .i64), (.int .i64), (.int .i64), (.int .i64), (.sl 5 ts_u8), (.int .i64), (.int .i64)]
abbrev Qz21 : Type := Int × Int × Int × Int × Int
abbrev qz21 : List Ty := [(.int .i64), (.int .i64), (.int .i64), (.int .i64), (.int .i64)]
abbrev Qz22 : Type := ByteArray × List E_i64 × Int × Int × List E_string
abbrev qz22 : List Ty := [.str, (.sl 3 ts_i64), (.int .i64), (.int .i64), (.sl 9 ts_string)]
abbrev Qz23 : Type := ByteArray × List E_string
abbrev qz23 : List Ty := [.str, (.sl 9 ts_string)]
abbrev Qz24 : Type := ByteArray × Int × ByteArray × Bool × List E_i64
abbrev qz24 : List Ty := [.str, (.int .i64), .str, .bool, (.sl 3 ts_i64)]
def infoL : List (Nat × TI) := [
  (3, .c (.int .i64) 8),
  (4, .c (.bool) 1),
  (5, .c (.int .u8) 1),
  (9, .c (.str) 16),
  (22, .c (.sl 5 ts_u8) 24),
  (29, .c (.sl 3 ts_i64) 24),
  (31, .s [(0, 9), (1, 4), (2, 29)] [.str, .bool, (.sl 3 ts_i64)] 48),
  (34, .s [(0, 3), (1, 3), (2, 3), (3, 3), (4, 3)] [(.int .i64), (.int .i64), (.int .i64), (.int .i64), (.int .i64)] 40),
  (48, .c (.sl 9 ts_string) 24),
  (57, .s [(0, 22), (1, 3), (2, 3)] [(.sl 5 ts_u8), (.int .i64), (.int .i64)] 40)]
def sg4 : Sig := ⟨[.v false [(.sl 5 ts_u8)] [false]], [⟨false, [.bool], [false]⟩], false⟩
def sg5 : Sig := ⟨[.v false [(.sl 5 ts_u8)] [false], .v false [(.int .i64)] [false]], [⟨false, [(.int .i64)], [false]⟩], false⟩
def sg23 : Sig := ⟨[.v false [(.int .i64)] [false]], [⟨false, [.str], [false]⟩], false⟩
def sg7 : Sig := ⟨[.v false [(.int .i64)] [false]], [⟨false, [.str], [false]⟩], false⟩
def sg33 : Sig := ⟨[.v false [(.int .i64)] [false], .v false [(.int .i64)] [false], .v false [(.int .i64)] [false]], [⟨false, [.bool], [false]⟩], false⟩
def sg6 : Sig := ⟨[.v false [.str] [false]], [⟨false, [(.int .i64)], [false]⟩, ⟨false, [.bool], [false]⟩], false⟩
def sg20 : Sig := ⟨[.v false [(.int .i64)] [false]], [⟨false, [.str], [false]⟩], false⟩
def sg24 : Sig := ⟨[.v false [(.sl 5 ts_u8)] [false]], [⟨true, qz4, (nf 3)⟩], true⟩
def sg37 : Sig := ⟨[.p none qz4 (nf 3)], [⟨false, [(.int .i64)], [false]⟩], false⟩
def sg27 : Sig := ⟨[.p none qz4 (nf 3), .v false [(.int .i64)] [false]], [⟨false, [(.int .i64)], [false]⟩], false⟩
def sg25 : Sig := ⟨[.p none qz4 (nf 3), .v false [(.int .i64)] [false]], [⟨false, [.bool], [false]⟩], false⟩
def sg26 : Sig := ⟨[.p none qz4 (nf 3), .v false [(.sl 9 ts_string)] [false]], [⟨false, [.str], [false]⟩], false⟩
def sg8 : Sig := ⟨[.v false [(.sl 5 ts_u8)] [false]], [⟨false, [.str], [false]⟩], false⟩
def sg28 : Sig := ⟨[.v false [(.int .i64)] [false], .v false [(.int .i64)] [false], .v false [(.int .i64)] [false]], [⟨false, [.bool], [false]⟩], false⟩
def sg9 : Sig := ⟨[.v false [.str] [false]], [⟨false, [(.int .i64)], [false]⟩, ⟨false, [.bool], [false]⟩], false⟩
def sg29 : Sig := ⟨[.p none qz4 (nf 3)], [⟨false, [.str], [false]⟩], false⟩
def sg38 : Sig := ⟨[.p none qz4 (nf 3), .v false [(.sl 3 ts_i64)] [false]], [⟨false, [(.int .i64)], [false]⟩], false⟩
def sg30 : Sig := ⟨[.p none qz4 (nf 3)], [⟨false, [(.int .i64)], [false]⟩], false⟩
def sg10 : Sig := ⟨[.v false [(.sl 5 ts_u8)] [false]], [⟨true, qz19, [false, false, true]⟩], false⟩
def sg39 : Sig := ⟨[.p none qz4 (nf 3)], [⟨true, qz21, (nf 5)⟩], false⟩
def sg31 : Sig := ⟨[.p none qz4 (nf 3)], [⟨true, qz21, (nf 5)⟩], false⟩
def sg11 : Sig := ⟨[.v false [(.sl 5 ts_u8)] [false]], [⟨true, qz21, (nf 5)⟩], false⟩
def sg12 : Sig := ⟨[.v false [(.sl 5 ts_u8)] [false]], [⟨false, [(.int .i64)], [false]⟩], false⟩
def sg13 : Sig := ⟨[.v false [(.sl 5 ts_u8)] [false]], [⟨false, [(.int .i64)], [false]⟩], false⟩
def sg32 : Sig := ⟨[.v false [(.sl 9 ts_string)] [false], .v false [.str] [false]], [⟨false, [.str], [false]⟩], false⟩
def sg14 : Sig := ⟨[.v true qz19 (nf 3)], [⟨false, [.str], [false]⟩], false⟩
def sg15 : Sig := ⟨[.v true qz19 (nf 3)], [⟨false, [.str], [false]⟩], false⟩
def sg16 : Sig := ⟨[.v true qz21 (nf 5)], [⟨false, [.str], [false]⟩], false⟩
def sg17 : Sig := ⟨[.v true qz21 (nf 5)], [⟨false, [.str], [false]⟩], false⟩
def sg18 : Sig := ⟨[.v false [(.int .i64)] [false]], [⟨false, [.str], [false]⟩], false⟩
def sg19 : Sig := ⟨[.v false [(.int .i64)] [false]], [⟨false, [.str], [false]⟩], false⟩
def sg3 : Sig := ⟨[.v false [(.sl 5 ts_u8)] [false]], [⟨false, [.bool], [false]⟩], false⟩
def sigL : List (Nat × Sig) := [(4, sg4), (5, sg5), (23, sg23), (7, sg7), (33, sg33), (6, sg6), (20, sg20), (24, sg24), (37, sg37), (27, sg27), (25, sg25), (26, sg26), (8, sg8), (28, sg28), (9, sg9), (29, sg29), (38, sg38), (30, sg30), (10, sg10), (39, sg39), (31, sg31), (11, sg11), (12, sg12), (13, sg13), (32, sg32), (14, sg14), (15, sg15), (16, sg16), (17, sg17), (18, sg18), (19, sg19), (3, sg3)]
def liveL : List (Nat × (List Nat × List Nat)) := [
  (2000005, [0, 3, 4], [0, 3]),
  (2400003, [0, 3, 4, 13, 14], [0, 3]),
  (900003, [0, 4, 5, 11, 12, 35, 36, 37, 38, 39, 40, 41, 42, 45, 46], [0, 2, 3, 4, 35, 36, 37, 38, 39, 40, 41, 42, 45, 46]),
  (1000004, [2, 3, 4, 5], [2, 4]),
  (1400006, [3, 4, 15, 16, 17], [3, 4]),
  (1500006, [1, 3, 4], [3])]
def keyL : List (Nat × List Nat × Nat) := []
def hintL : List (Nat × List Nat) := [(10, [1000022000008500])]
/-- What the law's listed variables hold: the table of powers of ten, two errors. -/
def glT : (Nat → Option Obj) → Prop := fun H => ∀ w : World, Hp.le H (heapOf w) → Lib.TabIs Tryd.prog w "internal/strconv.uint64pow10" .u64 Lib.pow10Tab ∧ (∃ tp p, w.var? Tryd.prog "strconv.ErrSyntax" = some #[.iface tp p]) ∧ ∃ tp p, w.var? Tryd.prog "strconv.ErrRange" = some #[.iface tp p]
theorem glT_mono : ∀ H H' : Nat → Option Obj, (∀ k o, H k = some o → H' k = some o) → glT H → glT H' := fun H H' h hg w hw => hg w (Hp.le.trans h hw)
def C : Ctx := { info := lookN infoL, sig := lookN sigL, live := fun f i => lookN liveL (100000 * f + i), key := keyNo keyL, fid := fidNo keyL, hint := hintNo hintL, gl := glT, glm := glT_mono }
theorem tok : TOk C Tryd.prog := tok_of (l := infoL) rfl (by kernel_rfl)
theorem mixed : Tryd.prog.follows .mixedOrders = true := by kernel_rfl
abbrev QF := Qf C Tryd.prog
abbrev EV (l : List QF) (lp : Lp) (n : Nat) (fn : Func) (sg : Sig) (ins outs : List Ty) (F : Elts ins → Option (Elts outs)) : Prop := ∀ x, evalB C (tabQ l) lp n fn (bodyOf fn) sg ins outs x = F x
abbrev LF (l : List QF) (lp : Lp) (n i : Nat) (fn : Func) (k : Nat) {T V : Type} (e : T → St) (g : Gk T) (inj : V → T) : Prop := LC C (tabQ l) lp n i (cL fn k) e g inj
abbrev LK (l : List QF) (lp : Lp) (n : Nat) (fn : Func) (k : Nat) : Prop := LoopOk C (tabQ l) lp n (cL fn k)
theorem okN {l : List QF} {lp : Lp} {f g : Nat} {fn : Func} {sg : Sig} {n : Nat} (hfn : Tryd.prog.funcs[g]? = some fn) (hsig : C.sig f = some sg) (hB : fnB C f g fn sg n = true) (hl : AllK (LoopOk C (tabQ l) lp f) (loopsOf (bodyOf fn)) n 0) {F : Elts (C.ins f) → Option (Elts (C.outs f))} (hF : ∀ x, evalB C (tabQ l) lp f fn (bodyOf fn) sg (C.ins f) (C.outs f) x = F x) : ContractAt C Tryd.prog f F := fn_ok tok mixed hfn hsig hB hl hF
end Go.Proofs.YtkjpediopepbkaaDoor.XH
