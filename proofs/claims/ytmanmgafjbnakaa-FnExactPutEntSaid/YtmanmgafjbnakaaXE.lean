/- The context of the evaluator for E: types, signatures, slots that live at loops; by a program (dec.py). No condition. -/
import Derived.Test.YtmanmgafjbnakaaProg
import Derived.Test.YtmanmgafjbnakaaRRow
import Derived.KernelRfl
set_option linter.all false
namespace Go.Proofs.Ytmanmgafjbnakaa.XE
open Go.Proofs.Ytmanmgafjbnakaa.R
set_option maxRecDepth 100000
abbrev ts_u8 : List Ty := [(.int .u8)]
abbrev E_u8 : Type := Int
abbrev z_u8 : E_u8 := zeroE ts_u8
abbrev rd_u8 (xs : List E_u8) (i : Int) : E_u8 := rdE ts_u8 xs i
def v_u8 (x : List E_u8) : A := .val (.sl 5 ts_u8) x
abbrev ts_s_u8 : List Ty := [(.sl 5 ts_u8)]
abbrev E_s_u8 : Type := List E_u8
abbrev z_s_u8 : E_s_u8 := zeroE ts_s_u8
abbrev rd_s_u8 (xs : List E_s_u8) (i : Int) : E_s_u8 := rdE ts_s_u8 xs i
def v_s_u8 (x : List E_s_u8) : A := .val (.sl 27 ts_s_u8) x
abbrev Qz0 : Type := Int × ByteArray × ByteArray × Int × Int × Int
abbrev qz0 : List Ty := [(.int .i64), .str, .str, (.int .i64), (.int .i64), (.int .i64)]
abbrev Qz1 : Type := Int × Int × ByteArray × ByteArray × Int × Int × Int
abbrev qz1 : List Ty := [(.int .i64), (.int .i64), .str, .str, (.int .i64), (.int .i64), (.int .i64)]
abbrev Qz2 : Type := Int × Int × Int
abbrev qz2 : List Ty := [(.int .i64), (.int .i64), (.int .i64)]
abbrev Qz3 : Type := ByteArray × Int
abbrev qz3 : List Ty := [.str, (.int .i64)]
abbrev Qz4 : Type := ByteArray × Bool
abbrev qz4 : List Ty := [.str, .bool]
abbrev Qz5 : Type := Int × ByteArray × ByteArray × Int × Int
abbrev qz5 : List Ty := [(.int .i64), .str, .str, (.int .i64), (.int .i64)]
abbrev Qz6 : Type := Int × Int × ByteArray × ByteArray × Int × Int
abbrev qz6 : List Ty := [(.int .i64), (.int .i64), .str, .str, (.int .i64), (.int .i64)]
abbrev Qz7 : Type := List E_u8 × Int
abbrev qz7 : List Ty := [(.sl 5 ts_u8), (.int .i64)]
abbrev Qz8 : Type := List E_u8 × ByteArray
abbrev qz8 : List Ty := [(.sl 5 ts_u8), .str]
abbrev Qz9 : Type := List E_u8 × Int × ByteArray × ByteArray × Int × Int
abbrev qz9 : List Ty := [(.sl 5 ts_u8), (.int .i64), .str, .str, (.int .i64), (.int .i64)]
abbrev Qz10 : Type := List E_u8 × Int × Int × Int
abbrev qz10 : List Ty := [(.sl 5 ts_u8), (.int .i64), (.int .i64), (.int .i64)]
abbrev Qz11 : Type := List E_u8 × Int × Int
abbrev qz11 : List Ty := [(.sl 5 ts_u8), (.int .i64), (.int .i64)]
abbrev Qz12 : Type := List E_s_u8 × Int × Int × List E_u8
abbrev qz12 : List Ty := [(.sl 27 ts_s_u8), (.int .i64), (.int .i64), (.sl 5 ts_u8)]
abbrev Qz13 : Type := Int × List E_u8 × Int × Int × Int
abbrev qz13 : List Ty := [(.int .i64), (.sl 5 ts_u8), (.int .i64), (.int .i64), (.int .i64)]
abbrev Qz14 : Type := Int × List E_u8 × Int × Int
abbrev qz14 : List Ty := [(.int .i64), (.sl 5 ts_u8), (.int .i64), (.int .i64)]
abbrev Qz15 : Type := List E_u8 × List E_u8 × Int
abbrev qz15 : List Ty := [(.sl 5 ts_u8), (.sl 5 ts_u8), (.int .i64)]
abbrev Qz16 : Type := List E_u8 × List E_u8
abbrev qz16 : List Ty := [(.sl 5 ts_u8), (.sl 5 ts_u8)]
abbrev Qz17 : Type := Int × Int × List E_u8
abbrev qz17 : List Ty := [(.int .i64), (.int .i64), (.sl 5 ts_u8)]
abbrev Qz18 : Type := Int × List E_u8
abbrev qz18 : List Ty := [(.int .i64), (.sl 5 ts_u8)]
abbrev Qz19 : Type := Int × Int
abbrev qz19 : List Ty := [(.int .i64), (.int .i64)]
def infoL : List (Nat × TI) := [
  (3, .c (.int .i64) 8),
  (4, .c (.bool) 1),
  (5, .c (.int .u8) 1),
  (9, .c (.str) 16),
  (23, .s [(0, 3), (1, 9), (2, 9), (3, 3), (4, 3)] [(.int .i64), .str, .str, (.int .i64), (.int .i64)] 56),
  (25, .s [(0, 3), (1, 23)] [(.int .i64), (.int .i64), .str, .str, (.int .i64), (.int .i64)] 64),
  (27, .c (.sl 5 ts_u8) 24),
  (29, .s [(0, 3), (1, 9), (2, 9), (3, 3), (4, 3)] [(.int .i64), .str, .str, (.int .i64), (.int .i64)] 56),
  (31, .s [(0, 3), (1, 29)] [(.int .i64), (.int .i64), .str, .str, (.int .i64), (.int .i64)] 64),
  (51, .c (.sl 27 ts_s_u8) 24)]
def sg61 : Sig := ⟨[.v true qz5 (nf 5), .v false [(.int .i64)] [false]], [⟨false, [(.int .i64)], [false]⟩], false, false, false⟩
def sg11 : Sig := ⟨[.v true qz6 (nf 6), .v false [(.int .i64)] [false]], [⟨false, [(.int .i64)], [false]⟩], false, false, false⟩
def sg86 : Sig := ⟨[.v false [(.int .i64)] [false], .v false [(.int .i64)] [false], .v false [(.int .i64)] [false]], [⟨false, [.bool], [false]⟩], false, false, false⟩
def sg144 : Sig := ⟨[.v false [.str] [false]], [⟨false, [.bool], [false]⟩], false, false, false⟩
def sg145 : Sig := ⟨[.v false [(.int .i64)] [false]], [⟨false, [.bool], [false]⟩], false, false, false⟩
def sg146 : Sig := ⟨[.v true qz5 (nf 5)], [⟨false, [.bool], [false]⟩], false, false, false⟩
def sg110 : Sig := ⟨[.v true qz5 (nf 5)], [⟨false, [.bool], [false]⟩], false, false, false⟩
def sg49 : Sig := ⟨[.v true qz6 (nf 6)], [⟨false, [.bool], [false]⟩], false, false, false⟩
def sg63 : Sig := ⟨[.v false [(.sl 5 ts_u8)] [false], .v false [(.int .i64)] [false]], [⟨false, [(.sl 5 ts_u8)], [true]⟩], false, false, false⟩
def sg130 : Sig := ⟨[.v false [(.sl 5 ts_u8)] [false], .v false [.str] [false]], [⟨false, [(.sl 5 ts_u8)], [true]⟩], false, false, false⟩
def sg62 : Sig := ⟨[.v false [(.sl 5 ts_u8)] [false], .v true qz5 (nf 5)], [⟨false, [(.sl 5 ts_u8)], [true]⟩], false, false, false⟩
def sg64 : Sig := ⟨[.v false [(.sl 5 ts_u8)] [false], .v false [(.int .i64)] [false]], [⟨false, [(.sl 5 ts_u8)], [true]⟩], false, false, false⟩
def sg65 : Sig := ⟨[.v false [(.sl 5 ts_u8)] [false]], [⟨false, [(.int .i64)], [false]⟩], false, false, false⟩
def sg12 : Sig := ⟨[.v true qz6 (nf 6)], [⟨false, [(.sl 5 ts_u8)], [true]⟩], false, false, false⟩
def sg66 : Sig := ⟨[.v true qz5 (nf 5)], [⟨true, qz5, (nf 5)⟩], false, true, false⟩
def sg13 : Sig := ⟨[.v true qz6 (nf 6)], [⟨true, qz6, (nf 6)⟩], false, true, false⟩
def sg85 : Sig := ⟨[.v false [(.int .i64)] [false], .v false [(.int .i64)] [false], .v false [(.int .i64)] [false]], [⟨false, [.bool], [false]⟩], false, false, false⟩
def sg142 : Sig := ⟨[.v false [(.int .i64)] [false]], [⟨false, [.bool], [false]⟩], false, false, false⟩
def sg143 : Sig := ⟨[.v false [.str] [false]], [⟨false, [.bool], [false]⟩], false, false, false⟩
def sg109 : Sig := ⟨[.v true qz5 (nf 5)], [⟨false, [.bool], [false]⟩], false, false, false⟩
def sg48 : Sig := ⟨[.v true qz6 (nf 6)], [⟨false, [.bool], [false]⟩], false, false, false⟩
def sg129 : Sig := ⟨[.v false [(.sl 27 ts_s_u8)] [false]], [⟨false, [(.sl 5 ts_u8)], [true]⟩], false, false, false⟩
def sg68 : Sig := ⟨[.v false [(.sl 5 ts_u8)] [false], .v false [(.int .i64)] [false]], [⟨false, [(.sl 5 ts_u8)], [true]⟩], false, false, false⟩
def sg131 : Sig := ⟨[.v false [(.sl 5 ts_u8)] [false], .v false [.str] [false]], [⟨false, [(.sl 5 ts_u8)], [true]⟩], false, false, false⟩
def sg67 : Sig := ⟨[.v false [(.sl 5 ts_u8)] [false], .v true qz5 (nf 5)], [⟨false, [(.sl 5 ts_u8)], [true]⟩], false, false, false⟩
def sg69 : Sig := ⟨[.v false [(.sl 5 ts_u8)] [false], .v false [(.int .i64)] [false]], [⟨false, [(.sl 5 ts_u8)], [true]⟩], false, false, false⟩
def sg70 : Sig := ⟨[.v false [(.sl 5 ts_u8)] [false]], [⟨false, [(.int .i64)], [false]⟩], false, false, false⟩
def sg14 : Sig := ⟨[.v true qz6 (nf 6)], [⟨false, [(.sl 5 ts_u8)], [true]⟩], false, false, false⟩
def sg15 : Sig := ⟨[.v false [(.sl 5 ts_u8)] [false], .v false [(.sl 5 ts_u8)] [false]], [⟨false, [.bool], [false]⟩], false, false, false⟩
def sg16 : Sig := ⟨[.v false [(.sl 5 ts_u8)] [true], .v false [(.int .i64)] [false]], [⟨false, [(.int .i64)], [false]⟩], false, true, true⟩
def sg17 : Sig := ⟨[.v false [(.sl 5 ts_u8)] [false], .v false [(.int .i64)] [false]], [⟨false, [(.int .i64)], [false]⟩], false, false, false⟩
def sg3 : Sig := ⟨[.v true qz6 (nf 6)], [⟨false, [.bool], [false]⟩], false, false, false⟩
def sigL : List (Nat × Sig) := [(61, sg61), (11, sg11), (86, sg86), (144, sg144), (145, sg145), (146, sg146), (110, sg110), (49, sg49), (63, sg63), (130, sg130), (62, sg62), (64, sg64), (65, sg65), (12, sg12), (66, sg66), (13, sg13), (85, sg85), (142, sg142), (143, sg143), (109, sg109), (48, sg48), (129, sg129), (68, sg68), (131, sg131), (67, sg67), (69, sg69), (70, sg70), (14, sg14), (15, sg15), (16, sg16), (17, sg17), (3, sg3)]
def liveL : List (Nat × (List Nat × List Nat)) := [
  (14400002, [0, 3, 17, 18, 19, 20, 21, 22], [0, 2]),
  (6500003, [0, 3, 4], [3]),
  (6500007, [0, 3, 4, 5], [0, 3, 4]),
  (14300002, [0, 3, 17, 18, 19, 20, 21, 22], [0, 2]),
  (12900003, [3, 7, 8, 9], [3]),
  (7000003, [3, 7, 8, 9], [3]),
  (7000007, [3, 7, 8, 9, 17], [3, 7, 8, 9]),
  (1500004, [0, 1, 5], [4]),
  (1600002, [0, 1, 5], [0, 1]),
  (1700002, [0, 1, 5], [1, 4])]
def keyL : List (Nat × List Nat × Nat) := []
def hintL : List (Nat × List Nat) := [(67, [17])]
def C : Ctx := { info := lookN infoL, sig := lookN sigL, live := fun f i => lookN liveL (100000 * f + i), key := keyNo keyL, fid := fidNo keyL, hint := hintNo hintL }
theorem tok : TOk C Try.prog := tok_of (l := infoL) rfl (by kernel_rfl)
theorem mixed : Try.prog.follows .mixedOrders = true := by kernel_rfl
abbrev QF := Qf C Try.prog
abbrev EV (l : List QF) (lp : Lp) (n : Nat) (fn : Func) (sg : Sig) (ins outs : List Ty) (F : Elts ins → Option (Elts outs)) : Prop := ∀ x, evalB C (tabQ l) lp n fn (bodyOf fn) sg ins outs x = F x
abbrev LF (l : List QF) (lp : Lp) (n i : Nat) (fn : Func) (k : Nat) {T V : Type} (e : T → St) (g : Gk T) (inj : V → T) : Prop := LC C (tabQ l) lp n i (cL fn k) e g inj
abbrev LK (l : List QF) (lp : Lp) (n : Nat) (fn : Func) (k : Nat) : Prop := LoopOk C (tabQ l) lp n (cL fn k)
theorem okN {l : List QF} {lp : Lp} {f g : Nat} {fn : Func} {sg : Sig} {n : Nat} (hfn : Try.prog.funcs[g]? = some fn) (hsig : C.sig f = some sg) (hB : fnB C f g fn sg n = true) (hl : AllK (LoopOk C (tabQ l) lp f) (loopsOf (bodyOf fn)) n 0) {F : Elts (C.ins f) → Option (Elts (C.outs f))} (hF : ∀ x, evalB C (tabQ l) lp f fn (bodyOf fn) sg (C.ins f) (C.outs f) x = F x) : ContractAt C Try.prog f F := fn_ok tok mixed hfn hsig hB hl hF
end Go.Proofs.Ytmanmgafjbnakaa.XE
