/- The context of the evaluator for P: types, signatures, slots that live at loops; by a program (dec.py). No condition. -/
import Derived.Test.YtmanmgafjbnakaaDoorProg
import Derived.Test.YtmanmgafjbnakaaDoorRHand
import Derived.Test.YtmanmgafjbnakaaDoorShelf
import Derived.Lib.LaidTab
import Derived.Lib.AppendIntMem
import Derived.Lib.AtoiErrMem
import Derived.WalkKit
import Derived.BigCall
import Derived.KernelRfl
set_option linter.all false
namespace Go.Proofs.YtmanmgafjbnakaaDoor.XP
open Go.Proofs.YtmanmgafjbnakaaDoor.R
set_option maxRecDepth 100000
abbrev Qz0 : Type := Int × Int × Int
abbrev qz0 : List Ty := [(.int .i64), (.int .i64), (.int .i64)]
abbrev Qz1 : Type := ByteArray × Int × Int
abbrev qz1 : List Ty := [.str, (.int .i64), (.int .i64)]
abbrev Qz2 : Type := ByteArray × Int × Bool × Int
abbrev qz2 : List Ty := [.str, (.int .i64), .bool, (.int .i64)]
abbrev Qz3 : Type := ByteArray × Int
abbrev qz3 : List Ty := [.str, (.int .i64)]
abbrev Qz4 : Type := Int × Bool
abbrev qz4 : List Ty := [(.int .i64), .bool]
def infoL : List (Nat × TI) := [
  (3, .c (.int .i64) 8),
  (4, .c (.bool) 1),
  (5, .c (.int .u8) 1),
  (9, .c (.str) 16)]
def sg24 : Sig := ⟨[.v false [(.int .i64)] [false], .v false [(.int .i64)] [false], .v false [(.int .i64)] [false]], [⟨false, [.bool], [false]⟩], false⟩
def sg17 : Sig := ⟨[.v false [.str] [false]], [⟨false, [(.int .i64)], [false]⟩, ⟨false, [.bool], [false]⟩], false⟩
def sg18 : Sig := ⟨[.v false [.str] [false]], [⟨false, [(.int .i64)], [false]⟩, ⟨false, [.bool], [false]⟩], false⟩
def sg6 : Sig := ⟨[.v false [.str] [false]], [⟨false, [.bool], [false]⟩], false⟩
def sigL : List (Nat × Sig) := [(24, sg24), (17, sg17), (18, sg18), (6, sg6)]
def liveL : List (Nat × (List Nat × List Nat)) := [
  (1700003, [0, 4, 5, 11, 12, 35, 36, 37, 38, 39, 40, 41, 42, 45, 46], [0, 2, 3, 4, 35, 36, 37, 38, 39, 40, 41, 42, 45, 46])]
def keyL : List (Nat × List Nat × Nat) := []
def hintL : List (Nat × List Nat) := []
/-- What the law's listed variables hold: the table of powers of ten, two errors. -/
def glT : (Nat → Option Obj) → Prop := fun H => ∀ w : World, Hp.le H (heapOf w) → Lib.TabIs Tryd.prog w "internal/strconv.uint64pow10" .u64 Lib.pow10Tab ∧ (∃ tp p, w.var? Tryd.prog "strconv.ErrSyntax" = some #[.iface tp p]) ∧ ∃ tp p, w.var? Tryd.prog "strconv.ErrRange" = some #[.iface tp p]
theorem glT_mono : ∀ H H' : Nat → Option Obj, (∀ k o, H k = some o → H' k = some o) → glT H → glT H' := fun H H' h hg w hw => hg w (Hp.le.trans h hw)
def C : Ctx := { info := lookN infoL, sig := lookN sigL, live := fun f i => lookN liveL (100000 * f + i), key := keyNo keyL, fid := fidNo keyL, hint := hintNo hintL, gl := glT, glm := glT_mono }
theorem tok : TOk C Tryd.prog := tok_of (l := infoL) rfl (by kernel_rfl)
theorem mixed : Tryd.prog.follows .mixedOrders = true := by kernel_rfl
abbrev QF := Qf C Tryd.prog
abbrev EV (l : List QF) (lp : Lp) (n : Nat) (fn : Func) (sg : Sig) (ins outs : List Ty) (F : Elts ins → Option (Elts outs)) : Prop := ∀ x, evalB C (tabQ l) lp n fn (bodyOf fn) sg ins outs x = F x
abbrev LF (l : List QF) (lp : Lp) (n i : Nat) (fn : Func) (k : Nat) {T V : Type} (e : T → St) (g : Gk T) (inj : V → T) : Prop := LC C (tabQ l) lp n i (cL fn k) e g inj
abbrev LK (l : List QF) (lp : Lp) (n : Nat) (fn : Func) (k : Nat) : Prop := LoopOk C (tabQ l) lp n (cL fn k)
theorem okN {l : List QF} {lp : Lp} {f g : Nat} {fn : Func} {sg : Sig} {n : Nat} (hfn : Tryd.prog.funcs[g]? = some fn) (hsig : C.sig f = some sg) (hB : fnB C f g fn sg n = true) (hl : AllK (LoopOk C (tabQ l) lp f) (loopsOf (bodyOf fn)) n 0) {F : Elts (C.ins f) → Option (Elts (C.outs f))} (hF : ∀ x, evalB C (tabQ l) lp f fn (bodyOf fn) sg (C.ins f) (C.outs f) x = F x) : ContractAt C Tryd.prog f F := fn_ok tok mixed hfn hsig hB hl hF
end Go.Proofs.YtmanmgafjbnakaaDoor.XP
