/- The context of the evaluator for U: types, signatures, slots that live at loops; by a program (dec.py). No condition. -/
import Derived.Test.YtmanmgafjbnakaaProg
import Derived.Test.YtmanmgafjbnakaaRRow
import Derived.KernelRfl
namespace Go.Proofs.Ytmanmgafjbnakaa.XU
open Go.Proofs.Ytmanmgafjbnakaa.R
abbrev ts_u8 : List Ty := [(.int .u8)]
abbrev E_u8 : Type := Int
abbrev z_u8 : E_u8 := zeroE ts_u8
abbrev rd_u8 (xs : List E_u8) (i : Int) : E_u8 := rdE ts_u8 xs i
abbrev ts_s_u8 : List Ty := [(.sl 5 ts_u8)]
abbrev E_s_u8 : Type := List E_u8
abbrev z_s_u8 : E_s_u8 := zeroE ts_s_u8
abbrev rd_s_u8 (xs : List E_s_u8) (i : Int) : E_s_u8 := rdE ts_s_u8 xs i
abbrev ts_i64 : List Ty := [(.int .i64)]
abbrev E_i64 : Type := Int
abbrev z_i64 : E_i64 := zeroE ts_i64
abbrev rd_i64 (xs : List E_i64) (i : Int) : E_i64 := rdE ts_i64 xs i
def infoL : List (Nat × TI) := [
  (3, .c (.int .i64) 8),
  (4, .c (.bool) 1),
  (5, .c (.int .u8) 1),
  (9, .c (.str) 16),
  (27, .c (.sl 5 ts_u8) 24),
  (38, .s [(0, 3), (1, 3), (2, 3), (3, 3), (4, 3)] [(.int .i64), (.int .i64), (.int .i64), (.int .i64), (.int .i64)] 40),
  (51, .c (.sl 27 ts_s_u8) 24),
  (73, .c (.sl 3 ts_i64) 24),
  (114, .s [(0, 27), (1, 3), (2, 4)] [(.sl 5 ts_u8), (.int .i64), .bool] 40),
  (160, .s [(0, 27), (1, 3), (2, 3)] [(.sl 5 ts_u8), (.int .i64), (.int .i64)] 40)]
def sigL : List (Nat × Sig) := [
  (18, ⟨[.v false [(.sl 5 ts_u8)] [false]], [⟨false, [.bool], [false]⟩], false⟩),
  (71, ⟨[.v false [(.sl 5 ts_u8)] [false]], [⟨true, [(.sl 5 ts_u8), (.int .i64), (.int .i64)], [false, false, false]⟩], true⟩),
  (132, ⟨[.p none [(.sl 5 ts_u8), (.int .i64), (.int .i64)] [false, false, false]], [⟨false, [(.int .i64)], [false]⟩], false⟩),
  (78, ⟨[.p none [(.sl 5 ts_u8), (.int .i64), (.int .i64)] [false, false, false], .v false [(.int .i64)] [false]], [⟨false, [(.int .i64)], [false]⟩], false⟩),
  (77, ⟨[.p none [(.sl 5 ts_u8), (.int .i64), (.int .i64)] [false, false, false], .v false [(.sl 3 ts_i64)] [false]], [⟨false, [(.int .i64)], [false]⟩], false⟩),
  (75, ⟨[.p none [(.sl 5 ts_u8), (.int .i64), (.int .i64)] [false, false, false]], [⟨true, [(.int .i64), (.int .i64), (.int .i64), (.int .i64), (.int .i64)], [false, false, false, false, false]⟩], false⟩),
  (72, ⟨[.p none [(.sl 5 ts_u8), (.int .i64), (.int .i64)] [false, false, false]], [⟨true, [(.int .i64), (.int .i64), (.int .i64), (.int .i64), (.int .i64)], [false, false, false, false, false]⟩], false⟩),
  (19, ⟨[.v false [(.sl 5 ts_u8)] [false]], [⟨true, [(.int .i64), (.int .i64), (.int .i64), (.int .i64), (.int .i64)], [false, false, false, false, false]⟩], false⟩),
  (85, ⟨[.v false [(.int .i64)] [false], .v false [(.int .i64)] [false], .v false [(.int .i64)] [false]], [⟨false, [.bool], [false]⟩], false⟩),
  (25, ⟨[.v true [(.int .i64), (.int .i64), (.int .i64), (.int .i64), (.int .i64)] [false, false, false, false, false]], [⟨false, [.bool], [false]⟩], false⟩),
  (129, ⟨[.v false [(.sl 27 ts_s_u8)] [false]], [⟨false, [(.sl 5 ts_u8)], [true]⟩], false⟩),
  (68, ⟨[.v false [(.sl 5 ts_u8)] [false], .v false [(.int .i64)] [false]], [⟨false, [(.sl 5 ts_u8)], [true]⟩], false⟩),
  (69, ⟨[.v false [(.sl 5 ts_u8)] [false], .v false [(.int .i64)] [false]], [⟨false, [(.sl 5 ts_u8)], [true]⟩], false⟩),
  (70, ⟨[.v false [(.sl 5 ts_u8)] [false]], [⟨false, [(.int .i64)], [false]⟩], false⟩),
  (20, ⟨[.v true [(.int .i64), (.int .i64), (.int .i64), (.int .i64), (.int .i64)] [false, false, false, false, false]], [⟨false, [(.sl 5 ts_u8)], [true]⟩], false⟩),
  (64, ⟨[.v false [(.sl 5 ts_u8)] [false], .v false [(.int .i64)] [false]], [⟨false, [(.sl 5 ts_u8)], [true]⟩], false⟩),
  (65, ⟨[.v false [(.sl 5 ts_u8)] [false]], [⟨false, [(.int .i64)], [false]⟩], false⟩),
  (73, ⟨[.p none [(.sl 5 ts_u8), (.int .i64), (.int .i64)] [false, false, false], .v false [(.sl 5 ts_u8)] [false]], [⟨false, [(.sl 5 ts_u8)], [true]⟩], false⟩),
  (86, ⟨[.v false [(.int .i64)] [false], .v false [(.int .i64)] [false], .v false [(.int .i64)] [false]], [⟨false, [.bool], [false]⟩], false⟩),
  (26, ⟨[.v true [(.int .i64), (.int .i64), (.int .i64), (.int .i64), (.int .i64)] [false, false, false, false, false]], [⟨false, [.bool], [false]⟩], false⟩),
  (63, ⟨[.v false [(.sl 5 ts_u8)] [false], .v false [(.int .i64)] [false]], [⟨false, [(.sl 5 ts_u8)], [true]⟩], false⟩),
  (74, ⟨[.v true [(.int .i64), (.int .i64), (.int .i64), (.int .i64), (.int .i64)] [false, false, false, false, false]], [⟨false, [(.sl 5 ts_u8)], [true]⟩], false⟩),
  (76, ⟨[.p none [(.sl 5 ts_u8), (.int .i64), (.int .i64)] [false, false, false], .v false [(.int .i64)] [false]], [⟨false, [.bool], [false]⟩], false⟩),
  (21, ⟨[.v false [(.sl 5 ts_u8)] [false]], [⟨false, [(.sl 5 ts_u8)], [true]⟩], false⟩),
  (133, ⟨[.v false [(.sl 5 ts_u8)] [false], .v false [(.int .i64)] [false]], [⟨false, [(.int .i64)], [false]⟩, ⟨false, [(.int .i64)], [false]⟩, ⟨false, [.bool], [false]⟩], false⟩),
  (79, ⟨[.p none [(.sl 5 ts_u8), (.int .i64), .bool] [false, false, false]], [⟨false, [(.int .i64)], [false]⟩], false⟩),
  (80, ⟨[.p none [(.sl 5 ts_u8), (.int .i64), .bool] [false, false, false]], [⟨false, [(.int .i64)], [false]⟩], false⟩),
  (81, ⟨[.p none [(.sl 5 ts_u8), (.int .i64), .bool] [false, false, false]], [⟨false, [(.int .i64)], [false]⟩], false⟩),
  (82, ⟨[.p none [(.sl 5 ts_u8), (.int .i64), .bool] [false, false, false]], [⟨false, [.bool], [false]⟩], false⟩),
  (22, ⟨[.v false [(.sl 5 ts_u8)] [false]], [⟨true, [(.int .i64), (.int .i64), (.int .i64), (.int .i64), (.int .i64)], [false, false, false, false, false]⟩, ⟨false, [.bool], [false]⟩], false⟩),
  (83, ⟨[.v false [(.sl 5 ts_u8)] [false], .v false [(.int .i64)] [false]], [⟨false, [(.int .i64)], [false]⟩], false⟩),
  (84, ⟨[.v false [(.sl 5 ts_u8)] [false], .v false [(.int .i64)] [false]], [⟨false, [(.int .i64)], [false]⟩, ⟨false, [(.int .i64)], [false]⟩, ⟨false, [.bool], [false]⟩], false⟩),
  (23, ⟨[.v false [(.sl 5 ts_u8)] [false]], [⟨true, [(.int .i64), (.int .i64), (.int .i64), (.int .i64), (.int .i64)], [false, false, false, false, false]⟩, ⟨false, [.bool], [false]⟩], false⟩),
  (24, ⟨[.v false [(.sl 5 ts_u8)] [false]], [⟨false, [(.int .i64)], [false]⟩, ⟨false, [(.int .i64)], [false]⟩], false⟩),
  (27, ⟨[.v false [(.int .i64)] [false], .v false [(.int .i64)] [false]], [⟨false, [(.int .i64)], [false]⟩], false⟩),
  (28, ⟨[.v false [(.int .i64)] [false], .v false [(.int .i64)] [false]], [⟨false, [(.int .i64)], [false]⟩], false⟩),
  (29, ⟨[.v false [(.sl 5 ts_u8)] [false], .v false [(.int .i64)] [false]], [⟨false, [(.int .i64)], [false]⟩], false⟩),
  (4, ⟨[.v false [(.sl 5 ts_u8)] [false]], [⟨false, [.bool], [false]⟩], false⟩)]
def liveL : List (Nat × (List Nat × List Nat)) := [
  (7100003, ([0, 3, 4, 13, 14], [0, 3])),
  (12900003, ([3, 7, 8, 9], [3])),
  (7000003, ([3, 7, 8, 9], [3])),
  (7000007, ([3, 7, 8, 9, 17], [3, 7, 8, 9])),
  (6500003, ([0, 3, 4], [3])),
  (6500007, ([0, 3, 4, 5], [0, 3, 4]))]
def keyL : List (Nat × List Nat × Nat) := []
def hintL : List (Nat × List Nat) := [(73, [100019, 1000033000900]), (21, [100021])]
def C : Ctx := { info := lookN infoL, sig := lookN sigL, live := fun f i => lookN liveL (100000 * f + i), key := keyNo keyL, fid := fidNo keyL, hint := hintNo hintL }
theorem tok : TOk C Try.prog := tok_of (l := infoL) rfl (by kernel_rfl)
theorem mixed : Try.prog.follows .mixedOrders = true := by kernel_rfl
end Go.Proofs.Ytmanmgafjbnakaa.XU
