/- The context of the evaluator for T: types, signatures, slots that live at loops; by a program (dec.py). No condition. -/
import Derived.Test.YtmanmgafjbnakaaProg
import Derived.Test.YtmanmgafjbnakaaRRow
import Derived.KernelRfl
namespace Go.Proofs.Ytmanmgafjbnakaa.XT
open Go.Proofs.Ytmanmgafjbnakaa.R
abbrev ts_u8 : List Ty := [(.int .u8)]
abbrev E_u8 : Type := Int
abbrev z_u8 : E_u8 := zeroE ts_u8
abbrev rd_u8 (xs : List E_u8) (i : Int) : E_u8 := rdE ts_u8 xs i
def infoL : List (Nat × TI) := [
  (3, .c (.int .i64) 8),
  (4, .c (.bool) 1),
  (5, .c (.int .u8) 1),
  (9, .c (.str) 16),
  (27, .c (.sl 5 ts_u8) 24),
  (29, .s [(0, 3), (1, 9), (2, 9), (3, 3), (4, 3)] [(.int .i64), .str, .str, (.int .i64), (.int .i64)] 56),
  (31, .s [(0, 3), (1, 29)] [(.int .i64), (.int .i64), .str, .str, (.int .i64), (.int .i64)] 64),
  (114, .s [(0, 27), (1, 3), (2, 4)] [(.sl 5 ts_u8), (.int .i64), .bool] 40)]
def sigL : List (Nat × Sig) := [
  (15, ⟨[.v false [(.sl 5 ts_u8)] [false], .v false [(.sl 5 ts_u8)] [false]], [⟨false, [.bool], [false]⟩]⟩),
  (86, ⟨[.v false [(.int .i64)] [false], .v false [(.int .i64)] [false], .v false [(.int .i64)] [false]], [⟨false, [.bool], [false]⟩]⟩),
  (144, ⟨[.v false [.str] [false]], [⟨false, [.bool], [false]⟩]⟩),
  (145, ⟨[.v false [(.int .i64)] [false]], [⟨false, [.bool], [false]⟩]⟩),
  (146, ⟨[.v true [(.int .i64), .str, .str, (.int .i64), (.int .i64)] [false, false, false, false, false]], [⟨false, [.bool], [false]⟩]⟩),
  (110, ⟨[.v true [(.int .i64), .str, .str, (.int .i64), (.int .i64)] [false, false, false, false, false]], [⟨false, [.bool], [false]⟩]⟩),
  (49, ⟨[.v true [(.int .i64), (.int .i64), .str, .str, (.int .i64), (.int .i64)] [false, false, false, false, false, false]], [⟨false, [.bool], [false]⟩]⟩),
  (65, ⟨[.v false [(.sl 5 ts_u8)] [false]], [⟨false, [(.int .i64)], [false]⟩]⟩),
  (83, ⟨[.v false [(.sl 5 ts_u8)] [false], .v false [(.int .i64)] [false]], [⟨false, [(.int .i64)], [false]⟩]⟩),
  (84, ⟨[.v false [(.sl 5 ts_u8)] [false], .v false [(.int .i64)] [false]], [⟨false, [(.int .i64)], [false]⟩, ⟨false, [(.int .i64)], [false]⟩, ⟨false, [.bool], [false]⟩]⟩),
  (134, ⟨[.v false [(.sl 5 ts_u8)] [false], .v false [(.int .i64)] [false]], [⟨false, [.str], [false]⟩, ⟨false, [(.int .i64)], [false]⟩, ⟨false, [.bool], [false]⟩]⟩),
  (87, ⟨[.v false [(.sl 5 ts_u8)] [false], .v false [(.int .i64)] [false]], [⟨true, [(.int .i64), .str, .str, (.int .i64), (.int .i64)], [false, false, false, false, false]⟩, ⟨false, [(.int .i64)], [false]⟩, ⟨false, [.bool], [false]⟩]⟩),
  (30, ⟨[.v false [(.sl 5 ts_u8)] [false]], [⟨true, [(.int .i64), (.int .i64), .str, .str, (.int .i64), (.int .i64)], [false, false, false, false, false, false]⟩, ⟨false, [.bool], [false]⟩]⟩),
  (31, ⟨[.v false [(.sl 5 ts_u8)] [false]], [⟨false, [(.sl 5 ts_u8)], [true]⟩]⟩),
  (85, ⟨[.v false [(.int .i64)] [false], .v false [(.int .i64)] [false], .v false [(.int .i64)] [false]], [⟨false, [.bool], [false]⟩]⟩),
  (142, ⟨[.v false [(.int .i64)] [false]], [⟨false, [.bool], [false]⟩]⟩),
  (143, ⟨[.v false [.str] [false]], [⟨false, [.bool], [false]⟩]⟩),
  (109, ⟨[.v true [(.int .i64), .str, .str, (.int .i64), (.int .i64)] [false, false, false, false, false]], [⟨false, [.bool], [false]⟩]⟩),
  (48, ⟨[.v true [(.int .i64), (.int .i64), .str, .str, (.int .i64), (.int .i64)] [false, false, false, false, false, false]], [⟨false, [.bool], [false]⟩]⟩),
  (70, ⟨[.v false [(.sl 5 ts_u8)] [false]], [⟨false, [(.int .i64)], [false]⟩]⟩),
  (133, ⟨[.v false [(.sl 5 ts_u8)] [false], .v false [(.int .i64)] [false]], [⟨false, [(.int .i64)], [false]⟩, ⟨false, [(.int .i64)], [false]⟩, ⟨false, [.bool], [false]⟩]⟩),
  (79, ⟨[.p [(.sl 5 ts_u8), (.int .i64), .bool] [false, false, false]], [⟨false, [(.int .i64)], [false]⟩]⟩),
  (81, ⟨[.p [(.sl 5 ts_u8), (.int .i64), .bool] [false, false, false]], [⟨false, [(.int .i64)], [false]⟩]⟩),
  (82, ⟨[.p [(.sl 5 ts_u8), (.int .i64), .bool] [false, false, false]], [⟨false, [.bool], [false]⟩]⟩),
  (80, ⟨[.p [(.sl 5 ts_u8), (.int .i64), .bool] [false, false, false]], [⟨false, [(.int .i64)], [false]⟩]⟩),
  (168, ⟨[.v false [(.sl 5 ts_u8)] [false], .v false [(.int .i64)] [false]], [⟨false, [.str], [false]⟩, ⟨false, [(.int .i64)], [false]⟩, ⟨false, [.bool], [false]⟩]⟩),
  (135, ⟨[.p [(.sl 5 ts_u8), (.int .i64), .bool] [false, false, false]], [⟨false, [.str], [false]⟩]⟩),
  (88, ⟨[.p [(.sl 5 ts_u8), (.int .i64), .bool] [false, false, false]], [⟨true, [(.int .i64), .str, .str, (.int .i64), (.int .i64)], [false, false, false, false, false]⟩]⟩),
  (32, ⟨[.v false [(.sl 5 ts_u8)] [false]], [⟨true, [(.int .i64), (.int .i64), .str, .str, (.int .i64), (.int .i64)], [false, false, false, false, false, false]⟩, ⟨false, [.bool], [false]⟩]⟩),
  (89, ⟨[.v true [(.int .i64), .str, .str, (.int .i64), (.int .i64)] [false, false, false, false, false], .v true [(.int .i64), .str, .str, (.int .i64), (.int .i64)] [false, false, false, false, false]], [⟨false, [.bool], [false]⟩]⟩),
  (33, ⟨[.v true [(.int .i64), (.int .i64), .str, .str, (.int .i64), (.int .i64)] [false, false, false, false, false, false], .v true [(.int .i64), (.int .i64), .str, .str, (.int .i64), (.int .i64)] [false, false, false, false, false, false]], [⟨false, [.bool], [false]⟩]⟩),
  (5, ⟨[.v false [(.sl 5 ts_u8)] [false]], [⟨false, [.bool], [false]⟩]⟩)]
def liveL : List (Nat × (List Nat × List Nat)) := [
  (1500004, ([0, 1, 5], [4])),
  (14400002, ([0, 3, 17, 18, 19, 20, 21, 22], [0, 2])),
  (6500003, ([0, 3, 4], [3])),
  (6500007, ([0, 3, 4, 5], [0, 3, 4])),
  (3100003, ([0, 3, 4], [3])),
  (14300002, ([0, 3, 17, 18, 19, 20, 21, 22], [0, 2])),
  (7000003, ([3, 7, 8, 9], [3])),
  (7000007, ([3, 7, 8, 9, 17], [3, 7, 8, 9]))]
def C : Ctx := { info := lookN infoL, sig := lookN sigL, live := fun f i => lookN liveL (100000 * f + i) }
theorem tok : TOk C Try.prog := tok_of (l := infoL) rfl (by kernel_rfl)
theorem mixed : Try.prog.follows .mixedOrders = true := by kernel_rfl
end Go.Proofs.Ytmanmgafjbnakaa.XT
