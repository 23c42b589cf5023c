/- The context of the evaluator for S: types, signatures, slots that live at loops; by a program (dec.py). No condition. -/
import Derived.Test.YtcabfgbcjiaenaaProg
import Derived.Test.YtcabfgbcjiaenaaRRow
import Derived.KernelRfl
namespace Go.Proofs.Ytcabfgbcjiaenaa.XS
open Go.Proofs.Ytcabfgbcjiaenaa.R
abbrev ts_u8 : List Ty := [(.int .u8)]
abbrev E_u8 : Type := Int
abbrev z_u8 : E_u8 := zeroE ts_u8
abbrev rd_u8 (xs : List E_u8) (i : Int) : E_u8 := rdE ts_u8 xs i
def infoL : List (Nat × TI) := [
  (3, .c (.int .i64) 8),
  (4, .c (.bool) 1),
  (5, .c (.int .u8) 1),
  (30, .s [(0, 3), (1, 3), (2, 3), (3, 3), (4, 3)] [(.int .i64), (.int .i64), (.int .i64), (.int .i64), (.int .i64)] 40),
  (44, .c (.sl 5 ts_u8) 24),
  (64, .s [(0, 44), (1, 3), (2, 4)] [(.sl 5 ts_u8), (.int .i64), .bool] 40)]
def sigL : List (Nat × Sig) := [
  (25, ⟨[.v false [(.sl 5 ts_u8)] [false], .v false [(.sl 5 ts_u8)] [false]], [⟨false, [.bool], [false]⟩]⟩),
  (32, ⟨[.v false [(.int .i64)] [false], .v false [(.int .i64)] [false], .v false [(.int .i64)] [false]], [⟨false, [.bool], [false]⟩]⟩),
  (16, ⟨[.v true [(.int .i64), (.int .i64), (.int .i64), (.int .i64), (.int .i64)] [false, false, false, false, false]], [⟨false, [.bool], [false]⟩]⟩),
  (40, ⟨[.v false [(.sl 5 ts_u8)] [false]], [⟨false, [(.int .i64)], [false]⟩]⟩),
  (44, ⟨[.v false [(.sl 5 ts_u8)] [false], .v false [(.int .i64)] [false]], [⟨false, [(.int .i64)], [false]⟩]⟩),
  (45, ⟨[.v false [(.sl 5 ts_u8)] [false], .v false [(.int .i64)] [false]], [⟨false, [(.int .i64)], [false]⟩, ⟨false, [(.int .i64)], [false]⟩, ⟨false, [.bool], [false]⟩]⟩),
  (28, ⟨[.v false [(.sl 5 ts_u8)] [false]], [⟨true, [(.int .i64), (.int .i64), (.int .i64), (.int .i64), (.int .i64)], [false, false, false, false, false]⟩, ⟨false, [.bool], [false]⟩]⟩),
  (29, ⟨[.v false [(.sl 5 ts_u8)] [false]], [⟨false, [(.sl 5 ts_u8)], [true]⟩]⟩),
  (33, ⟨[.v false [(.int .i64)] [false], .v false [(.int .i64)] [false], .v false [(.int .i64)] [false]], [⟨false, [.bool], [false]⟩]⟩),
  (18, ⟨[.v true [(.int .i64), (.int .i64), (.int .i64), (.int .i64), (.int .i64)] [false, false, false, false, false]], [⟨false, [.bool], [false]⟩]⟩),
  (43, ⟨[.v false [(.sl 5 ts_u8)] [false]], [⟨false, [(.int .i64)], [false]⟩]⟩),
  (56, ⟨[.v false [(.sl 5 ts_u8)] [false], .v false [(.int .i64)] [false]], [⟨false, [(.int .i64)], [false]⟩, ⟨false, [(.int .i64)], [false]⟩, ⟨false, [.bool], [false]⟩]⟩),
  (46, ⟨[.p [(.sl 5 ts_u8), (.int .i64), .bool] [false, false, false]], [⟨false, [(.int .i64)], [false]⟩]⟩),
  (47, ⟨[.p [(.sl 5 ts_u8), (.int .i64), .bool] [false, false, false]], [⟨false, [(.int .i64)], [false]⟩]⟩),
  (48, ⟨[.p [(.sl 5 ts_u8), (.int .i64), .bool] [false, false, false]], [⟨false, [(.int .i64)], [false]⟩]⟩),
  (49, ⟨[.p [(.sl 5 ts_u8), (.int .i64), .bool] [false, false, false]], [⟨false, [.bool], [false]⟩]⟩),
  (30, ⟨[.v false [(.sl 5 ts_u8)] [false]], [⟨true, [(.int .i64), (.int .i64), (.int .i64), (.int .i64), (.int .i64)], [false, false, false, false, false]⟩, ⟨false, [.bool], [false]⟩]⟩),
  (31, ⟨[.v true [(.int .i64), (.int .i64), (.int .i64), (.int .i64), (.int .i64)] [false, false, false, false, false], .v true [(.int .i64), (.int .i64), (.int .i64), (.int .i64), (.int .i64)] [false, false, false, false, false]], [⟨false, [.bool], [false]⟩]⟩),
  (9, ⟨[.v false [(.sl 5 ts_u8)] [false]], [⟨false, [.bool], [false]⟩]⟩)]
def liveL : List (Nat × (List Nat × List Nat)) := [
  (2500004, ([0, 1, 5], [4])),
  (4000003, ([0, 3, 4], [3])),
  (4000007, ([0, 3, 4, 5], [0, 3, 4])),
  (2900003, ([0, 3, 4], [3])),
  (4300003, ([3, 7, 8, 9], [3])),
  (4300007, ([3, 7, 8, 9, 17], [3, 7, 8, 9]))]
def C : Ctx := { info := lookN infoL, sig := lookN sigL, live := fun f i => lookN liveL (100000 * f + i) }
theorem tok : TOk C Try.prog := tok_of (l := infoL) rfl (by kernel_rfl)
theorem mixed : Try.prog.follows .mixedOrders = true := by kernel_rfl
end Go.Proofs.Ytcabfgbcjiaenaa.XS
