/-
  No cell of these rows narrows 'for every input' (looked for: loops, veiled, ifaces, maps, wideKeys, modest, calm, conditions, laid).
  DERIVED. THE GIVEN ROWS OF THIS SEAT. 7 by the template 'for every input the law returns true; each argument reads behind the call as it read before'; 0 by the template 'total and deterministic' (their statements: YtcabfgbcjiaenaaTotals.lean).
  GIVEN WITH THE SEED: the statements are not yours to turn. If you find one false, say at which input.
  Laid BY PROGRAM, IN A SANDBOX (cutbox-rows.mjs): the forced cells as the released guide's own fill.sh prints them over the translation 524bea02741bfa0b… (all of the seat's roots in one cut). By AI agents, Wed Nov 11 2026. No macro, syntax, notation, axiom, sorry.
-/
import Derived.Test.YtcabfgbcjiaenaaChecked
import GoSem.Claim
import GoSem.ClaimJoined
import GoSem.ClaimMapViews
import Derived.JoinedTies
import Derived.KernelRfl
namespace Go.Proofs.Ytcabfgbcjiaenaa
/- THE CELL 'sum', in the pinned program and in every row, IS THE sha256 OF THE DUMP (.gsa) THAT YtcabfgbcjiaenaaProg.lean LOADS. Nothing in Lean hashes anything: it is a label: what it is worth is what the hold of that sum in a sandbox is worth. -/
noncomputable def Try.pinned : Pinned := { name := "ytcabfgbcjiaenaa", sum := "524bea02741bfa0bf38d01331c6e35e4b55338bcd4b259020b820a2ff59308f7", checked := Try.checked }
namespace Rows
def none {H : Type} : Left H := { results := [], args := [] }

/-- 'laws.FnExactSlotOf': WHATEVER THE INPUT: true; the input reads as it did. -/
def fnExactSlotOfSpec : ChangeSpec := { name := "fnExactSlotOf", fn := fun _ => fun
  | [d] => { results := [.lit (.bool true)], args := [d] }
  | _ => none }
def fnExactSlotOfRow : OpenClaim := { program := "ytcabfgbcjiaenaa", sum := "524bea02741bfa0bf38d01331c6e35e4b55338bcd4b259020b820a2ff59308f7", func := "loop.example/g00467/laws.FnExactSlotOf", spec := "fnExactSlotOf", apart := false }
def FnExactSlotOfSaid : Prop := fnExactSlotOfRow.holds Try.pinned (OpenSpec.ofChange fnExactSlotOfSpec)

/-- ITS FALSE NEIGHBOUR: 'it returns false'. Refute it at one input. -/
def fnExactSlotOfWrong : ChangeSpec := { name := "fnExactSlotOf", fn := fun _ => fun
  | [d] => { results := [.lit (.bool false)], args := [d] }
  | _ => none }
def FnExactSlotOfWrongFalsely : Prop := fnExactSlotOfRow.holds Try.pinned (OpenSpec.ofChange fnExactSlotOfWrong)

/-- 'laws.FnExactPartAt': WHATEVER THE INPUT: true; the input reads as it did. -/
def fnExactPartAtSpec : ChangeSpec := { name := "fnExactPartAt", fn := fun _ => fun
  | [d1, d2] => { results := [.lit (.bool true)], args := [d1, d2] }
  | _ => none }
def fnExactPartAtRow : OpenClaim := { program := "ytcabfgbcjiaenaa", sum := "524bea02741bfa0bf38d01331c6e35e4b55338bcd4b259020b820a2ff59308f7", func := "loop.example/g00467/laws.FnExactPartAt", spec := "fnExactPartAt", apart := false }
def FnExactPartAtSaid : Prop := fnExactPartAtRow.holds Try.pinned (OpenSpec.ofChange fnExactPartAtSpec)

/-- ITS FALSE NEIGHBOUR: 'it returns false'. Refute it at one input. -/
def fnExactPartAtWrong : ChangeSpec := { name := "fnExactPartAt", fn := fun _ => fun
  | [d1, d2] => { results := [.lit (.bool false)], args := [d1, d2] }
  | _ => none }
def FnExactPartAtWrongFalsely : Prop := fnExactPartAtRow.holds Try.pinned (OpenSpec.ofChange fnExactPartAtWrong)

/-- 'laws.FnExactCodeText': WHATEVER THE INPUT: true; the input reads as it did. -/
def fnExactCodeTextSpec : ChangeSpec := { name := "fnExactCodeText", fn := fun _ => fun
  | [d] => { results := [.lit (.bool true)], args := [d] }
  | _ => none }
def fnExactCodeTextRow : OpenClaim := { program := "ytcabfgbcjiaenaa", sum := "524bea02741bfa0bf38d01331c6e35e4b55338bcd4b259020b820a2ff59308f7", func := "loop.example/g00467/laws.FnExactCodeText", spec := "fnExactCodeText", apart := false }
def FnExactCodeTextSaid : Prop := fnExactCodeTextRow.holds Try.pinned (OpenSpec.ofChange fnExactCodeTextSpec)

/-- ITS FALSE NEIGHBOUR: 'it returns false'. Refute it at one input. -/
def fnExactCodeTextWrong : ChangeSpec := { name := "fnExactCodeText", fn := fun _ => fun
  | [d] => { results := [.lit (.bool false)], args := [d] }
  | _ => none }
def FnExactCodeTextWrongFalsely : Prop := fnExactCodeTextRow.holds Try.pinned (OpenSpec.ofChange fnExactCodeTextWrong)

/-- 'laws.FnExactSuperOk': WHATEVER THE INPUT: true; the input reads as it did. -/
def fnExactSuperOkSpec : ChangeSpec := { name := "fnExactSuperOk", fn := fun _ => fun
  | [d] => { results := [.lit (.bool true)], args := [d] }
  | _ => none }
def fnExactSuperOkRow : OpenClaim := { program := "ytcabfgbcjiaenaa", sum := "524bea02741bfa0bf38d01331c6e35e4b55338bcd4b259020b820a2ff59308f7", func := "loop.example/g00467/laws.FnExactSuperOk", spec := "fnExactSuperOk", apart := false }
def FnExactSuperOkSaid : Prop := fnExactSuperOkRow.holds Try.pinned (OpenSpec.ofChange fnExactSuperOkSpec)

/-- ITS FALSE NEIGHBOUR: 'it returns false'. Refute it at one input. -/
def fnExactSuperOkWrong : ChangeSpec := { name := "fnExactSuperOk", fn := fun _ => fun
  | [d] => { results := [.lit (.bool false)], args := [d] }
  | _ => none }
def FnExactSuperOkWrongFalsely : Prop := fnExactSuperOkRow.holds Try.pinned (OpenSpec.ofChange fnExactSuperOkWrong)

/-- 'laws.FnExactEntOk': WHATEVER THE INPUT: true; the input reads as it did. -/
def fnExactEntOkSpec : ChangeSpec := { name := "fnExactEntOk", fn := fun _ => fun
  | [d] => { results := [.lit (.bool true)], args := [d] }
  | _ => none }
def fnExactEntOkRow : OpenClaim := { program := "ytcabfgbcjiaenaa", sum := "524bea02741bfa0bf38d01331c6e35e4b55338bcd4b259020b820a2ff59308f7", func := "loop.example/g00467/laws.FnExactEntOk", spec := "fnExactEntOk", apart := false }
def FnExactEntOkSaid : Prop := fnExactEntOkRow.holds Try.pinned (OpenSpec.ofChange fnExactEntOkSpec)

/-- ITS FALSE NEIGHBOUR: 'it returns false'. Refute it at one input. -/
def fnExactEntOkWrong : ChangeSpec := { name := "fnExactEntOk", fn := fun _ => fun
  | [d] => { results := [.lit (.bool false)], args := [d] }
  | _ => none }
def FnExactEntOkWrongFalsely : Prop := fnExactEntOkRow.holds Try.pinned (OpenSpec.ofChange fnExactEntOkWrong)

/-- 'laws.FnExactPutSuper': WHATEVER THE INPUT: true; the input reads as it did. -/
def fnExactPutSuperSpec : ChangeSpec := { name := "fnExactPutSuper", fn := fun _ => fun
  | [d] => { results := [.lit (.bool true)], args := [d] }
  | _ => none }
def fnExactPutSuperRow : OpenClaim := { program := "ytcabfgbcjiaenaa", sum := "524bea02741bfa0bf38d01331c6e35e4b55338bcd4b259020b820a2ff59308f7", func := "loop.example/g00467/laws.FnExactPutSuper", spec := "fnExactPutSuper", apart := false }
def FnExactPutSuperSaid : Prop := fnExactPutSuperRow.holds Try.pinned (OpenSpec.ofChange fnExactPutSuperSpec)

/-- ITS FALSE NEIGHBOUR: 'it returns false'. Refute it at one input. -/
def fnExactPutSuperWrong : ChangeSpec := { name := "fnExactPutSuper", fn := fun _ => fun
  | [d] => { results := [.lit (.bool false)], args := [d] }
  | _ => none }
def FnExactPutSuperWrongFalsely : Prop := fnExactPutSuperRow.holds Try.pinned (OpenSpec.ofChange fnExactPutSuperWrong)

/-- 'laws.FnExactGetSuper': WHATEVER THE INPUT: true; the input reads as it did. -/
def fnExactGetSuperSpec : ChangeSpec := { name := "fnExactGetSuper", fn := fun _ => fun
  | [d] => { results := [.lit (.bool true)], args := [d] }
  | _ => none }
def fnExactGetSuperRow : OpenClaim := { program := "ytcabfgbcjiaenaa", sum := "524bea02741bfa0bf38d01331c6e35e4b55338bcd4b259020b820a2ff59308f7", func := "loop.example/g00467/laws.FnExactGetSuper", spec := "fnExactGetSuper", apart := false }
def FnExactGetSuperSaid : Prop := fnExactGetSuperRow.holds Try.pinned (OpenSpec.ofChange fnExactGetSuperSpec)

/-- ITS FALSE NEIGHBOUR: 'it returns false'. Refute it at one input. -/
def fnExactGetSuperWrong : ChangeSpec := { name := "fnExactGetSuper", fn := fun _ => fun
  | [d] => { results := [.lit (.bool false)], args := [d] }
  | _ => none }
def FnExactGetSuperWrongFalsely : Prop := fnExactGetSuperRow.holds Try.pinned (OpenSpec.ofChange fnExactGetSuperWrong)

/- THE SECOND FORM. 'bulk': how many values and letters a reading holds, each counted each time it is reached (what is shared counts as often as it is met; a slice's spare places count too). A statement '..UptoSaid' is the law's where the arguments, and the package variables that the reading takes, are together of bulk at most 1048576: NARROWER than '..Said'. Prove '..Said' where nothing that the law and all that it calls make is longer than what came in: it says more and counts as full. Else prove '..UptoSaid'. A law counts once. -/
mutual
def uptoBulk {H : Type} : DataW H → Nat
  | .lit (.string bytes) => bytes.length + 1
  | .lit _ => 1
  | .nil => 1
  | .ptr d => uptoBulk d + 1
  | .slice elems spare => uptoBulkAll elems + uptoBulkAll spare + 1
  | .agg parts => uptoBulkAll parts + 1
  | .iface _ d => uptoBulk d + 1
  | .map entries => uptoBulkEntries entries + 1
  | .held _ => 1
def uptoBulkAll {H : Type} : List (DataW H) → Nat
  | [] => 0
  | d :: r => uptoBulk d + uptoBulkAll r
def uptoBulkEntries {H : Type} : List (Lit × DataW H) → Nat
  | [] => 0
  | x :: r => uptoBulkEntry x + uptoBulkEntries r
def uptoBulkEntry {H : Type} : Lit × DataW H → Nat
  | (.string bytes, d) => bytes.length + uptoBulk d + 1
  | (_, d) => uptoBulk d + 1
 end
def uptoSmall : (H : Type) → List (DataW H) → Bool := fun _ ds => decide (uptoBulkAll ds ≤ 1048576)
def OpenSpec.upto (s : _root_.Go.ChangeSpec) : _root_.Go.OpenSpec := { _root_.Go.OpenSpec.ofChange s with cond := some uptoSmall }

/-- 'laws.FnExactSlotOf', WHERE WHAT IT READS IS OF BULK AT MOST 1048576: true; the input reads as it did. -/
def fnExactSlotOfUptoRow : OpenClaim := { program := "ytcabfgbcjiaenaa", sum := "524bea02741bfa0bf38d01331c6e35e4b55338bcd4b259020b820a2ff59308f7", func := "loop.example/g00467/laws.FnExactSlotOf", spec := "fnExactSlotOf", apart := false, narrowed := true }
def FnExactSlotOfUptoSaid : Prop := fnExactSlotOfUptoRow.holds Try.pinned (OpenSpec.upto fnExactSlotOfSpec)

/-- 'laws.FnExactPartAt', WHERE WHAT IT READS IS OF BULK AT MOST 1048576: true; the input reads as it did. -/
def fnExactPartAtUptoRow : OpenClaim := { program := "ytcabfgbcjiaenaa", sum := "524bea02741bfa0bf38d01331c6e35e4b55338bcd4b259020b820a2ff59308f7", func := "loop.example/g00467/laws.FnExactPartAt", spec := "fnExactPartAt", apart := false, narrowed := true }
def FnExactPartAtUptoSaid : Prop := fnExactPartAtUptoRow.holds Try.pinned (OpenSpec.upto fnExactPartAtSpec)

/-- 'laws.FnExactCodeText', WHERE WHAT IT READS IS OF BULK AT MOST 1048576: true; the input reads as it did. -/
def fnExactCodeTextUptoRow : OpenClaim := { program := "ytcabfgbcjiaenaa", sum := "524bea02741bfa0bf38d01331c6e35e4b55338bcd4b259020b820a2ff59308f7", func := "loop.example/g00467/laws.FnExactCodeText", spec := "fnExactCodeText", apart := false, narrowed := true }
def FnExactCodeTextUptoSaid : Prop := fnExactCodeTextUptoRow.holds Try.pinned (OpenSpec.upto fnExactCodeTextSpec)

/-- 'laws.FnExactSuperOk', WHERE WHAT IT READS IS OF BULK AT MOST 1048576: true; the input reads as it did. -/
def fnExactSuperOkUptoRow : OpenClaim := { program := "ytcabfgbcjiaenaa", sum := "524bea02741bfa0bf38d01331c6e35e4b55338bcd4b259020b820a2ff59308f7", func := "loop.example/g00467/laws.FnExactSuperOk", spec := "fnExactSuperOk", apart := false, narrowed := true }
def FnExactSuperOkUptoSaid : Prop := fnExactSuperOkUptoRow.holds Try.pinned (OpenSpec.upto fnExactSuperOkSpec)

/-- 'laws.FnExactEntOk', WHERE WHAT IT READS IS OF BULK AT MOST 1048576: true; the input reads as it did. -/
def fnExactEntOkUptoRow : OpenClaim := { program := "ytcabfgbcjiaenaa", sum := "524bea02741bfa0bf38d01331c6e35e4b55338bcd4b259020b820a2ff59308f7", func := "loop.example/g00467/laws.FnExactEntOk", spec := "fnExactEntOk", apart := false, narrowed := true }
def FnExactEntOkUptoSaid : Prop := fnExactEntOkUptoRow.holds Try.pinned (OpenSpec.upto fnExactEntOkSpec)

/-- 'laws.FnExactPutSuper', WHERE WHAT IT READS IS OF BULK AT MOST 1048576: true; the input reads as it did. -/
def fnExactPutSuperUptoRow : OpenClaim := { program := "ytcabfgbcjiaenaa", sum := "524bea02741bfa0bf38d01331c6e35e4b55338bcd4b259020b820a2ff59308f7", func := "loop.example/g00467/laws.FnExactPutSuper", spec := "fnExactPutSuper", apart := false, narrowed := true }
def FnExactPutSuperUptoSaid : Prop := fnExactPutSuperUptoRow.holds Try.pinned (OpenSpec.upto fnExactPutSuperSpec)

/-- 'laws.FnExactGetSuper', WHERE WHAT IT READS IS OF BULK AT MOST 1048576: true; the input reads as it did. -/
def fnExactGetSuperUptoRow : OpenClaim := { program := "ytcabfgbcjiaenaa", sum := "524bea02741bfa0bf38d01331c6e35e4b55338bcd4b259020b820a2ff59308f7", func := "loop.example/g00467/laws.FnExactGetSuper", spec := "fnExactGetSuper", apart := false, narrowed := true }
def FnExactGetSuperUptoSaid : Prop := fnExactGetSuperUptoRow.holds Try.pinned (OpenSpec.upto fnExactGetSuperSpec)

end Rows
end Go.Proofs.Ytcabfgbcjiaenaa
