/- FnExactReadImage: the statement as it is given: for every input the law returns true, and each argument reads as before. No condition. -/
import Derived.Test.YtibkaphfhdmjlaaRows
import Derived.Test.YtibkaphfhdmjlaaPureFnExactReadImage
import Derived.WalkKit
import Derived.ProofKit
import Derived.OpenShut
import Derived.ShutString
import Derived.ChangeOld
import Derived.Below
import Derived.SizedLaws
namespace Go.Proofs.Ytibkaphfhdmjlaa.fnExactReadImage
open Go.ChangeShapes Go.WideShapes Go.ChangeAt Go.RowKit Go.Proofs.Ytibkaphfhdmjlaa.R Go.Proofs.Ytibkaphfhdmjlaa.XK
set_option linter.unusedVariables false
theorem own : ownKnob Try.prog.godebug = none := by kernel_rfl
theorem laidOut : laidOutB Try.prog = true := by kernel_rfl
theorem sig : C.sig 3 = some ⟨[.v true [(.sl 29 ts_s_u8), (.sl 63 ts_LWr), (.int .i64), .bool] [false, false, false, false], .v true [(.int .i64), (.int .i64), (.int .i64), (.int .i64), (.int .i64)] [false, false, false, false, false]], [⟨false, [.bool], [false]⟩], false, false, false⟩ := by kernel_rfl
theorem info0 : C.info 25 = some (.s [(0, 22), (1, 23), (2, 3), (3, 4)] [(.sl 29 ts_s_u8), (.sl 63 ts_LWr), (.int .i64), .bool] 64) := by kernel_rfl
theorem info1 : C.info 27 = some (.s [(0, 3), (1, 3), (2, 3), (3, 3), (4, 3)] [(.int .i64), (.int .i64), (.int .i64), (.int .i64), (.int .i64)] 40) := by kernel_rfl
theorem pure (x : Elts (C.ins 3)) (ok : okE (C.ins 3) x) : ∃ y, F_laws_FnExactReadImage x = some y ∧ TrueB (C.outs 3) y := ⟨true, Pure.FnExactReadImage x ok, rfl⟩
set_option maxRecDepth 100000 in
theorem lifted (os : Os) (started : os.Started) (H : Type) (enc : TypeId × Value → H) :
    ReturnsInHanded {} Try.checked os 3 .any (Rows.fnExactReadImageSpec.pre6 enc Try.prog Try.f3 Rows.fnExactReadImageRow.domain false) (Rows.fnExactReadImageSpec.post enc Try.prog Try.f3 false true false false) := by
  refine returnsInHanded_of_change_sized (C := Try.checked) own started (by kernel_rfl) Try.func3
    (ChangeSpec.witness6 (enc := enc) (C := Try.checked) false ⟨#[], #[.agg #[.slice none 0 0, .slice none 0 0, .int .i64 0, .bool false], .agg #[.int .i64 0, .int .i64 0, .int .i64 0, .int .i64 0, .int .i64 0]], []⟩ 8 (by kernel_rfl) (by kernel_rfl) (by kernel_rfl) (by kernel_rfl)) ?_
  intro W base args ds gs before hval0 hW hcnd hsz0 _
  have hval : ∀ (j : Nat) t v, Try.f3.params[j]? = some t → args[j]? = some v → Value.okWide Try.prog W .any base t v := hval0
  have hW' := hW
  obtain ⟨p, q, hA0, hV, rfl, hfz, hnd⟩ := hW
  have hA : DataW.TrodAll enc Try.prog W 0 (fun _ => true) true Try.f3.params.toList args.toList ds p := hA0
  rw [Try.params3] at hA hval
  obtain ⟨v0, vs0, d0, ds0, p0, q0, hargs, rfl, rfl, h0, r0⟩ := trodAll_cons hA
  obtain ⟨v1, vs1, d1, ds1, p1, q1, rfl, rfl, rfl, h1, r1⟩ := trodAll_cons r0
  obtain ⟨rfl, rfl, rfl⟩ := trodAll_nil r1
  obtain rfl : args = #[v0, v1] := by cases args; simp_all
  obtain ⟨rfl, rfl⟩ := trodVars_none hV
  have lt0 : ∀ x ∈ p0, x.block < W.heap.size := by obtain ⟨m, hm⟩ := h0; exact DataW.trod_lt m _ _ _ hm
  have lt1 : ∀ x ∈ p1, x.block < W.heap.size := by obtain ⟨m, hm⟩ := h1; exact DataW.trod_lt m _ _ _ hm
  refine (law_calls (args := [v0, v1]) (show ContractAt C Try.prog 3 F_laws_FnExactReadImage from q3.ok) sig (by kernel_rfl) (by kernel_rfl) Try.func3 (by decide) (Option.ne_none_iff_isSome.2 (by kernel_rfl)) trivial (opened_agg tok info0 (own := [false, false, false, false]) (hval 0 25 v0 rfl rfl) h0 (opened_agg tok info1 (own := [false, false, false, false, false]) (hval 1 27 v1 rfl rfl) h1 (opened_nil W))) pure).mono fun e W' ⟨he, bel0⟩ => ?_
  have bel : Below W.heap.size W W' := bel0
  subst he
  exact ⟨_, rfl, _, _, _, [], _, [], hW', trodAll_mk1 (shut_bool Try.underlying4 _), (trodAll_cons_mk (Below.trod laidOut (by kernel_rfl) (of_decide_eq_true (by kernel_rfl)) h0 bel lt0) (trodAll_cons_mk (Below.trod laidOut (by kernel_rfl) (of_decide_eq_true (by kernel_rfl)) h1 bel lt1) trodAll_mk0)), rfl, bel.frame _, fun h => by cases h⟩
theorem over : Rows.fnExactReadImageRow.holds Try.pinned (OpenSpec.ofChange Rows.fnExactReadImageSpec) :=
  OpenClaim.holds_of_wide 3 Try.f3 rfl rfl rfl rfl rfl rfl rfl ⟨rfl, rfl, rfl, rfl, rfl⟩ rfl rfl rfl rfl rfl (by kernel_rfl) Try.func3 (by kernel_rfl)
    (of_decide_eq_true (by kernel_rfl)) (by unfold Func.isWrapper; first | (rw [if_pos (by decide +kernel)]; kernel_rfl) | (rw [if_neg (by decide +kernel)]; exact ⟨rfl, rfl⟩))
    (fun os started H enc _ => lifted os started H enc)
theorem proved : Rows.FnExactReadImageSaid := over
#print axioms proved
end Go.Proofs.Ytibkaphfhdmjlaa.fnExactReadImage
namespace Go.Proofs.Ytibkaphfhdmjlaa
/-- The row, under a short name, for the claim. -/
theorem fnExactReadImage_holds : Rows.FnExactReadImageSaid := fnExactReadImage.proved
end Go.Proofs.Ytibkaphfhdmjlaa
