/- FnExactWriteImage: the statement as it is given: for every input the law returns true, and each argument reads as before. No condition. -/
import Derived.Test.YtibkaphfhdmjlaaRows
import Derived.Test.YtibkaphfhdmjlaaPureFnExactWriteImage
import Derived.WalkKit
import Derived.ProofKit
import Derived.OpenShut
import Derived.ShutString
import Derived.ChangeOld
import Derived.Below
import Derived.SizedLaws
namespace Go.Proofs.Ytibkaphfhdmjlaa.fnExactWriteImage
open Go.ChangeShapes Go.WideShapes Go.ChangeAt Go.RowKit Go.Proofs.Ytibkaphfhdmjlaa.R Go.Proofs.Ytibkaphfhdmjlaa.XJ
set_option linter.unusedVariables false
theorem own : ownKnob Try.prog.godebug = none := by kernel_rfl
theorem laidOut : laidOutB Try.prog = true := by kernel_rfl
theorem sig : C.sig 4 = some ⟨[.v true [(.sl 29 ts_s_u8), (.sl 63 ts_LWr), (.int .i64), .bool] [false, false, false, false], .v false [(.int .i64)] [false], .v false [(.sl 5 ts_u8)] [false]], [⟨false, [.bool], [false]⟩], false, false, false⟩ := by kernel_rfl
theorem info0 : C.info 25 = some (.s [(0, 22), (1, 23), (2, 3), (3, 4)] [(.sl 29 ts_s_u8), (.sl 63 ts_LWr), (.int .i64), .bool] 64) := by kernel_rfl
theorem info1 : C.info 3 = some (.c (.int .i64) 8) := by kernel_rfl
theorem info2 : C.info 29 = some (.c (.sl 5 ts_u8) 24) := by kernel_rfl
theorem pure (x : Elts (C.ins 4)) (ok : okE (C.ins 4) x) : ∃ y, F_laws_FnExactWriteImage x = some y ∧ TrueB (C.outs 4) y := ⟨true, Pure.FnExactWriteImage x ok, rfl⟩
set_option maxRecDepth 100000 in
theorem lifted (os : Os) (started : os.Started) (H : Type) (enc : TypeId × Value → H) :
    ReturnsInHanded {} Try.checked os 4 .any (Rows.fnExactWriteImageSpec.pre6 enc Try.prog Try.f4 Rows.fnExactWriteImageRow.domain false) (Rows.fnExactWriteImageSpec.post enc Try.prog Try.f4 false true false false) := by
  refine returnsInHanded_of_change_sized (C := Try.checked) own started (by kernel_rfl) Try.func4
    (ChangeSpec.witness6 (enc := enc) (C := Try.checked) false ⟨#[], #[.agg #[.slice none 0 0, .slice none 0 0, .int .i64 0, .bool false], .int .i64 0, .slice none 0 0], []⟩ 8 (by kernel_rfl) (by kernel_rfl) (by kernel_rfl) (by kernel_rfl)) ?_
  intro W base args ds gs before hval0 hW hcnd hsz0 _
  have hval : ∀ (j : Nat) t v, Try.f4.params[j]? = some t → args[j]? = some v → Value.okWide Try.prog W .any base t v := hval0
  have hW' := hW
  obtain ⟨p, q, hA0, hV, rfl, hfz, hnd⟩ := hW
  have hA : DataW.TrodAll enc Try.prog W 0 (fun _ => true) true Try.f4.params.toList args.toList ds p := hA0
  rw [Try.params4] at hA hval
  obtain ⟨v0, vs0, d0, ds0, p0, q0, hargs, rfl, rfl, h0, r0⟩ := trodAll_cons hA
  obtain ⟨v1, vs1, d1, ds1, p1, q1, rfl, rfl, rfl, h1, r1⟩ := trodAll_cons r0
  obtain ⟨v2, vs2, d2, ds2, p2, q2, rfl, rfl, rfl, h2, r2⟩ := trodAll_cons r1
  obtain ⟨rfl, rfl, rfl⟩ := trodAll_nil r2
  obtain rfl : args = #[v0, v1, v2] := by cases args; simp_all
  obtain ⟨rfl, rfl⟩ := trodVars_none hV
  have lt0 : ∀ x ∈ p0, x.block < W.heap.size := by obtain ⟨m, hm⟩ := h0; exact DataW.trod_lt m _ _ _ hm
  have lt1 : ∀ x ∈ p1, x.block < W.heap.size := by obtain ⟨m, hm⟩ := h1; exact DataW.trod_lt m _ _ _ hm
  have lt2 : ∀ x ∈ p2, x.block < W.heap.size := by obtain ⟨m, hm⟩ := h2; exact DataW.trod_lt m _ _ _ hm
  refine (law_calls (args := [v0, v1, v2]) (show ContractAt C Try.prog 4 F_laws_FnExactWriteImage from q4.ok) sig (by kernel_rfl) (by kernel_rfl) Try.func4 (by decide) (Option.ne_none_iff_isSome.2 (by kernel_rfl)) trivial (opened_agg tok info0 (own := [false, false, false, false]) (hval 0 25 v0 rfl rfl) h0 (opened_cell tok info1 (own := [false]) (hval 1 3 v1 rfl rfl) h1 (opened_cell tok info2 (own := [false]) (hval 2 29 v2 rfl rfl) h2 (opened_nil W)))) pure).mono fun e W' ⟨he, bel0⟩ => ?_
  have bel : Below W.heap.size W W' := bel0
  subst he
  exact ⟨_, rfl, _, _, _, [], _, [], hW', trodAll_mk1 (shut_bool Try.underlying4 _), (trodAll_cons_mk (Below.trod laidOut (by kernel_rfl) (of_decide_eq_true (by kernel_rfl)) h0 bel lt0) (trodAll_cons_mk (Below.trod laidOut (by kernel_rfl) (of_decide_eq_true (by kernel_rfl)) h1 bel lt1) (trodAll_cons_mk (Below.trod laidOut (by kernel_rfl) (of_decide_eq_true (by kernel_rfl)) h2 bel lt2) trodAll_mk0))), rfl, bel.frame _, fun h => by cases h⟩
theorem over : Rows.fnExactWriteImageRow.holds Try.pinned (OpenSpec.ofChange Rows.fnExactWriteImageSpec) :=
  OpenClaim.holds_of_wide 4 Try.f4 rfl rfl rfl rfl rfl rfl rfl ⟨rfl, rfl, rfl, rfl, rfl⟩ rfl rfl rfl rfl rfl (by kernel_rfl) Try.func4 (by kernel_rfl)
    (of_decide_eq_true (by kernel_rfl)) (by unfold Func.isWrapper; first | (rw [if_pos (by decide +kernel)]; kernel_rfl) | (rw [if_neg (by decide +kernel)]; exact ⟨rfl, rfl⟩))
    (fun os started H enc _ => lifted os started H enc)
theorem proved : Rows.FnExactWriteImageSaid := over
#print axioms proved
end Go.Proofs.Ytibkaphfhdmjlaa.fnExactWriteImage
namespace Go.Proofs.Ytibkaphfhdmjlaa
/-- The row, under a short name, for the claim. -/
theorem fnExactWriteImage_holds : Rows.FnExactWriteImageSaid := fnExactWriteImage.proved
end Go.Proofs.Ytibkaphfhdmjlaa
