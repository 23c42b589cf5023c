/- FnExactStepsLeft: the statement as it is given: for every input the law returns true, and each argument reads as before. No condition. -/
import Derived.Test.YtmapoakbdgpamaaGreatRows
import Derived.Test.YtmapoakbdgpamaaGreatPureFnExactStepsLeft
import Derived.WalkKit
import Derived.ProofKit
import Derived.OpenShut
import Derived.ShutString
import Derived.ChangeOld
import Derived.Below
import Derived.SizedLaws
namespace Go.Proofs.YtmapoakbdgpamaaGreat.fnExactStepsLeft
open Go.ChangeShapes Go.WideShapes Go.ChangeAt Go.RowKit Go.Proofs.YtmapoakbdgpamaaGreat.R Go.Proofs.YtmapoakbdgpamaaGreat.XP
set_option linter.unusedVariables false
theorem own : ownKnob Tryz.prog.godebug = none := by kernel_rfl
theorem laidOut : laidOutB Tryz.prog = true := by kernel_rfl
theorem sig : C.sig 9 = some ⟨[.v true [(.sl 3 yd), (.sl 216 Yl), (.sl 166 wq), (.sl 168 jl), (.sl 158 Ji), (.int .i64)] [false, false, false, false, false, false]], [⟨false, [.bool], [false]⟩], false, false, false⟩ := by kernel_rfl
theorem info0 : C.info 30 = some (.s [(0, 25), (2, 26), (3, 27), (4, 28), (5, 3)] [(.sl 3 yd), (.sl 216 Yl), (.sl 166 wq), (.sl 168 jl), (.sl 158 Ji), (.int .i64)] 128) := by kernel_rfl
theorem pure (x : yB (C.ins 9)) (ok : okE (C.ins 9) x) : ∃ y, zc x = some y ∧ ycZ (C.outs 9) y := ⟨true, Pure.FnExactStepsLeft x ok, rfl⟩
set_option maxRecDepth 100000 in
theorem lifted (os : Os) (started : os.Started) (H : Type) (enc : TypeId × Value → H) :
    ReturnsInHanded {} Tryz.checked os 9 .any (Rows.fnExactStepsLeftSpec.pre6 enc Tryz.prog Tryz.f9 Rows.fnExactStepsLeftRow.domain false) (Rows.fnExactStepsLeftSpec.post enc Tryz.prog Tryz.f9 false true false false) := by
  refine returnsInHanded_of_change_sized (C := Tryz.checked) own started (by kernel_rfl) Tryz.func9
    (ChangeSpec.witness6 (enc := enc) (C := Tryz.checked) false ⟨#[], #[.agg #[.slice none 0 0, .slice none 0 0, .slice none 0 0, .slice none 0 0, .slice none 0 0, .int .i64 0]], []⟩ 8 (by kernel_rfl) (by kernel_rfl) (by kernel_rfl) (by kernel_rfl)) ?_
  intro W base args ds gs before hval0 hW hcnd hsz0 _
  have hval : ∀ (j : Nat) t v, Tryz.f9.params[j]? = some t → args[j]? = some v → Value.okWide Tryz.prog W .any base t v := hval0
  have hW' := hW
  obtain ⟨p, q, hA0, hV, rfl, hfz, hnd⟩ := hW
  have hA : DataW.TrodAll enc Tryz.prog W 0 (fun _ => true) true Tryz.f9.params.toList args.toList ds p := hA0
  rw [Tryz.params9] at hA hval
  obtain ⟨v0, vs0, d0, ds0, p0, q0, hargs, rfl, rfl, h0, r0⟩ := trodAll_cons hA
  obtain ⟨rfl, rfl, rfl⟩ := trodAll_nil r0
  obtain rfl : args = #[v0] := by cases args; simp_all
  obtain ⟨rfl, rfl⟩ := trodVars_none hV
  have lt0 : ∀ x ∈ p0, x.block < W.heap.size := by obtain ⟨m, hm⟩ := h0; exact DataW.trod_lt m _ _ _ hm
  refine (yd1 (args := [v0]) (show j6 C Tryz.prog 9 zc from q9.ok) sig (by kernel_rfl) (by kernel_rfl) Tryz.func9 (by decide) (Option.ne_none_iff_isSome.2 (by kernel_rfl)) trivial (ybX tok info0 (own := [false, false, false, false, false, false]) (hval 0 30 v0 rfl rfl) h0 (ybV W)) pure).mono fun e W' ⟨he, bel0⟩ => ?_
  have bel : Below W.heap.size W W' := bel0
  subst he
  exact ⟨_, rfl, _, _, _, [], _, [], hW', trodAll_mk1 (shut_bool Tryz.underlying4 _), (trodAll_cons_mk (Below.trod laidOut (by kernel_rfl) (of_decide_eq_true (by kernel_rfl)) h0 bel lt0) trodAll_mk0), rfl, bel.frame _, fun h => by cases h⟩
theorem pf0 : Tryz.pinned.checked.prog.inPlace 9 = Rows.fnExactStepsLeftRow.inPlace := by kernel_rfl
theorem pf1 : Tryz.pinned.checked.prog.unfollowed 9 = Rows.fnExactStepsLeftRow.unfollowed := by kernel_rfl
theorem pf2 : Tryz.pinned.checked.prog.recurses 9 = Rows.fnExactStepsLeftRow.recurses := by kernel_rfl
theorem pf3 : Tryz.pinned.checked.prog.varsNamed 9 = Rows.fnExactStepsLeftRow.named := by kernel_rfl
theorem jf : joinedFacts Tryz.pinned.checked.prog 9 Tryz.f9 Rows.fnExactStepsLeftSpec Rows.fnExactStepsLeftRow = true := by
  unfold joinedFacts
  rw [pf0, pf1, pf2, pf3]
  kernel_rfl
theorem fnd : Tryz.pinned.checked.prog.funcNamed Rows.fnExactStepsLeftRow.func = some 9 := by kernel_rfl
theorem over : Rows.fnExactStepsLeftRow.holds Tryz.pinned (OpenSpec.ofChange Rows.fnExactStepsLeftSpec) :=
  OpenClaim.holds_of_wide 9 Tryz.f9 rfl rfl rfl rfl rfl rfl rfl ⟨rfl, rfl, rfl, rfl, rfl⟩ rfl rfl rfl rfl rfl fnd Tryz.func9 jf
    (of_decide_eq_true (by kernel_rfl)) (by unfold Func.isWrapper; first | (rw [if_pos (by decide +kernel)]; kernel_rfl) | (rw [if_neg (by decide +kernel)]; exact ⟨rfl, rfl⟩))
    (fun os started H enc _ => lifted os started H enc)
theorem proved : Rows.FnExactStepsLeftSaid := over
#print axioms proved
end Go.Proofs.YtmapoakbdgpamaaGreat.fnExactStepsLeft
namespace Go.Proofs.YtmapoakbdgpamaaGreat
/-- The row, under a short name, for the claim. -/
theorem fnExactStepsLeft_holds : Rows.FnExactStepsLeftSaid := fnExactStepsLeft.proved
end Go.Proofs.YtmapoakbdgpamaaGreat
