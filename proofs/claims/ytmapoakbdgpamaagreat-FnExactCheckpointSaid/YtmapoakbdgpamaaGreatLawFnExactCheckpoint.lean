/- FnExactCheckpoint: the statement as it is given: for every input the law returns true, and each argument reads as before. No condition. -/
import Derived.Test.YtmapoakbdgpamaaGreatRows
import Derived.Test.YtmapoakbdgpamaaGreatPureFnExactCheckpoint
import Derived.WalkKit
import Derived.ProofKit
import Derived.OpenShut
import Derived.ShutString
import Derived.ChangeOld
import Derived.Below
import Derived.SizedLaws
namespace Go.Proofs.YtmapoakbdgpamaaGreat.fnExactCheckpoint
open Go.ChangeShapes Go.WideShapes Go.ChangeAt Go.RowKit Go.Proofs.YtmapoakbdgpamaaGreat.R Go.Proofs.YtmapoakbdgpamaaGreat.XQ
set_option linter.unusedVariables false
theorem own : ownKnob Tryz.prog.godebug = none := by kernel_rfl
theorem laidOut : laidOutB Tryz.prog = true := by kernel_rfl
theorem sig : C.sig 8 = some ⟨[.v true [(.sl 32 yc), (.sl 181 wJ), (.int .i64), .bool, (.sl 3 ye), (.sl 216 zD), (.sl 166 jv), (.sl 168 Yz), (.sl 158 Zx), (.int .i64), (.int .i64), (.int .i64), (.int .i64)] [false, false, false, false, false, false, false, false, false, false, false, false, false]], [⟨false, [.bool], [false]⟩], false, false, false⟩ := by kernel_rfl
theorem info0 : C.info 76 = some (.s [(0, 51), (4, 30), (10, 3), (11, 3), (12, 3)] [(.sl 32 yc), (.sl 181 wJ), (.int .i64), .bool, (.sl 3 ye), (.sl 216 zD), (.sl 166 jv), (.sl 168 Yz), (.sl 158 Zx), (.int .i64), (.int .i64), (.int .i64), (.int .i64)] 216) := by kernel_rfl
theorem pure (x : yz (C.ins 8)) (ok : okE (C.ins 8) x) : ∃ y, yY x = some y ∧ yfp (C.outs 8) y := ⟨true, Pure.FnExactCheckpoint x ok, rfl⟩
set_option maxRecDepth 100000 in
theorem lifted (os : Os) (started : os.Started) (H : Type) (enc : TypeId × Value → H) :
    ReturnsInHanded {} Tryz.checked os 8 .any (Rows.fnExactCheckpointSpec.pre6 enc Tryz.prog Tryz.f8 Rows.fnExactCheckpointRow.domain false) (Rows.fnExactCheckpointSpec.post enc Tryz.prog Tryz.f8 false true false false) := by
  refine returnsInHanded_of_change_sized (C := Tryz.checked) own started (by kernel_rfl) Tryz.func8
    (ChangeSpec.witness6 (enc := enc) (C := Tryz.checked) false ⟨#[], #[.agg #[.slice none 0 0, .slice none 0 0, .int .i64 0, .bool false, .slice none 0 0, .slice none 0 0, .slice none 0 0, .slice none 0 0, .slice none 0 0, .int .i64 0, .int .i64 0, .int .i64 0, .int .i64 0]], []⟩ 8 (by kernel_rfl) (by kernel_rfl) (by kernel_rfl) (by kernel_rfl)) ?_
  intro W base args ds gs before hval0 hW hcnd hsz0 _
  have hval : ∀ (j : Nat) t v, Tryz.f8.params[j]? = some t → args[j]? = some v → Value.okWide Tryz.prog W .any base t v := hval0
  have hW' := hW
  obtain ⟨p, q, hA0, hV, rfl, hfz, hnd⟩ := hW
  have hA : DataW.TrodAll enc Tryz.prog W 0 (fun _ => true) true Tryz.f8.params.toList args.toList ds p := hA0
  rw [Tryz.params8] at hA hval
  obtain ⟨v0, vs0, d0, ds0, p0, q0, hargs, rfl, rfl, h0, r0⟩ := trodAll_cons hA
  obtain ⟨rfl, rfl, rfl⟩ := trodAll_nil r0
  obtain rfl : args = #[v0] := by cases args; simp_all
  obtain ⟨rfl, rfl⟩ := trodVars_none hV
  have lt0 : ∀ x ∈ p0, x.block < W.heap.size := by obtain ⟨m, hm⟩ := h0; exact DataW.trod_lt m _ _ _ hm
  refine (yfr (args := [v0]) (show J7 C Tryz.prog 8 yY from q8.ok) sig (by kernel_rfl) (by kernel_rfl) Tryz.func8 (by decide) (Option.ne_none_iff_isSome.2 (by kernel_rfl)) trivial (yea tok info0 (own := [false, false, false, false, false, false, false, false, false, false, false, false, false]) (hval 0 76 v0 rfl rfl) h0 (ye8 W)) pure).mono fun e W' ⟨he, bel0⟩ => ?_
  have bel : Below W.heap.size W W' := bel0
  subst he
  exact ⟨_, rfl, _, _, _, [], _, [], hW', trodAll_mk1 (shut_bool Tryz.underlying4 _), (trodAll_cons_mk (Below.trod laidOut (by kernel_rfl) (of_decide_eq_true (by kernel_rfl)) h0 bel lt0) trodAll_mk0), rfl, bel.frame _, fun h => by cases h⟩
theorem pf0 : Tryz.pinned.checked.prog.inPlace 8 = Rows.fnExactCheckpointRow.inPlace := by kernel_rfl
theorem pf1 : Tryz.pinned.checked.prog.unfollowed 8 = Rows.fnExactCheckpointRow.unfollowed := by kernel_rfl
theorem pf2 : Tryz.pinned.checked.prog.recurses 8 = Rows.fnExactCheckpointRow.recurses := by kernel_rfl
theorem pf3 : Tryz.pinned.checked.prog.varsNamed 8 = Rows.fnExactCheckpointRow.named := by kernel_rfl
theorem jf : joinedFacts Tryz.pinned.checked.prog 8 Tryz.f8 Rows.fnExactCheckpointSpec Rows.fnExactCheckpointRow = true := by
  unfold joinedFacts
  rw [pf0, pf1, pf2, pf3]
  kernel_rfl
theorem fnd : Tryz.pinned.checked.prog.funcNamed Rows.fnExactCheckpointRow.func = some 8 := by kernel_rfl
theorem over : Rows.fnExactCheckpointRow.holds Tryz.pinned (OpenSpec.ofChange Rows.fnExactCheckpointSpec) :=
  OpenClaim.holds_of_wide 8 Tryz.f8 rfl rfl rfl rfl rfl rfl rfl ⟨rfl, rfl, rfl, rfl, rfl⟩ rfl rfl rfl rfl rfl fnd Tryz.func8 jf
    (of_decide_eq_true (by kernel_rfl)) (by unfold Func.isWrapper; first | (rw [if_pos (by decide +kernel)]; kernel_rfl) | (rw [if_neg (by decide +kernel)]; exact ⟨rfl, rfl⟩))
    (fun os started H enc _ => lifted os started H enc)
theorem proved : Rows.FnExactCheckpointSaid := over
#print axioms proved
end Go.Proofs.YtmapoakbdgpamaaGreat.fnExactCheckpoint
namespace Go.Proofs.YtmapoakbdgpamaaGreat
/-- The row, under a short name, for the claim. -/
theorem fnExactCheckpoint_holds : Rows.FnExactCheckpointSaid := fnExactCheckpoint.proved
end Go.Proofs.YtmapoakbdgpamaaGreat
