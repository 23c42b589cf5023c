/- FnExactSync: the statement as it is given: for every input the law returns true, and each argument reads as before. No condition. -/
import Derived.Test.YtmapoakbdgpamaaGreatRows
import Derived.Test.YtmapoakbdgpamaaGreatPureFnExactSync
import Derived.WalkKit
import Derived.ProofKit
import Derived.OpenShut
import Derived.ShutString
import Derived.ChangeOld
import Derived.Below
import Derived.JoinedOf
import Derived.SizedLaws
namespace Go.Proofs.YtmapoakbdgpamaaGreat.fnExactSync
open Go.ChangeShapes Go.WideShapes Go.ChangeAt Go.RowKit Go.Proofs.YtmapoakbdgpamaaGreat.R Go.Proofs.YtmapoakbdgpamaaGreat.XM
set_option linter.unusedVariables false
theorem own : ownKnob Tryz.prog.godebug = none := by kernel_rfl
theorem laidOut : laidOutB Tryz.prog = true := by kernel_rfl
theorem sig : C.sig 7 = some ⟨[.v true [(.sl 32 ts_s_u8), (.sl 181 ts_LWr), (.int .i64), .bool, (.sl 3 ts_i64), (.sl 216 ts_LNode), (.sl 166 ts_LAge), (.sl 168 ts_LCell), (.sl 158 ts_LVol), (.int .i64), (.int .i64), (.int .i64), (.int .i64)] [false, false, false, false, false, false, false, false, false, false, false, false, false]], [⟨false, [.bool], [false]⟩], false, false, false⟩ := by kernel_rfl
theorem info0 : C.info 76 = some (.s [(0, 51), (4, 30), (10, 3), (11, 3), (12, 3)] [(.sl 32 ts_s_u8), (.sl 181 ts_LWr), (.int .i64), .bool, (.sl 3 ts_i64), (.sl 216 ts_LNode), (.sl 166 ts_LAge), (.sl 168 ts_LCell), (.sl 158 ts_LVol), (.int .i64), (.int .i64), (.int .i64), (.int .i64)] 216) := by kernel_rfl
theorem pure (x : Elts (C.ins 7)) (ok : okE (C.ins 7) x) : ∃ y, F_laws_FnExactSync x = some y ∧ TrueB (C.outs 7) y := ⟨true, Pure.FnExactSync x ok, rfl⟩
set_option maxRecDepth 100000 in
theorem lifted (os : Os) (started : os.Started) (H : Type) (enc : TypeId × Value → H) :
    ReturnsInHanded {} Tryz.checked os 7 .any (Rows.fnExactSyncSpec.pre6 enc Tryz.prog Tryz.f7 Rows.fnExactSyncRow.domain false) (Rows.fnExactSyncSpec.post enc Tryz.prog Tryz.f7 false true false false) := by
  refine returnsInHanded_of_change_sized (C := Tryz.checked) own started (by kernel_rfl) Tryz.func7
    (ChangeSpec.witness6 (enc := enc) (C := Tryz.checked) false ⟨#[], #[.agg #[.slice none 0 0, .slice none 0 0, .int .i64 0, .bool false, .slice none 0 0, .slice none 0 0, .slice none 0 0, .slice none 0 0, .slice none 0 0, .int .i64 0, .int .i64 0, .int .i64 0, .int .i64 0]], []⟩ 8 (by kernel_rfl) (by kernel_rfl) (by kernel_rfl) (by kernel_rfl)) ?_
  intro W base args ds gs before hval0 hW hcnd hsz0 _
  have hval : ∀ (j : Nat) t v, Tryz.f7.params[j]? = some t → args[j]? = some v → Value.okWide Tryz.prog W .any base t v := hval0
  have hW' := hW
  obtain ⟨p, q, hA0, hV, rfl, hfz, hnd⟩ := hW
  have hA : DataW.TrodAll enc Tryz.prog W 0 (fun _ => true) true Tryz.f7.params.toList args.toList ds p := hA0
  rw [Tryz.params7] at hA hval
  obtain ⟨v0, vs0, d0, ds0, p0, q0, hargs, rfl, rfl, h0, r0⟩ := trodAll_cons hA
  obtain ⟨rfl, rfl, rfl⟩ := trodAll_nil r0
  obtain rfl : args = #[v0] := by cases args; simp_all
  obtain ⟨rfl, rfl⟩ := trodVars_none hV
  have lt0 : ∀ x ∈ p0, x.block < W.heap.size := by obtain ⟨m, hm⟩ := h0; exact DataW.trod_lt m _ _ _ hm
  refine (law_calls (args := [v0]) (show ContractAt C Tryz.prog 7 F_laws_FnExactSync from q7.ok) sig (by kernel_rfl) (by kernel_rfl) Tryz.func7 (by decide) (Option.ne_none_iff_isSome.2 (by kernel_rfl)) trivial (opened_agg tok info0 (own := [false, false, false, false, false, false, false, false, false, false, false, false, false]) (hval 0 76 v0 rfl rfl) h0 (opened_nil W)) pure).mono fun e W' ⟨he, bel0⟩ => ?_
  have bel : Below W.heap.size W W' := bel0
  subst he
  exact ⟨_, rfl, _, _, _, [], _, [], hW', trodAll_mk1 (shut_bool Tryz.underlying4 _), (trodAll_cons_mk (Below.trod laidOut (by kernel_rfl) (of_decide_eq_true (by kernel_rfl)) h0 bel lt0) trodAll_mk0), rfl, bel.frame _, fun h => by cases h⟩
theorem pf0 : Tryz.pinned.checked.prog.inPlace 7 = Rows.fnExactSyncRow.inPlace := by kernel_rfl
theorem pf1 : Tryz.pinned.checked.prog.unfollowed 7 = Rows.fnExactSyncRow.unfollowed := by kernel_rfl
theorem pf2 : Tryz.pinned.checked.prog.recurses 7 = Rows.fnExactSyncRow.recurses := by kernel_rfl
theorem pf3 : Tryz.pinned.checked.prog.varsNamed 7 = Rows.fnExactSyncRow.named := by kernel_rfl
theorem jf : joinedFacts Tryz.pinned.checked.prog 7 Tryz.f7 Rows.fnExactSyncSpec Rows.fnExactSyncRow = true := by
  unfold joinedFacts
  rw [pf0, pf1, pf2, pf3]
  kernel_rfl
theorem fnd : Tryz.pinned.checked.prog.funcNamed Rows.fnExactSyncRow.func = some 7 := by kernel_rfl
theorem over : Rows.fnExactSyncRow.holds Tryz.pinned (OpenSpec.ofChange Rows.fnExactSyncSpec) :=
  OpenClaim.holds_of_wide 7 Tryz.f7 rfl rfl rfl rfl rfl rfl rfl ⟨rfl, rfl, rfl, rfl, rfl⟩ rfl rfl rfl rfl rfl fnd Tryz.func7 jf
    (of_decide_eq_true (by kernel_rfl)) (by unfold Func.isWrapper; first | (rw [if_pos (by decide +kernel)]; kernel_rfl) | (rw [if_neg (by decide +kernel)]; exact ⟨rfl, rfl⟩))
    (fun os started H enc _ => lifted os started H enc)
theorem proved : Rows.FnExactSyncSaid := over
#print axioms proved
end Go.Proofs.YtmapoakbdgpamaaGreat.fnExactSync
namespace Go.Proofs.YtmapoakbdgpamaaGreat
/-- The row, under a short name, for the claim. -/
theorem fnExactSync_holds : Rows.FnExactSyncSaid := fnExactSync.proved
end Go.Proofs.YtmapoakbdgpamaaGreat
