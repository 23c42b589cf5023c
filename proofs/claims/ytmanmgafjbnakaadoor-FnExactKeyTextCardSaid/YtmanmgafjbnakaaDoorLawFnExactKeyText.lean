/- FnExactKeyText: the statement as it is given: for every input the law returns true, and each argument reads as before; its card. Condition: the listed variables hold what the program's text lays into them (tied). -/
import Derived.Test.YtmanmgafjbnakaaDoorRows
import Derived.Test.YtmanmgafjbnakaaDoorCards
import Derived.Test.YtmanmgafjbnakaaDoorTie
import Derived.Test.YtmanmgafjbnakaaDoorPureFnExactKeyText
import Derived.WalkKit
import Derived.ProofKit
import Derived.OpenShut
import Derived.ShutString
import Derived.ChangeOld
import Derived.Below
import Derived.SizedLaws
import Derived.Handed
import Derived.LaidLaws
import Derived.SevenTiedAt
import Derived.Stop.LaidErr
import Derived.JoinedAt
import Derived.JoinedOf
import Derived.ChangeVars
import Derived.ChangeSame
set_option linter.all false
namespace Go.Proofs.YtmanmgafjbnakaaDoor.fnExactKeyText
open Go Go.ChangeShapes Go.WideShapes Go.ChangeAt Go.RowKit Go.Proofs.YtmanmgafjbnakaaDoor.R Go.Proofs.YtmanmgafjbnakaaDoor.XN
set_option maxRecDepth 100000
theorem own : ownKnob Tryd.prog.godebug = none := by kernel_rfl
theorem laidOut : laidOutB Tryd.prog = true := by kernel_rfl
theorem sig : C.sig 4 = some ⟨[.v true [(.int .i64), (.int .i64), (.int .i64), (.int .i64), (.int .i64)] [false, false, false, false, false]], [⟨false, [.bool], [false]⟩], false⟩ := by kernel_rfl
theorem info0 : C.info 25 = some (.s [(0, 3), (1, 3), (2, 3), (3, 3), (4, 3)] [(.int .i64), (.int .i64), (.int .i64), (.int .i64), (.int .i64)] 40) := by kernel_rfl
theorem pure (x : Elts (C.ins 4)) (ok : okE (C.ins 4) x) : ∃ y, F_laws_FnExactKeyText x = some y ∧ TrueB (C.outs 4) y := ⟨true, Pure.FnExactKeyText x ok, rfl⟩
noncomputable def laidWorld (os : Os) : World := (setVar (setVar (setVar (World.holding Tryd.prog os ⟨#[], #[], []⟩) 4 (cellsD Rows.laid_math_bits_deBruijn32tab)) 5 (cellsD Rows.laid_math_bits_deBruijn64tab)) 2 (cellsD Rows.laid_internal_strconv_uint64pow10))
theorem laid_met (os : Os) (args : Array Value) : laidMet Tryd.prog Rows.fnExactKeyTextRow.laid ((laidWorld os).forCall (fun _ _ => 0) ⟨#[], args, []⟩).memory := laidMet_of_run' 8 (by kernel_rfl) (by kernel_rfl)
theorem gTab : Tryd.prog.globalNamed "internal/strconv.uint64pow10" = some 2 := by kernel_rfl
theorem gTabT : (Tryd.prog.globals[2]?).map (·.type) = some 85 := by kernel_rfl
theorem cE : Tryd.prog.cellsOf 68 = 1 := by kernel_rfl
theorem cT : Tryd.prog.cellsOf 85 = 20 := by kernel_rfl
theorem uT : Tryd.prog.underlying 85 = some (.array 20 68) := by kernel_rfl
theorem uE : Tryd.prog.underlying 68 = some (.int .u64) := by kernel_rfl
theorem tabIs {W : World} (hL : laidMet Tryd.prog Rows.fnExactKeyTextRow.laid W) : Lib.TabIs Tryd.prog W "internal/strconv.uint64pow10" .u64 Lib.pow10Tab := Lib.tabIs_of_head (rest := []) gTab gTabT uT uE cE cT (show laidMet Tryd.prog (("internal/strconv.uint64pow10", Lib.tabData .u64 Lib.pow10Tab) :: []) W from (show laidMet Tryd.prog [("math/bits.deBruijn32tab", Rows.laid_math_bits_deBruijn32tab), ("math/bits.deBruijn64tab", Rows.laid_math_bits_deBruijn64tab), ("internal/strconv.uint64pow10", Rows.laid_internal_strconv_uint64pow10)] W from hL).tail.tail)
theorem glob {W : World} (hL : laidMet Tryd.prog Rows.fnExactKeyTextRow.laid W) : glT (heapOf W) := fun w hw => var_up (tabIs hL) hw
theorem lifted (os : Os) (started : os.Started) (H : Type) (enc : TypeId × Value → H) :
    ReturnsInHanded {} Tryd.checked os 4 .any (fun w args => (Rows.fnExactKeyTextSpec.pre enc Tryd.prog Tryd.f4 Rows.fnExactKeyTextRow.domain false w args ∧ laidMet Tryd.prog Rows.fnExactKeyTextRow.laid w) ∧ sizedMet enc Tryd.prog Tryd.f4 (OpenSpec.ofChange Rows.fnExactKeyTextSpec) false w args) (Rows.fnExactKeyTextSpec.post enc Tryd.prog Tryd.f4 false true false false) := by
  refine returnsInHanded_of_change_and (C := Tryd.checked) (X := fun w _ => laidMet Tryd.prog Rows.fnExactKeyTextRow.laid w) (fun _ _ _ hh h => h.of_heap hh) own started (by kernel_rfl) Tryd.func4
    (ChangeSpec.witness_at (enc := enc) (C := Tryd.checked) (os := os) (X := fun w _ => laidMet Tryd.prog Rows.fnExactKeyTextRow.laid w) false (laidWorld os) #[.agg #[.int .i64 0, .int .i64 0, .int .i64 0, .int .i64 0, .int .i64 0]] 8 rfl (by kernel_rfl) (by kernel_rfl) (by kernel_rfl) (by kernel_rfl) (by kernel_rfl) (laid_met os _)) ?_
  intro W base args ds gs before hval0 hW hcnd _ hL _
  have hval : ∀ (j : Nat) t v, Tryd.f4.params[j]? = some t → args[j]? = some v → Value.okWide Tryd.prog W .any base t v := hval0
  have hW' := hW
  obtain ⟨p, q, hA0, hV, rfl, hfz, hnd⟩ := hW
  have hA : DataW.TrodAll enc Tryd.prog W 0 (fun _ => true) true Tryd.f4.params.toList args.toList ds p := hA0
  rw [Tryd.params4] at hA hval
  obtain ⟨v0, vs0, d0, ds0, p0, q0, hargs, rfl, rfl, h0, r0⟩ := trodAll_cons hA
  obtain ⟨rfl, rfl, rfl⟩ := trodAll_nil r0
  obtain rfl : args = #[v0] := by cases args; simp_all
  obtain ⟨rfl, rfl⟩ := trodVars_none hV
  have lt0 : ∀ x ∈ p0, x.block < W.heap.size := by obtain ⟨m, hm⟩ := h0; exact DataW.trod_lt m _ _ _ hm
  refine (law_calls (args := [v0]) (show ContractAt C Tryd.prog 4 F_laws_FnExactKeyText from q4.ok) sig (by kernel_rfl) (by kernel_rfl) Tryd.func4 (by decide) (Option.ne_none_iff_isSome.2 (by kernel_rfl)) (glob hL) (opened_agg tok info0 (own := [false, false, false, false, false]) (hval 0 25 v0 rfl rfl) h0 (opened_nil W)) pure).mono fun e W' ⟨he, bel0⟩ => ?_
  have bel : Below W.heap.size W W' := bel0
  subst he
  exact ⟨_, rfl, _, _, _, [], _, [], hW', trodAll_mk1 (shut_bool Tryd.underlying4 _), (trodAll_cons_mk (Below.trod laidOut (by kernel_rfl) (of_decide_eq_true (by kernel_rfl)) h0 bel lt0) trodAll_mk0), rfl, bel.frame _, fun h => by cases h⟩
theorem over : Rows.fnExactKeyTextRow.holds Tryd.pinned (OpenSpec.ofChange Rows.fnExactKeyTextSpec) :=
  OpenClaim.holds_of_wide 4 Tryd.f4 rfl rfl rfl rfl rfl rfl rfl ⟨rfl, rfl, rfl, rfl, rfl⟩ rfl rfl rfl rfl rfl (by kernel_rfl) Tryd.func4 (by kernel_rfl)
    (of_decide_eq_true (by kernel_rfl)) (by unfold Func.isWrapper; first | (rw [if_pos (by decide +kernel)]; kernel_rfl) | (rw [if_neg (by decide +kernel)]; exact ⟨rfl, rfl⟩))
    (fun os started H enc _ => lifted os started H enc)
theorem proved : Rows.FnExactKeyTextCardSaid :=
  Claim7.holds_tied_plain_at .later [] [.data, .data, .data] true (true, "9983a518678f3e62c8035322bd5ef6b3e165042503f854a27d928cbe85ec0318") true
    over (fun _ h => by cases h) (by kernel_rfl) (fun _ h => by cases h) fnExactKeyText_row_tie rfl ⟨rfl, rfl⟩ (by kernel_rfl) rfl
    (fun f fn hf hfn => by
      obtain rfl : f = 4 := Option.some.inj ((show Tryd.prog.funcNamed "loop.example/g00467/laws.FnExactKeyText" = some 4 by kernel_rfl).symm.trans hf) |>.symm
      obtain rfl : fn = Tryd.f4 := (Option.some.inj (Tryd.func4.symm.trans hfn)).symm
      exact ⟨by kernel_rfl, fun j t ht => by
        rw [Tryd.params4] at ht
        have hm := Array.mem_of_getElem? ht
        simp only [List.mem_toArray, List.mem_cons, List.not_mem_nil, or_false] at hm
        rcases hm with rfl
        · exact (show Tryd.prog.wantsStandIn 25 = false by kernel_rfl)⟩)
    (by kernel_rfl)
#print axioms proved
end Go.Proofs.YtmanmgafjbnakaaDoor.fnExactKeyText
namespace Go.Proofs.YtmanmgafjbnakaaDoor
/-- The card, under a short name, for the claim. -/
theorem fnExactKeyText_holds : Rows.FnExactKeyTextCardSaid := fnExactKeyText.proved
end Go.Proofs.YtmanmgafjbnakaaDoor
