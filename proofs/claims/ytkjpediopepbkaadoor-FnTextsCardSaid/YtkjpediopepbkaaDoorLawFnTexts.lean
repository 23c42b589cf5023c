/- FnTexts: the statement as it is given: for every input the law returns true, and each argument reads as before; its card. Condition: the listed variables hold what the program's text lays into them (tied). -/
import Derived.Test.YtkjpediopepbkaaDoorRows
import Derived.Test.YtkjpediopepbkaaDoorCards
import Derived.Test.YtkjpediopepbkaaDoorTie
import Derived.Test.YtkjpediopepbkaaDoorPureFnTexts
import Derived.WalkKit
import Derived.ProofKit
import Derived.OpenShut
import Derived.ShutString
import Derived.ChangeOld
import Derived.Below
import Derived.SizedLaws
import Derived.Handed
import Derived.LaidLaws
import Derived.SevenTiedAt
import Derived.Stop.LaidErr
import Derived.JoinedAt
import Derived.JoinedOf
import Derived.ChangeVars
import Derived.ChangeSame
set_option linter.all false
namespace Go.Proofs.YtkjpediopepbkaaDoor.fnTexts
open Go Go.ChangeShapes Go.WideShapes Go.ChangeAt Go.RowKit Go.Proofs.YtkjpediopepbkaaDoor.R Go.Proofs.YtkjpediopepbkaaDoor.XH
set_option maxRecDepth 100000
theorem own : ownKnob Tryd.prog.godebug = none := by kernel_rfl
theorem laidOut : laidOutB Tryd.prog = true := by kernel_rfl
theorem sig : C.sig 3 = some ⟨[.v false [(.sl 5 ts_u8)] [false]], [⟨false, [.bool], [false]⟩], false⟩ := by kernel_rfl
theorem info0 : C.info 22 = some (.c (.sl 5 ts_u8) 24) := by kernel_rfl
theorem pure (x : Elts (C.ins 3)) (ok : okE (C.ins 3) x) : ∃ y, F_laws_FnTexts x = some y ∧ TrueB (C.outs 3) y := ⟨true, Pure.FnTexts x ok, rfl⟩
noncomputable def low : Nat := (World.holding Tryd.prog default ⟨#[], #[], []⟩).heap.size
noncomputable def laidWorld (os : Os) : World := (setVar (setVar (setVar (setVar (setVar (World.holding Tryd.prog os ⟨#[.cells #[.string ⟨#[118, 97, 108, 117, 101, 32, 111, 117, 116, 32, 111, 102, 32, 114, 97, 110, 103, 101]⟩] 92, .cells #[.string ⟨#[105, 110, 118, 97, 108, 105, 100, 32, 115, 121, 110, 116, 97, 120]⟩] 92], #[], []⟩) 4 (cellsD Rows.laid_math_bits_deBruijn32tab)) 5 (cellsD Rows.laid_math_bits_deBruijn64tab)) 2 (cellsD Rows.laid_internal_strconv_uint64pow10)) 1 #[.iface 90 (.pointer (some ⟨low + 0, 0, none⟩))]) 0 #[.iface 90 (.pointer (some ⟨low + 1, 0, none⟩))])
theorem laid_met (os : Os) (args : Array Value) : laidMet Tryd.prog Rows.fnTextsRow.laid ((laidWorld os).forCall (fun _ _ => 0) ⟨#[], args, []⟩).memory := laidMet_of_run' 8 (by kernel_rfl) (by kernel_rfl)
theorem gTab : Tryd.prog.globalNamed "internal/strconv.uint64pow10" = some 2 := by kernel_rfl
theorem gTabT : (Tryd.prog.globals[2]?).map (·.type) = some 95 := by kernel_rfl
theorem cE : Tryd.prog.cellsOf 73 = 1 := by kernel_rfl
theorem cT : Tryd.prog.cellsOf 95 = 20 := by kernel_rfl
theorem uT : Tryd.prog.underlying 95 = some (.array 20 73) := by kernel_rfl
theorem uE : Tryd.prog.underlying 73 = some (.int .u64) := by kernel_rfl
theorem tabIs {W : World} (hL : laidMet Tryd.prog Rows.fnTextsRow.laid W) : Lib.TabIs Tryd.prog W "internal/strconv.uint64pow10" .u64 Lib.pow10Tab := Lib.tabIs_of_head (rest := [("strconv.ErrRange", Rows.laid_strconv_ErrRange), ("strconv.ErrSyntax", Rows.laid_strconv_ErrSyntax)]) gTab gTabT uT uE cE cT (show laidMet Tryd.prog (("internal/strconv.uint64pow10", Lib.tabData .u64 Lib.pow10Tab) :: [("strconv.ErrRange", Rows.laid_strconv_ErrRange), ("strconv.ErrSyntax", Rows.laid_strconv_ErrSyntax)]) W from (show laidMet Tryd.prog [("math/bits.deBruijn32tab", Rows.laid_math_bits_deBruijn32tab), ("math/bits.deBruijn64tab", Rows.laid_math_bits_deBruijn64tab), ("internal/strconv.uint64pow10", Rows.laid_internal_strconv_uint64pow10), ("strconv.ErrRange", Rows.laid_strconv_ErrRange), ("strconv.ErrSyntax", Rows.laid_strconv_ErrSyntax)] W from hL).tail.tail)
theorem star : "*" ++ "errors.errorString" = "*errors.errorString" := by decide
theorem rowE (u : TypeId) (h : Tryd.prog.typeName? 3 u = some "*errors.errorString") : u = 90 :=
  typeName_ptr_named (nm := "errors.errorString") (by rw [star]; kernel_rfl) (by kernel_rfl) (by decide) u (by rw [star]; exact h)
theorem cS : Tryd.prog.cellsOf 92 = 1 := by kernel_rfl
theorem cStr : Tryd.prog.cellsOf 9 = 1 := by kernel_rfl
theorem gErrRange : Tryd.prog.globalNamed "strconv.ErrRange" = some 1 := by kernel_rfl
theorem tErrRange : (Tryd.prog.globals[1]?).map (·.type) = some 40 := by kernel_rfl
theorem sentErrRange {W : World} (hL : laidMet Tryd.prog Rows.fnTextsRow.laid W) : ∃ tp p, W.var? Tryd.prog "strconv.ErrRange" = some #[.iface tp p] := by
  obtain ⟨a, s, h, -, -, -⟩ := laid_sentinel (show laidMet Tryd.prog [("strconv.ErrRange", Rows.laid_strconv_ErrRange), ("strconv.ErrSyntax", Rows.laid_strconv_ErrSyntax)] W from (show laidMet Tryd.prog [("math/bits.deBruijn32tab", Rows.laid_math_bits_deBruijn32tab), ("math/bits.deBruijn64tab", Rows.laid_math_bits_deBruijn64tab), ("internal/strconv.uint64pow10", Rows.laid_internal_strconv_uint64pow10), ("strconv.ErrRange", Rows.laid_strconv_ErrRange), ("strconv.ErrSyntax", Rows.laid_strconv_ErrSyntax)] W from hL).tail.tail.tail) gErrRange tErrRange Tryd.underlying40 rowE Tryd.underlying90 Tryd.underlying92 rfl rfl Tryd.underlying9 cS cStr
  exact ⟨90, .pointer (some a), h⟩
theorem gErrSyntax : Tryd.prog.globalNamed "strconv.ErrSyntax" = some 0 := by kernel_rfl
theorem tErrSyntax : (Tryd.prog.globals[0]?).map (·.type) = some 40 := by kernel_rfl
theorem sentErrSyntax {W : World} (hL : laidMet Tryd.prog Rows.fnTextsRow.laid W) : ∃ tp p, W.var? Tryd.prog "strconv.ErrSyntax" = some #[.iface tp p] := by
  obtain ⟨a, s, h, -, -, -⟩ := laid_sentinel (show laidMet Tryd.prog [("strconv.ErrSyntax", Rows.laid_strconv_ErrSyntax)] W from (show laidMet Tryd.prog [("math/bits.deBruijn32tab", Rows.laid_math_bits_deBruijn32tab), ("math/bits.deBruijn64tab", Rows.laid_math_bits_deBruijn64tab), ("internal/strconv.uint64pow10", Rows.laid_internal_strconv_uint64pow10), ("strconv.ErrRange", Rows.laid_strconv_ErrRange), ("strconv.ErrSyntax", Rows.laid_strconv_ErrSyntax)] W from hL).tail.tail.tail.tail) gErrSyntax tErrSyntax Tryd.underlying40 rowE Tryd.underlying90 Tryd.underlying92 rfl rfl Tryd.underlying9 cS cStr
  exact ⟨90, .pointer (some a), h⟩
theorem glob {W : World} (hL : laidMet Tryd.prog Rows.fnTextsRow.laid W) : glT (heapOf W) := fun w hw => ⟨var_up (tabIs hL) hw, (sentErrSyntax hL).imp fun tp h => h.imp fun p h => var_up h hw, (sentErrRange hL).imp fun tp h => h.imp fun p h => var_up h hw⟩
theorem lifted (os : Os) (started : os.Started) (H : Type) (enc : TypeId × Value → H) :
    ReturnsInHanded {} Tryd.checked os 3 .any (fun w args => (Rows.fnTextsSpec.pre enc Tryd.prog Tryd.f3 Rows.fnTextsRow.domain false w args ∧ laidMet Tryd.prog Rows.fnTextsRow.laid w) ∧ sizedMet enc Tryd.prog Tryd.f3 (OpenSpec.ofChange Rows.fnTextsSpec) false w args) (Rows.fnTextsSpec.post enc Tryd.prog Tryd.f3 false true false false) := by
  refine returnsInHanded_of_change_and (C := Tryd.checked) (X := fun w _ => laidMet Tryd.prog Rows.fnTextsRow.laid w) (fun _ _ _ hh h => h.of_heap hh) own started (by kernel_rfl) Tryd.func3
    (ChangeSpec.witness_at (enc := enc) (C := Tryd.checked) (os := os) (X := fun w _ => laidMet Tryd.prog Rows.fnTextsRow.laid w) false (laidWorld os) #[.slice none 0 0] 8 rfl (by kernel_rfl) (by kernel_rfl) (by kernel_rfl) (by kernel_rfl) (by kernel_rfl) (laid_met os _)) ?_
  intro W base args ds gs before hval0 hW hcnd _ hL _
  have hval : ∀ (j : Nat) t v, Tryd.f3.params[j]? = some t → args[j]? = some v → Value.okWide Tryd.prog W .any base t v := hval0
  have hW' := hW
  obtain ⟨p, q, hA0, hV, rfl, hfz, hnd⟩ := hW
  have hA : DataW.TrodAll enc Tryd.prog W 0 (fun _ => true) true Tryd.f3.params.toList args.toList ds p := hA0
  rw [Tryd.params3] at hA hval
  obtain ⟨v0, vs0, d0, ds0, p0, q0, hargs, rfl, rfl, h0, r0⟩ := trodAll_cons hA
  obtain ⟨rfl, rfl, rfl⟩ := trodAll_nil r0
  obtain rfl : args = #[v0] := by cases args; simp_all
  obtain ⟨rfl, rfl⟩ := trodVars_none hV
  have lt0 : ∀ x ∈ p0, x.block < W.heap.size := by obtain ⟨m, hm⟩ := h0; exact DataW.trod_lt m _ _ _ hm
  refine (law_calls (args := [v0]) (show ContractAt C Tryd.prog 3 F_laws_FnTexts from q3.ok) sig (by kernel_rfl) (by kernel_rfl) Tryd.func3 (by decide) (Option.ne_none_iff_isSome.2 (by kernel_rfl)) (glob hL) (opened_cell tok info0 (own := [false]) (hval 0 22 v0 rfl rfl) h0 (opened_nil W)) pure).mono fun e W' ⟨he, bel0⟩ => ?_
  have bel : Below W.heap.size W W' := bel0
  subst he
  exact ⟨_, rfl, _, _, _, [], _, [], hW', trodAll_mk1 (shut_bool Tryd.underlying4 _), (trodAll_cons_mk (Below.trod laidOut (by kernel_rfl) (of_decide_eq_true (by kernel_rfl)) h0 bel lt0) trodAll_mk0), rfl, bel.frame _, fun h => by cases h⟩
theorem over : Rows.fnTextsRow.holds Tryd.pinned (OpenSpec.ofChange Rows.fnTextsSpec) :=
  OpenClaim.holds_of_wide 3 Tryd.f3 rfl rfl rfl rfl rfl rfl rfl ⟨rfl, rfl, rfl, rfl, rfl⟩ rfl rfl rfl rfl rfl (by kernel_rfl) Tryd.func3 (by kernel_rfl)
    (of_decide_eq_true (by kernel_rfl)) (by unfold Func.isWrapper; first | (rw [if_pos (by decide +kernel)]; kernel_rfl) | (rw [if_neg (by decide +kernel)]; exact ⟨rfl, rfl⟩))
    (fun os started H enc _ => lifted os started H enc)
theorem proved : Rows.FnTextsCardSaid :=
  Claim7.holds_tied_plain_at .later [] [.data, .data, .data, .sentinel, .sentinel] true (true, "6d476e429d887252c607c38ab0a36b6f68c70b0715ae6ae3ba0ed29e8af5b90a") true
    over (fun _ h => by cases h) (by kernel_rfl) (fun _ h => by cases h) fnTexts_row_tie rfl ⟨rfl, rfl⟩ (by kernel_rfl) rfl
    (fun f fn hf hfn => by
      obtain rfl : f = 3 := Option.some.inj ((show Tryd.prog.funcNamed "loop.example/g00467/laws.FnTexts" = some 3 by kernel_rfl).symm.trans hf) |>.symm
      obtain rfl : fn = Tryd.f3 := (Option.some.inj (Tryd.func3.symm.trans hfn)).symm
      exact ⟨by kernel_rfl, fun j t ht => by
        rw [Tryd.params3] at ht
        have hm := Array.mem_of_getElem? ht
        simp only [List.mem_toArray, List.mem_cons, List.not_mem_nil, or_false] at hm
        rcases hm with rfl
        · exact (show Tryd.prog.wantsStandIn 22 = false by kernel_rfl)⟩)
    (by kernel_rfl)
#print axioms proved
end Go.Proofs.YtkjpediopepbkaaDoor.fnTexts
namespace Go.Proofs.YtkjpediopepbkaaDoor
/-- The card, under a short name, for the claim. -/
theorem fnTexts_holds : Rows.FnTextsCardSaid := fnTexts.proved
end Go.Proofs.YtkjpediopepbkaaDoor
