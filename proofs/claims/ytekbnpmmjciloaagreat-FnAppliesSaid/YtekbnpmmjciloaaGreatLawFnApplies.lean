/- FnApplies: the statement as it is given: for every input the law returns true, and each argument reads as before. No condition. -/
import Derived.Test.YtekbnpmmjciloaaGreatRows
import Derived.Test.YtekbnpmmjciloaaGreatPureFnApplies
import Derived.WalkKit
import Derived.ProofKit
import Derived.OpenShut
import Derived.ShutString
import Derived.ChangeOld
import Derived.Below
import Derived.SizedLaws
namespace Go.Proofs.YtekbnpmmjciloaaGreat.fnApplies
open Go.ChangeShapes Go.WideShapes Go.ChangeAt Go.RowKit Go.Proofs.YtekbnpmmjciloaaGreat.R Go.Proofs.YtekbnpmmjciloaaGreat.XA
set_option linter.unusedVariables false
theorem own:ownKnob Tryz.prog.godebug=none:=by kernel_rfl
theorem laidOut:laidOutB Tryz.prog=true:=by kernel_rfl
theorem sig:C.sig 4=some ⟨[.v false [(.sl 5 Zo)] [false]],[⟨false,[.bool],[false]⟩],false,false,false⟩:=by kernel_rfl
theorem info0:C.info 22=some (.c (.sl 5 Zo) 24):=by kernel_rfl
theorem pure (x:yJ (C.ins 4)) (ok:okE (C.ins 4) x): ∃ y,Zt x=some y∧yjb (C.outs 4) y:=⟨true,Pure.FnApplies x ok,rfl⟩
set_option maxRecDepth 100000 in
theorem lifted (os:Os) (started:os.Started) (H:Type) (enc:TypeId×Value→H):
    ReturnsInHanded {} Tryz.checked os 4 .any (Rows.fnAppliesSpec.pre6 enc Tryz.prog Tryz.f4 Rows.fnAppliesRow.domain false) (Rows.fnAppliesSpec.post enc Tryz.prog Tryz.f4 false true false false):=by
  refine returnsInHanded_of_change_sized (C:=Tryz.checked) own started (by kernel_rfl) Tryz.func4
    (ChangeSpec.witness6 (enc:=enc) (C:=Tryz.checked) false ⟨#[],#[.slice none 0 0],[]⟩ 8 (by kernel_rfl) (by kernel_rfl) (by kernel_rfl) (by kernel_rfl)) ?_
  intro W base args ds gs before hval0 hW hcnd hsz0 _
  have hval: ∀ (j:Nat) t v,Tryz.f4.params[j]? =some t→args[j]? =some v→Value.okWide Tryz.prog W .any base t v:=hval0
  have hW':=hW
  obtain ⟨p,q,hA0,hV,rfl,hfz,hnd⟩:=hW
  have hA:DataW.TrodAll enc Tryz.prog W 0 (fun _=>true) true Tryz.f4.params.toList args.toList ds p:=hA0
  rw [Tryz.params4] at hA hval
  obtain ⟨v0,vs0,d0,ds0,p0,q0,hargs,rfl,rfl,h0,r0⟩:=trodAll_cons hA
  obtain ⟨rfl,rfl,rfl⟩:=trodAll_nil r0
  obtain rfl:args= #[v0]:=by cases args;simp_all
  obtain ⟨rfl,rfl⟩:=trodVars_none hV
  have lt0: ∀ x∈p0,x.block<W.heap.size:=by obtain ⟨m,hm⟩:=h0;exact DataW.trod_lt m _ _ _ hm
  refine (yjd (args:=[v0]) (show ZN C Tryz.prog 4 Zt from q4.ok) sig (by kernel_rfl) (by kernel_rfl) Tryz.func4 (by decide) (Option.ne_none_iff_isSome.2 (by kernel_rfl)) trivial (yfq tok info0 (own:=[false]) (hval 0 22 v0 rfl rfl) h0 (yi4 W)) pure).mono fun e W' ⟨he,bel0⟩=> ?_
  have bel:Below W.heap.size W W':=bel0
  subst he
  exact ⟨_,rfl,_,_,_,[],_,[],hW',trodAll_mk1 (shut_bool Tryz.underlying4 _),(trodAll_cons_mk (Below.trod laidOut (by kernel_rfl) (of_decide_eq_true (by kernel_rfl)) h0 bel lt0) trodAll_mk0),rfl,bel.frame _,fun h=>by cases h⟩
theorem pf0:Tryz.pinned.checked.prog.inPlace 4=Rows.fnAppliesRow.inPlace:=by kernel_rfl
theorem pf1:Tryz.pinned.checked.prog.unfollowed 4=Rows.fnAppliesRow.unfollowed:=by kernel_rfl
theorem pf2:Tryz.pinned.checked.prog.recurses 4=Rows.fnAppliesRow.recurses:=by kernel_rfl
theorem pf3:Tryz.pinned.checked.prog.varsNamed 4=Rows.fnAppliesRow.named:=by kernel_rfl
theorem jf:joinedFacts Tryz.pinned.checked.prog 4 Tryz.f4 Rows.fnAppliesSpec Rows.fnAppliesRow=true:=by
  unfold joinedFacts
  rw [pf0,pf1,pf2,pf3]
  kernel_rfl
theorem fnd:Tryz.pinned.checked.prog.funcNamed Rows.fnAppliesRow.func=some 4:=by kernel_rfl
theorem over:Rows.fnAppliesRow.holds Tryz.pinned (OpenSpec.ofChange Rows.fnAppliesSpec):=
  OpenClaim.holds_of_wide 4 Tryz.f4 rfl rfl rfl rfl rfl rfl rfl ⟨rfl,rfl,rfl,rfl,rfl⟩ rfl rfl rfl rfl rfl fnd Tryz.func4 jf
    (of_decide_eq_true (by kernel_rfl)) (by unfold Func.isWrapper;first|(rw [if_pos (by decide+kernel)];kernel_rfl)|(rw [if_neg (by decide+kernel)];exact ⟨rfl,rfl⟩))
    (fun os started H enc _=>lifted os started H enc)
theorem proved:Rows.FnAppliesSaid:=over
#print axioms proved
end Go.Proofs.YtekbnpmmjciloaaGreat.fnApplies
namespace Go.Proofs.YtekbnpmmjciloaaGreat
/-- The row, under a short name, for the claim. -/
theorem fnApplies_holds:Rows.FnAppliesSaid:=fnApplies.proved
end Go.Proofs.YtekbnpmmjciloaaGreat
