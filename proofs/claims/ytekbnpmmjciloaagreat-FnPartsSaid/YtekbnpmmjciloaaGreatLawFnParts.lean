/- FnParts: the statement as it is given: for every input the law returns true, and each argument reads as before. No condition. -/
import Derived.Test.YtekbnpmmjciloaaGreatRows
import Derived.Test.YtekbnpmmjciloaaGreatPureFnParts
import Derived.WalkKit
import Derived.ProofKit
import Derived.OpenShut
import Derived.ShutString
import Derived.ChangeOld
import Derived.Below
import Derived.SizedLaws
namespace Go.Proofs.YtekbnpmmjciloaaGreat.fnParts
open Go.ChangeShapes Go.WideShapes Go.ChangeAt Go.RowKit Go.Proofs.YtekbnpmmjciloaaGreat.R Go.Proofs.YtekbnpmmjciloaaGreat.XB
set_option linter.unusedVariables false
theorem own:ownKnob Tryz.prog.godebug=none:=by kernel_rfl
theorem laidOut:laidOutB Tryz.prog=true:=by kernel_rfl
theorem sig:C.sig 3=some ⟨[.v false [(.sl 5 fx)] [false]],[⟨false,[.bool],[false]⟩],false,false⟩:=by kernel_rfl
theorem yj_:C.info 22=some (.c (.sl 5 fx) 24):=by kernel_rfl
theorem pure (x:Elts (C.ins 3)) (ok:Gb (C.ins 3) x): ∃ y,wI x=some y∧Hj (C.outs 3) y:=⟨true,Pure.FnParts x ok,rfl⟩
set_option maxRecDepth 100000 in
theorem lifted (os:Os) (started:os.Started) (H:Type) (enc:TypeId×Value→H):
    ReturnsInHanded {} Tryz.checked os 3 .any (Rows.fnPartsSpec.pre6 enc Tryz.prog Tryz.f3 Rows.fnPartsRow.domain false) (Rows.fnPartsSpec.post enc Tryz.prog Tryz.f3 false true false false):=by
  refine returnsInHanded_of_change_sized (C:=Tryz.checked) own started (by kernel_rfl) Tryz.func3
    (ChangeSpec.witness6 (enc:=enc) (C:=Tryz.checked) false ⟨#[],#[.slice none 0 0],[]⟩ 8 (by kernel_rfl) (by kernel_rfl) (by kernel_rfl) (by kernel_rfl)) ?_
  intro W base args ds gs before hval0 hW hcnd hsz0 _
  have hval: ∀ (j:Nat) t v,Tryz.f3.params[j]? =some t→args[j]? =some v→Value.okWide Tryz.prog W .any base t v:=hval0
  have hW':=hW
  obtain ⟨p,q,hA0,hV,rfl,hfz,hnd⟩:=hW
  have hA:DataW.TrodAll enc Tryz.prog W 0 (fun _=>true) true Tryz.f3.params.toList args.toList ds p:=hA0
  rw [Tryz.params3] at hA hval
  obtain ⟨v0,vs0,d0,ds0,p0,q0,hargs,rfl,rfl,h0,r0⟩:=trodAll_cons hA
  obtain ⟨rfl,rfl,rfl⟩:=trodAll_nil r0
  obtain rfl:args= #[v0]:=by cases args;simp_all
  obtain ⟨rfl,rfl⟩:=trodVars_none hV
  have lt0: ∀ x∈p0,x.block<W.heap.size:=by obtain ⟨m,hm⟩:=h0;exact DataW.trod_lt m _ _ _ hm
  refine (SF (args:=[v0]) (show ko C Tryz.prog 3 wI from q3.ok) sig (by kernel_rfl) (by kernel_rfl) Tryz.func3 (by decide) (Option.ne_none_iff_isSome.2 (by kernel_rfl)) trivial (Hi tok yj_ (own:=[false]) (hval 0 22 v0 rfl rfl) h0 (MX W)) pure).mono fun e W' ⟨he,ymU⟩=> ?_
  have bel:Below W.heap.size W W':=ymU
  subst he
  exact ⟨_,rfl,_,_,_,[],_,[],hW',trodAll_mk1 (shut_bool Tryz.underlying4 _),(trodAll_cons_mk (Below.trod laidOut (by kernel_rfl) (of_decide_eq_true (by kernel_rfl)) h0 bel lt0) trodAll_mk0),rfl,bel.frame _,fun h=>by cases h⟩
theorem pf0:Tryz.pinned.checked.prog.inPlace 3=Rows.fnPartsRow.inPlace:=by kernel_rfl
theorem pf1:Tryz.pinned.checked.prog.unfollowed 3=Rows.fnPartsRow.unfollowed:=by kernel_rfl
theorem pf2:Tryz.pinned.checked.prog.recurses 3=Rows.fnPartsRow.recurses:=by kernel_rfl
theorem pf3:Tryz.pinned.checked.prog.varsNamed 3=Rows.fnPartsRow.named:=by kernel_rfl
theorem jf:joinedFacts Tryz.pinned.checked.prog 3 Tryz.f3 Rows.fnPartsSpec Rows.fnPartsRow=true:=by
  unfold joinedFacts
  rw [pf0,pf1,pf2,pf3]
  kernel_rfl
theorem fnd:Tryz.pinned.checked.prog.funcNamed Rows.fnPartsRow.func=some 3:=by kernel_rfl
theorem over:Rows.fnPartsRow.holds Tryz.pinned (OpenSpec.ofChange Rows.fnPartsSpec):=
  OpenClaim.holds_of_wide 3 Tryz.f3 rfl rfl rfl rfl rfl rfl rfl ⟨rfl,rfl,rfl,rfl,rfl⟩ rfl rfl rfl rfl rfl fnd Tryz.func3 jf
    (of_decide_eq_true (by kernel_rfl)) (by unfold Func.isWrapper;first|(rw [if_pos (by decide+kernel)];kernel_rfl)|(rw [if_neg (by decide+kernel)];exact ⟨rfl,rfl⟩))
    (fun os started H enc _=>lifted os started H enc)
theorem proved:Rows.FnPartsSaid:=over
#print axioms proved
end Go.Proofs.YtekbnpmmjciloaaGreat.fnParts
namespace Go.Proofs.YtekbnpmmjciloaaGreat
/-- The row, under a short name, for the claim. -/
theorem fnParts_holds:Rows.FnPartsSaid:=fnParts.proved
end Go.Proofs.YtekbnpmmjciloaaGreat
