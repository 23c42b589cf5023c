/- From a law's arguments to its call. Conditions: the types lie as the context says; the law's function does what the evaluator says. -/
import Derived.Test.YtgediecndaheiaaGreatROpn
set_option linter.all false
namespace Go.Proofs.YtgediecndaheiaaGreat.R
open Go.RowKit Go.ChangeShapes Go.WideShapes
variable {P : Program} {C : Ctx}
def y5Q (W : World) (ps : List PK) (args : List Value) (x : z8 (ps.flatMap PK.ins)) (vs : List Value) : Prop :=
 RdE (ZQ W) (ps.flatMap PK.ins) x (fun i => vs[i]?) ∧ okE (ps.flatMap PK.ins) x ∧ vs.length = (ps.flatMap PK.ins).length ∧ VY W ps args vs []
theorem yd9 (W : World) : ∃ x vs, y5Q W [] [] x vs := ⟨(), [], trivial, trivial, rfl, rfl, rfl, rfl⟩
theorem yda {W : World} {agg : Bool} {ts : List Ty} {own : List Bool} {ps : List PK} {v : Value} {args cs : List Value} {y : z8 ts} (hr : RdE (ZQ W) ts y (fun i => cs[i]?)) (hok : okE ts y) (hl : cs.length = ts.length)
  (hv : if agg then v = .agg cs.toArray else cs = [v]) (ih : ∃ x vs, y5Q W ps args x vs) : ∃ x vs, y5Q W (.v agg ts own :: ps) (v :: args) x vs := by
 obtain ⟨x, vs, h1, h2, h3, h4⟩ := ih
 obtain ⟨z, hz, okz⟩ := y5P (H := ZQ W) ts (ps.flatMap PK.ins) y x (fun i => (cs ++ vs)[i]?) (RdE.ext _ _ _ _ (fun i u hi hu => by
   rw [List.getElem?_append_left (by omega)]
   exact hu) hr) (RdE.ext _ _ _ _ (fun i u hi hu => by
   rw [List.getElem?_append_right (by omega), show ts.length + i - cs.length = i by omega]
   exact hu) h1) hok h2
 exact ⟨z, cs ++ vs, hz, okz, by simp [hl, h3, PK.ins], v, cs, args, vs, rfl, rfl, hl, hv, h4⟩
theorem ya8 (hT : TOk C P) {H : Type} {enc : TypeId × Value → H} {W : World} {t : Nat} {ty : Ty} {b : Nat} (ht : C.info t = some (.c ty b)) {own : List Bool} {ps : List PK} {r : Reach} {b0 : Nat} {v : Value} {args : List Value} {dt : DataW H} {p : List MemPlace}
  (hv : Value.okWide P W r b0 t v) (htr : DataW.Trod enc P W 0 (fun _ => true) true t v dt p) (ih : ∃ x vs, y5Q W ps args x vs) : ∃ x vs, y5Q W (.v false [ty] own :: ps) (v :: args) x vs := by
 obtain ⟨fuel, hf⟩ := htr
 obtain ⟨y, hr, hok, hl⟩ := ysB hT enc W fuel t _ _ _ ht hf
 have hc : v.cells.toList = [v] := by
  obtain ⟨d, hd, hdesc⟩ := hT.und t _ ht
  cases ty with
  | int k =>
   have hdesc : d = .int k := hdesc
   subst hdesc
   obtain ⟨n, rfl⟩ := okWide_int hd hv
   rfl
  | bool =>
   have hdesc : d = .bool := hdesc
   subst hdesc
   simp only [Value.okWide, hd, Cell.okWide] at hv
   cases v <;> simp_all [Cell.ok, Value.cells]
  | str =>
   have hdesc : d = .string := hdesc
   subst hdesc
   obtain ⟨n, rfl⟩ := okWide_string hd hv
   rfl
  | sl e ts =>
   obtain ⟨rfl, _⟩ := hdesc
   obtain ⟨a, l, c, rfl⟩ := okWide_slice hd hv
   rfl
 exact yda (cs := v.cells.toList) (y := y) hr hok hl (by simpa using hc) ih
def yeg : (ts : List Ty) → z8 ts → Prop
 | [.bool], b => b = true
 | _, _ => False
theorem yeh {H : Hp} {w : World} : ∀ (ts : List Ty) (os : List Bool) (x : z8 ts) (vs : List Value), (∀ b ∈ os, b = false) → RdE H ts x (fun i => vs[i]?) → vs.length = ts.length → ∃ bs, vm H w ts os x vs bs ∧ ∀ k, ¬ In bs k := by
 have one : ∀ (t : Ty) (x : El t) (v : Value), RdT H t x v → y4Z H w t false x v (fun _ => False) := by
  intro t x v hr
  cases t <;> exact ⟨rfl, hr⟩
 have hd : ∀ os : List Bool, (∀ b ∈ os, b = false) → os.headD false = false := by
  intro os h
  cases os with
  | nil => rfl
  | cons b os => exact h b (by simp)
 intro ts
 induction ts with
 | nil =>
  intro os x vs _ _ hl
  have : vs = [] := List.length_eq_zero_iff.1 hl
  subst this
  exact ⟨[], ⟨rfl, rfl⟩, fun _ => In.nil⟩
 | cons t ts ih =>
  intro os x vs ho hr hl
  cases vs with
  | nil => simp at hl
  | cons v vs =>
   cases ts with
   | nil =>
    have : vs = [] := List.length_eq_zero_iff.1 (by simpa using hl)
    subst this
    obtain ⟨u, hu, hru⟩ := hr
    have : v = u := by simpa using hu
    subst this
    exact ⟨[fun _ => False], ⟨v, fun _ => False, rfl, rfl, by rw [hd os ho]; exact one t x v hru⟩, by simp [In]⟩
   | cons u r =>
    obtain ⟨⟨u', hu, hru⟩, hs⟩ := hr
    have : v = u' := by simpa using hu
    subst this
    obtain ⟨bs, h1, h2⟩ := ih os.tail x.2 vs (fun b hb => ho b (List.mem_of_mem_tail hb)) (by simpa using hs) (by simpa using hl)
    exact ⟨(fun _ => False) :: bs, ⟨v, fun _ => False, vs, bs, rfl, rfl, by rw [hd os ho]; exact one t x.1 v hru, h1⟩, fun k hk => (In.cons.1 hk).elim (fun h => h) (h2 k)⟩
theorem yei {f : Nat} {F : z8 (C.ins f) → Option (z8 (C.outs f))} (hF : jY C P f F) {ps : List PK} {o : List Bool} (hsig : C.sig f = some ⟨ps, [⟨false, [.bool], o⟩], false, false⟩) (hfid : C.fid f = f) (hps : ps.all (fun p => !p.isP && p.ownsIn.all (fun b => !b)) = true)
  {fn : Func} (hfn : P.funcs[f]? = some fn) (hn : fn.name ≠ "runtime.NumGoroutine") (hb : fn.body ≠ none) {W : World} (hgl : C.gl (ZQ W)) {args : List Value} (hargs : ∃ x vs, y5Q W ps args x vs)
  (hpure : ∀ x : z8 (C.ins f), okE (C.ins f) x → ∃ y, F x = some y ∧ yeg (C.outs f) y) : Calls P f args.toArray W fun e W' => e = .returned (.bool true) ∧ Below W.heap.size W W' := by
 obtain ⟨x, vs, h1, h2, h3, h4⟩ := hargs
 have hins : C.ins f = ps.flatMap PK.ins := by simp [Ctx.ins, hsig, Sig.ins]
 have hnoP : ∀ p ∈ ps, p.outs = [] ∧ ∀ b ∈ p.ownsIn, b = false := fun p hp => by
  have := List.all_eq_true.1 hps p hp
  simp only [Bool.and_eq_true, Bool.not_eq_true'] at this
  refine ⟨?_, fun b hb => ?_⟩
  ·cases p with
   | v _ _ _ => rfl
   | k _ => rfl
   | p _ _ _ => simp [PK.isP] at this
  ·have := List.all_eq_true.1 this.2 b hb
   simpa using this
 have houts : C.outs f = [.bool] := by
  have : ∀ ps : List PK, (∀ p ∈ ps, p.outs = []) → ps.flatMap PK.outs = [] := fun ps h => by
   induction ps with
   | nil => rfl
   | cons p ps ih => simp [List.flatMap_cons, h p (by simp), ih (fun q hq => h q (by simp [hq]))]
  simp [Ctx.outs, hsig, Sig.outs, this ps (fun p hp => (hnoP p hp).1)]
 have key : ∀ (ins outs : List Ty) (F : z8 ins → Option (z8 outs)) (hi : ins = ps.flatMap PK.ins) (ho : outs = [.bool]), (∀ x : z8 ins, okE ins x → ∃ y, F x = some y ∧ yeg outs y) → ∃ x' : z8 ins, RdE (ZQ W) ins x' (fun i => vs[i]?) ∧ vs.length = ins.length ∧ ∃ y, F x' = some y ∧ yeg outs y := by
  intro ins outs F hi ho hp
  subst hi ho
  exact ⟨x, h1, h3, hp x h2⟩
 obtain ⟨x', hr, hl, y, hy, hty⟩ := key (C.ins f) (C.outs f) F hins houts hpure
 obtain ⟨bs, c1, c2⟩ := yeh (w := W) (C.ins f) (ps.flatMap PK.ownsIn) x' vs (fun b hb => by
  obtain ⟨p, hp, hb⟩ := List.mem_flatMap.1 hb
  exact (hnoP p hp).2 b hb) hr hl
 have hnl : ∀ k, ¬ qy bs [] k := fun k hk => by
  rcases hk with hk | ⟨p, hp, _⟩
  ·exact c2 k hk
  ·simp at hp
 have hap : y4Y bs := by
  unfold y4Y
  exact List.Pairwise.imp_of_mem (R := fun _ _ => True) (fun {b c} hb _ _ k hk => absurd ⟨b, hb, hk⟩ (c2 k)) (List.pairwise_of_forall (fun _ _ => trivial))
 have hg := hF ⟨ps, [⟨false, [.bool], o⟩], false, false⟩ x' y hsig hy W (ZQ W) args vs bs [] hgl (Hp.le.refl _) c1 hap h4 List.Pairwise.nil (fun k hk => absurd hk (hnl k)) (by simp)
 have he : (callFunc f args.toArray).run P W = .ok (.enter f args.toArray) W := by simp [callFunc, hfn, hn, hb]
 unfold ycV at hg
 rw [hfid, he] at hg
 refine Calls.mono hg fun e W' hv => ?_
 obtain ⟨v, rfl, H', vs', cs, rest, bs', hleft⟩ := hv
 refine ⟨?_, hleft.os, hleft.tape, hleft.output, hleft.size, fun k hk => hleft.old k hk (hnl k)⟩
 have hcells := hleft.cells
 obtain ⟨nb, hra, _⟩ := hleft.res
 obtain ⟨_, hspread, hvv⟩ : nb = none ∧ Qq [⟨false, [.bool], o⟩] vs' cs rest ∧ v = y2B cs := hra
 have hval : ∀ (outs : List Ty) (ow : List Bool) (y : z8 outs), outs = [.bool] → yeg outs y → vm H' W' outs ow y vs' bs' → vs' = [.bool true] := by
  intro outs ow y ho hty hc
  subst ho
  obtain ⟨v, b, rfl, _, hc⟩ := hc
  have hy : y = true := hty
  subst hy
  have : v = .bool true := by
   cases ow.headD false <;> exact hc.2
  rw [this]
 have hvs := hval _ _ y houts hty hcells
 obtain ⟨vs1, vs2, c, cs', e1, e2, e3, e4, e5⟩ := hspread
 obtain ⟨rfl, _⟩ := e5
 have e4' : vs1 = [c] := e4
 rw [hvs, e4'] at e1
 have : c = .bool true := by
  have := congrArg List.head? e1
  simpa using this.symm
 rw [hvv, e3, this]
 rfl
end Go.Proofs.YtgediecndaheiaaGreat.R
