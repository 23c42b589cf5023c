/- Every operation does what the evaluator says. Conditions: the types lie as the context says; functions do what the evaluator says. -/
import Derived.Test.YtjllpipmaejeoaaGreatRFill
set_option linter.all false
namespace Go.Proofs.YtjllpipmaejeoaaGreat.R
open Go.RowKit
variable {P : Program} {C : Ctx} {w0 : World} {lent : Nat → Prop} {H0 : Base} {s : St} {a : Act} {w : World} {G : Gh} {o : Oper} {K : Act → World → Prop} {Q : Exit → Act → World → Prop} {R : Type} {k : Eff → Option R} {r : R} {lk : Lk} {call : C.Sem} {ct wn : Bool}
theorem yeK (hT : TOk C P) (hC : Ko H0 C P call) (h : Rel P w0 lent H0 s a w G) (hK : y1O P w0 lent H0 s o k r K) (hout : Out o) (hlk : y41 lk s) (he : j7 C call ct wn o s.opd lk k = some r) : o.wp P a w K Q := by
 cases hop : o.op with
 | move x => exact ycy h hK (.inl hop) he
 | assign x => exact ycy h hK (.inr hop) he
 | load t x => exact yhz hT h hK hlk hop he
 | store t p x => exact yez hT h hK hlk hop he
 | nilCheck x => exact y8I h hK hop he
 | binOp op t x y ty => exact yeu hT h hK hop he
 | unOp op t x => exact yhA h hK hop he
 | extract x i => exact ybp h hK hop he
 | makeFunc fn first captured => exact y8H h hK hop he
 | fieldAddr t x f => exact y7d hT h hK hop he
 | field t x f => exact yev hT h hK hop he
 | index t x i => exact yew hT h hK hop he
 | indexAddr t x i => exact y7e hT h hK hlk hop he
 | box t x => exact yko hT h hK hout hop he
 | alloc t => exact yey hT h hK hout hop he
 | build t parts => exact yeJ hT h hK hout hop he
 | buildSlice t n parts => exact y5i hT h hK hout hlk hop he
 | makeSlice t l c => exact y7g hT h hK hout hop he
 | convert src dst x => exact ybw hT h hK hlk hop he
 | slice t x lo hi mx =>
  cases mx with
  | none => exact yeB hT h hK hout hlk hop he
  | some m => simp [j7, hop] at he
 | call c =>
  cases hc : c.callee with
  | value f => exact yhH hC h hK hlk hop hc he
  | invoke r m => simp [j7, hop, hc] at he
  | builtin b =>
   cases b with
   | len =>
    cases hargs : c.args.toList with
    | nil => simp [j7, hop, hc, hargs] at he
    | cons x l =>
     cases l with
     | cons _ _ => simp [j7, hop, hc, hargs] at he
     | nil =>
      cases ht : c.argTypes.toList with
      | nil => simp [j7, hop, hc, hargs, ht] at he
      | cons t ts => exact ykp hT h hK hlk hop hc hargs ht he
   | min =>
    cases hargs : c.args.toList with
    | nil => simp [j7, hop, hc, hargs] at he
    | cons x l =>
     cases l with
     | nil => simp [j7, hop, hc, hargs] at he
     | cons y l =>
      cases l with
      | nil => exact ykq h hK hop hc hargs he
      | cons _ _ => simp [j7, hop, hc, hargs] at he
   | append =>
    cases hargs : c.args.toList with
    | nil => simp [j7, hop, hc, hargs] at he
    | cons x l =>
     cases l with
     | nil => simp [j7, hop, hc, hargs] at he
     | cons y l =>
      cases l with
      | cons _ _ => simp [j7, hop, hc, hargs] at he
      | nil =>
       cases ht : c.argTypes.toList with
       | nil => simp [j7, hop, hc, hargs, ht] at he
       | cons t ts =>
        cases ts with
        | nil => simp [j7, hop, hc, hargs, ht] at he
        | cons t2 ts =>
         cases ts with
         | cons _ _ => simp [j7, hop, hc, hargs, ht] at he
         | nil => exact ycC hT h hK hout hlk hop hc hargs ht he
   | _ => simp [j7, hop, hc] at he
 | _ => simp [j7, hop] at he
end Go.Proofs.YtjllpipmaejeoaaGreat.R
