/- Every operation does what the evaluator says. Conditions: the types lie as the context says; functions do what the evaluator says. -/
import Derived.Test.YthgdjjdigalckaaGreatRFill
set_option linter.all false
namespace Go.Proofs.YthgdjjdigalckaaGreat.R
open Go.RowKit
variable {P : Program} {C : Ctx} {w0 : World} {lent : Nat → Prop} {H0 : Base} {s : St} {a : Act} {w : World} {G : Gh} {o : Oper} {K : Act → World → Prop} {Q : Exit → Act → World → Prop} {R : Type} {k : Eff → Option R} {r : R} {lk : Lk} {call : C.Sem} {ct wn : Bool}
theorem yed (hT : TOk C P) (hC : Kn H0 C P call) (h : Rel P w0 lent H0 s a w G) (hK : y1R P w0 lent H0 s o k r K) (hout : Out o) (hlk : y41 lk s) (he : ZS C call ct wn o s.opd lk k = some r) : o.wp P a w K Q := by
 cases hop : o.op with
 | move x => exact yc6 h hK (.inl hop) he
 | assign x => exact yc6 h hK (.inr hop) he
 | load t x => exact yhL hT h hK hlk hop he
 | store t p x => exact ye2 hT h hK hlk hop he
 | nilCheck x => exact y8W h hK hop he
 | binOp op t x y ty => exact ydX hT h hK hop he
 | unOp op t x => exact yhM h hK hop he
 | extract x i => exact ybb h hK hop he
 | makeFunc fn first captured => exact y8V h hK hop he
 | fieldAddr t x f => exact y7n hT h hK hop he
 | field t x f => exact ydY hT h hK hop he
 | index t x i => exact ydZ hT h hK hop he
 | indexAddr t x i => exact y7o hT h hK hlk hop he
 | box t x => exact ykX hT h hK hout hop he
 | alloc t => exact ye1 hT h hK hout hop he
 | build t parts => exact yec hT h hK hout hop he
 | buildSlice t n parts => exact y5g hT h hK hout hlk hop he
 | makeSlice t l c => exact y7q hT h hK hout hop he
 | convert src dst x => exact ybh hT h hK hlk hop he
 | slice t x lo hi mx =>
  cases mx with
  | none => exact ye4 hT h hK hout hlk hop he
  | some m => simp [ZS, hop] at he
 | call c =>
  cases hc : c.callee with
  | value f => exact yhT hC h hK hlk hop hc he
  | invoke r m => simp [ZS, hop, hc] at he
  | builtin b =>
   cases b with
   | len =>
    cases hargs : c.args.toList with
    | nil => simp [ZS, hop, hc, hargs] at he
    | cons x l =>
     cases l with
     | cons _ _ => simp [ZS, hop, hc, hargs] at he
     | nil =>
      cases ht : c.argTypes.toList with
      | nil => simp [ZS, hop, hc, hargs, ht] at he
      | cons t ts => exact ykY hT h hK hlk hop hc hargs ht he
   | min =>
    cases hargs : c.args.toList with
    | nil => simp [ZS, hop, hc, hargs] at he
    | cons x l =>
     cases l with
     | nil => simp [ZS, hop, hc, hargs] at he
     | cons y l =>
      cases l with
      | nil => exact ykZ h hK hop hc hargs he
      | cons _ _ => simp [ZS, hop, hc, hargs] at he
   | append =>
    cases hargs : c.args.toList with
    | nil => simp [ZS, hop, hc, hargs] at he
    | cons x l =>
     cases l with
     | nil => simp [ZS, hop, hc, hargs] at he
     | cons y l =>
      cases l with
      | cons _ _ => simp [ZS, hop, hc, hargs] at he
      | nil =>
       cases ht : c.argTypes.toList with
       | nil => simp [ZS, hop, hc, hargs, ht] at he
       | cons t ts =>
        cases ts with
        | nil => simp [ZS, hop, hc, hargs, ht] at he
        | cons t2 ts =>
         cases ts with
         | cons _ _ => simp [ZS, hop, hc, hargs, ht] at he
         | nil => exact yc9 hT h hK hout hlk hop hc hargs ht he
   | _ => simp [ZS, hop, hc] at he
 | _ => simp [ZS, hop] at he
end Go.Proofs.YthgdjjdigalckaaGreat.R
