/- Every operation does what the evaluator says. Conditions: the types lie as the context says; functions do what the evaluator says. -/
import Derived.Test.YtgediecndaheiaaGreatRFill
set_option linter.all false
namespace Go.Proofs.YtgediecndaheiaaGreat.R
open Go.RowKit
variable {P : Program} {C : Ctx} {w0 : World} {lent : Nat → Prop} {H0 : Base} {s : St} {a : Act} {w : World} {G : Gh} {o : Oper} {K : Act → World → Prop} {Q : Exit → Act → World → Prop} {R : Type} {k : Eff → Option R} {r : R} {lk : Lk} {call : C.Sem} {ct wn : Bool}
theorem yg6 (hT : TOk C P) (hC : v8 H0 C P call) (h : Rel P w0 lent H0 s a w G) (hK : y2y P w0 lent H0 s o k r K) (hout : Out o) (hlk : y4T lk s) (he : jG C call ct wn o s.opd lk k = some r) : o.wp P a w K Q := by
 cases hop : o.op with
 | move x => exact ydR h hK (.inl hop) he
 | assign x => exact ydR h hK (.inr hop) he
 | load t x => exact yjc hT h hK hlk hop he
 | store t p x => exact yfV hT h hK hlk hop he
 | nilCheck x => exact y9L h hK hop he
 | binOp op t x y ty => exact yfQ hT h hK hop he
 | unOp op t x => exact yjd h hK hop he
 | extract x i => exact ycJ h hK hop he
 | makeFunc fn first captured => exact y9K h hK hop he
 | fieldAddr t x f => exact y88 hT h hK hop he
 | field t x f => exact yfR hT h hK hop he
 | index t x i => exact yfS hT h hK hop he
 | indexAddr t x i => exact y89 hT h hK hlk hop he
 | box t x => exact ylX hT h hK hout hop he
 | alloc t => exact yfU hT h hK hout hop he
 | build t parts => exact yg5 hT h hK hout hop he
 | buildSlice t n parts => exact y6e hT h hK hout hlk hop he
 | makeSlice t l c => exact y8b hT h hK hout hop he
 | convert src dst x => exact ycQ hT h hK hlk hop he
 | slice t x lo hi mx =>
  cases mx with
  | none => exact yfX hT h hK hout hlk hop he
  | some m => simp [jG, hop] at he
 | call c =>
  cases hc : c.callee with
  | value f => exact yjk hC h hK hlk hop hc he
  | invoke r m => simp [jG, hop, hc] at he
  | builtin b =>
   cases b with
   | len =>
    cases hargs : c.args.toList with
    | nil => simp [jG, hop, hc, hargs] at he
    | cons x l =>
     cases l with
     | cons _ _ => simp [jG, hop, hc, hargs] at he
     | nil =>
      cases ht : c.argTypes.toList with
      | nil => simp [jG, hop, hc, hargs, ht] at he
      | cons t ts => exact ylY hT h hK hlk hop hc hargs ht he
   | min =>
    cases hargs : c.args.toList with
    | nil => simp [jG, hop, hc, hargs] at he
    | cons x l =>
     cases l with
     | nil => simp [jG, hop, hc, hargs] at he
     | cons y l =>
      cases l with
      | nil => exact ylZ h hK hop hc hargs he
      | cons _ _ => simp [jG, hop, hc, hargs] at he
   | append =>
    cases hargs : c.args.toList with
    | nil => simp [jG, hop, hc, hargs] at he
    | cons x l =>
     cases l with
     | nil => simp [jG, hop, hc, hargs] at he
     | cons y l =>
      cases l with
      | cons _ _ => simp [jG, hop, hc, hargs] at he
      | nil =>
       cases ht : c.argTypes.toList with
       | nil => simp [jG, hop, hc, hargs, ht] at he
       | cons t ts =>
        cases ts with
        | nil => simp [jG, hop, hc, hargs, ht] at he
        | cons t2 ts =>
         cases ts with
         | cons _ _ => simp [jG, hop, hc, hargs, ht] at he
         | nil => exact ydV hT h hK hout hlk hop hc hargs ht he
   | _ => simp [jG, hop, hc] at he
 | _ => simp [jG, hop] at he
end Go.Proofs.YtgediecndaheiaaGreat.R
