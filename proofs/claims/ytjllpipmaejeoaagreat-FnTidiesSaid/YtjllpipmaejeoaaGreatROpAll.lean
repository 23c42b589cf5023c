/- Every operation does what the evaluator says. Conditions: the types lie as the context says; functions do what the evaluator says. -/
import Derived.Test.YtjllpipmaejeoaaGreatRFill
set_option linter.all false
namespace Go.Proofs.YtjllpipmaejeoaaGreat.R
open Go.RowKit
variable {P : Program} {C : Ctx} {w0 : World} {lent : Nat → Prop} {H0 : Base} {s : St} {a : Act} {w : World} {G : Gh} {o : Oper} {K : Act → World → Prop} {Q : Exit → Act → World → Prop} {R : Type} {k : Eff → Option R} {r : R} {lk : Lk} {call : C.Sem} {ct wn : Bool}
theorem yg3 (hT : TOk C P) (hC : KQ H0 C P call) (h : Rel P w0 lent H0 s a w G) (hK : y2q P w0 lent H0 s o k r K) (hout : Out o) (hlk : y4O lk s) (he : jc C call ct wn o s.opd lk k = some r) : o.wp P a w K Q := by
 cases hop : o.op with
 | move x => exact ydP h hK (.inl hop) he
 | assign x => exact ydP h hK (.inr hop) he
 | load t x => exact yiZ hT h hK hlk hop he
 | store t p x => exact yfS hT h hK hlk hop he
 | nilCheck x => exact y9M h hK hop he
 | binOp op t x y ty => exact yfN hT h hK hop he
 | unOp op t x => exact yj0 h hK hop he
 | extract x i => exact ycy h hK hop he
 | makeFunc fn first captured => exact y9L h hK hop he
 | fieldAddr t x f => exact y89 hT h hK hop he
 | field t x f => exact yfO hT h hK hop he
 | index t x i => exact yfP hT h hK hop he
 | indexAddr t x i => exact y8a hT h hK hlk hop he
 | box t x => exact ym7 hT h hK hout hop he
 | alloc t => exact yfR hT h hK hout hop he
 | build t parts => exact yg2 hT h hK hout hop he
 | buildSlice t n parts => exact y64 hT h hK hout hlk hop he
 | makeSlice t l c => exact y8c hT h hK hout hop he
 | convert src dst x => exact ycF hT h hK hlk hop he
 | slice t x lo hi mx =>
  cases mx with
  | none => exact yfU hT h hK hout hlk hop he
  | some m => simp [jc, hop] at he
 | call c =>
  cases hc : c.callee with
  | value f => exact yj7 hC h hK hlk hop hc he
  | invoke r m => simp [jc, hop, hc] at he
  | builtin b =>
   cases b with
   | len =>
    cases hargs : c.args.toList with
    | nil => simp [jc, hop, hc, hargs] at he
    | cons x l =>
     cases l with
     | cons _ _ => simp [jc, hop, hc, hargs] at he
     | nil =>
      cases ht : c.argTypes.toList with
      | nil => simp [jc, hop, hc, hargs, ht] at he
      | cons t ts => exact ym8 hT h hK hlk hop hc hargs ht he
   | min =>
    cases hargs : c.args.toList with
    | nil => simp [jc, hop, hc, hargs] at he
    | cons x l =>
     cases l with
     | nil => simp [jc, hop, hc, hargs] at he
     | cons y l =>
      cases l with
      | nil => exact ym9 h hK hop hc hargs he
      | cons _ _ => simp [jc, hop, hc, hargs] at he
   | append =>
    cases hargs : c.args.toList with
    | nil => simp [jc, hop, hc, hargs] at he
    | cons x l =>
     cases l with
     | nil => simp [jc, hop, hc, hargs] at he
     | cons y l =>
      cases l with
      | cons _ _ => simp [jc, hop, hc, hargs] at he
      | nil =>
       cases ht : c.argTypes.toList with
       | nil => simp [jc, hop, hc, hargs, ht] at he
       | cons t ts =>
        cases ts with
        | nil => simp [jc, hop, hc, hargs, ht] at he
        | cons t2 ts =>
         cases ts with
         | cons _ _ => simp [jc, hop, hc, hargs, ht] at he
         | nil => exact ydT hT h hK hout hlk hop hc hargs ht he
   | _ => simp [jc, hop, hc] at he
 | _ => simp [jc, hop] at he
end Go.Proofs.YtjllpipmaejeoaaGreat.R
