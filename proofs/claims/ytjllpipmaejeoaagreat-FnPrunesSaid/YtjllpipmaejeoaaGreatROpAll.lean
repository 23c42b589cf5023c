/- Every operation does what the evaluator says. Conditions: the types lie as the context says; functions do what the evaluator says. -/
import Derived.Test.YtjllpipmaejeoaaGreatRFill
set_option linter.all false
namespace Go.Proofs.YtjllpipmaejeoaaGreat.R
open Go.RowKit
variable {P : Program} {C : Ctx} {w0 : World} {lent : Nat → Prop} {H0 : Base} {s : St} {a : Act} {w : World} {G : Gh} {o : Oper} {K : Act → World → Prop} {Q : Exit → Act → World → Prop} {R : Type} {k : Eff → Option R} {r : R} {lk : Lk} {call : C.Sem} {ct wn : Bool}
theorem yhG (hT : TOk C P) (hC : vm H0 C P call) (h : Rel P w0 lent H0 s a w G) (hK : y3j P w0 lent H0 s o k r K) (hout : Out o) (hlk : y5O lk s) (he : jB C call ct wn o s.opd lk k = some r) : o.wp P a w K Q := by
 cases hop : o.op with
 | move x => exact yf7 h hK (.inl hop) he
 | assign x => exact yf7 h hK (.inr hop) he
 | load t x => exact ykr hT h hK hlk hop he
 | store t p x => exact yhv hT h hK hlk hop he
 | nilCheck x => exact yba h hK hop he
 | binOp op t x y ty => exact yhq hT h hK hop he
 | unOp op t x => exact yks h hK hop he
 | extract x i => exact ydV h hK hop he
 | makeFunc fn first captured => exact yb9 h hK hop he
 | fieldAddr t x f => exact y9r hT h hK hop he
 | field t x f => exact yhr hT h hK hop he
 | index t x i => exact yhs hT h hK hop he
 | indexAddr t x i => exact y9s hT h hK hlk hop he
 | box t x => exact ynB hT h hK hout hop he
 | alloc t => exact yhu hT h hK hout hop he
 | build t parts => exact yhF hT h hK hout hop he
 | buildSlice t n parts => exact y7b hT h hK hout hlk hop he
 | makeSlice t l c => exact y9u hT h hK hout hop he
 | convert src dst x => exact ye2 hT h hK hlk hop he
 | slice t x lo hi mx =>
  cases mx with
  | none => exact yhx hT h hK hout hlk hop he
  | some m => simp [jB, hop] at he
 | call c =>
  cases hc : c.callee with
  | value f => exact ykz hC h hK hlk hop hc he
  | invoke r m => simp [jB, hop, hc] at he
  | builtin b =>
   cases b with
   | len =>
    cases hargs : c.args.toList with
    | nil => simp [jB, hop, hc, hargs] at he
    | cons x l =>
     cases l with
     | cons _ _ => simp [jB, hop, hc, hargs] at he
     | nil =>
      cases ht : c.argTypes.toList with
      | nil => simp [jB, hop, hc, hargs, ht] at he
      | cons t ts => exact ynC hT h hK hlk hop hc hargs ht he
   | min =>
    cases hargs : c.args.toList with
    | nil => simp [jB, hop, hc, hargs] at he
    | cons x l =>
     cases l with
     | nil => simp [jB, hop, hc, hargs] at he
     | cons y l =>
      cases l with
      | nil => exact ynD h hK hop hc hargs he
      | cons _ _ => simp [jB, hop, hc, hargs] at he
   | append =>
    cases hargs : c.args.toList with
    | nil => simp [jB, hop, hc, hargs] at he
    | cons x l =>
     cases l with
     | nil => simp [jB, hop, hc, hargs] at he
     | cons y l =>
      cases l with
      | cons _ _ => simp [jB, hop, hc, hargs] at he
      | nil =>
       cases ht : c.argTypes.toList with
       | nil => simp [jB, hop, hc, hargs, ht] at he
       | cons t ts =>
        cases ts with
        | nil => simp [jB, hop, hc, hargs, ht] at he
        | cons t2 ts =>
         cases ts with
         | cons _ _ => simp [jB, hop, hc, hargs, ht] at he
         | nil => exact yfb hT h hK hout hlk hop hc hargs ht he
   | _ => simp [jB, hop, hc] at he
 | _ => simp [jB, hop] at he
end Go.Proofs.YtjllpipmaejeoaaGreat.R
