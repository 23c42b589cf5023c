/- Every operation does what the evaluator says. Conditions: the types lie as the context says; functions do what the evaluator says. -/
import Derived.Test.YtjllpipmaejeoaaGreatRFill
set_option linter.all false
namespace Go.Proofs.YtjllpipmaejeoaaGreat.R
open Go.RowKit
variable {P : Program} {C : Ctx} {w0 : World} {lent : Nat → Prop} {H0 : Base} {s : St} {a : Act} {w : World} {G : Gh} {o : Oper} {K : Act → World → Prop} {Q : Exit → Act → World → Prop} {R : Type} {k : Eff → Option R} {r : R} {lk : Lk} {call : C.Sem} {ct wn : Bool}
theorem yhP (hT : TOk C P) (hC : vh H0 C P call) (h : Rel P w0 lent H0 s a w G) (hK : y3b P w0 lent H0 s o k r K) (hout : Out o) (hlk : y5D lk s) (he : jA C call ct wn o s.opd lk k = some r) : o.wp P a w K Q := by
 cases hop : o.op with
 | move x => exact yf9 h hK (.inl hop) he
 | assign x => exact yf9 h hK (.inr hop) he
 | load t x => exact ykv hT h hK hlk hop he
 | store t p x => exact yhE hT h hK hlk hop he
 | nilCheck x => exact yb9 h hK hop he
 | binOp op t x y ty => exact yhz hT h hK hop he
 | unOp op t x => exact ykw h hK hop he
 | extract x i => exact ydX h hK hop he
 | makeFunc fn first captured => exact yb8 h hK hop he
 | fieldAddr t x f => exact y9c hT h hK hop he
 | field t x f => exact yhA hT h hK hop he
 | index t x i => exact yhB hT h hK hop he
 | indexAddr t x i => exact y9d hT h hK hlk hop he
 | box t x => exact ynF hT h hK hout hop he
 | alloc t => exact yhD hT h hK hout hop he
 | build t parts => exact yhO hT h hK hout hop he
 | buildSlice t n parts => exact y70 hT h hK hout hlk hop he
 | makeSlice t l c => exact y9f hT h hK hout hop he
 | convert src dst x => exact ye4 hT h hK hlk hop he
 | slice t x lo hi mx =>
  cases mx with
  | none => exact yhG hT h hK hout hlk hop he
  | some m => simp [jA, hop] at he
 | call c =>
  cases hc : c.callee with
  | value f => exact ykD hC h hK hlk hop hc he
  | invoke r m => simp [jA, hop, hc] at he
  | builtin b =>
   cases b with
   | len =>
    cases hargs : c.args.toList with
    | nil => simp [jA, hop, hc, hargs] at he
    | cons x l =>
     cases l with
     | cons _ _ => simp [jA, hop, hc, hargs] at he
     | nil =>
      cases ht : c.argTypes.toList with
      | nil => simp [jA, hop, hc, hargs, ht] at he
      | cons t ts => exact ynG hT h hK hlk hop hc hargs ht he
   | min =>
    cases hargs : c.args.toList with
    | nil => simp [jA, hop, hc, hargs] at he
    | cons x l =>
     cases l with
     | nil => simp [jA, hop, hc, hargs] at he
     | cons y l =>
      cases l with
      | nil => exact ynH h hK hop hc hargs he
      | cons _ _ => simp [jA, hop, hc, hargs] at he
   | append =>
    cases hargs : c.args.toList with
    | nil => simp [jA, hop, hc, hargs] at he
    | cons x l =>
     cases l with
     | nil => simp [jA, hop, hc, hargs] at he
     | cons y l =>
      cases l with
      | cons _ _ => simp [jA, hop, hc, hargs] at he
      | nil =>
       cases ht : c.argTypes.toList with
       | nil => simp [jA, hop, hc, hargs, ht] at he
       | cons t ts =>
        cases ts with
        | nil => simp [jA, hop, hc, hargs, ht] at he
        | cons t2 ts =>
         cases ts with
         | cons _ _ => simp [jA, hop, hc, hargs, ht] at he
         | nil => exact yfd hT h hK hout hlk hop hc hargs ht he
   | _ => simp [jA, hop, hc] at he
 | _ => simp [jA, hop] at he
end Go.Proofs.YtjllpipmaejeoaaGreat.R
