/- Every operation does what the evaluator says. Conditions: the types lie as the context says; functions do what the evaluator says. -/
import Derived.Test.YthgdjjdigalckaaGreatRFill
set_option linter.all false
namespace Go.Proofs.YthgdjjdigalckaaGreat.R
open Go.RowKit
variable {P : Program} {C : Ctx} {w0 : World} {lent : Nat → Prop} {H0 : Base} {s : St} {a : Act} {w : World} {G : Gh} {o : Oper} {K : Act → World → Prop} {Q : Exit → Act → World → Prop} {R : Type} {k : Eff → Option R} {r : R} {lk : Lk} {call : C.Sem} {ct wn : Bool}
theorem yfs (hT : TOk C P) (hC : vh H0 C P call) (h : Rel P w0 lent H0 s a w G) (hK : y2A P w0 lent H0 s o k r K) (hout : Out o) (hlk : y4Q lk s) (he : jE C call ct wn o s.opd lk k = some r) : o.wp P a w K Q := by
 cases hop : o.op with
 | move x => exact ydh h hK (.inl hop) he
 | assign x => exact ydh h hK (.inr hop) he
 | load t x => exact yj4 hT h hK hlk hop he
 | store t p x => exact yfh hT h hK hlk hop he
 | nilCheck x => exact y9Z h hK hop he
 | binOp op t x y ty => exact yfc hT h hK hop he
 | unOp op t x => exact yj5 h hK hop he
 | extract x i => exact yci h hK hop he
 | makeFunc fn first captured => exact y9Y h hK hop he
 | fieldAddr t x f => exact y8j hT h hK hop he
 | field t x f => exact yfd hT h hK hop he
 | index t x i => exact yfe hT h hK hop he
 | indexAddr t x i => exact y8k hT h hK hlk hop he
 | box t x => exact ymv hT h hK hout hop he
 | alloc t => exact yfg hT h hK hout hop he
 | build t parts => exact yfr hT h hK hout hop he
 | buildSlice t n parts => exact y6b hT h hK hout hlk hop he
 | makeSlice t l c => exact y8m hT h hK hout hop he
 | convert src dst x => exact ycp hT h hK hlk hop he
 | slice t x lo hi mx =>
  cases mx with
  | none => exact yfj hT h hK hout hlk hop he
  | some m => simp [jE, hop] at he
 | call c =>
  cases hc : c.callee with
  | value f => exact yjc hC h hK hlk hop hc he
  | invoke r m => simp [jE, hop, hc] at he
  | builtin b =>
   cases b with
   | len =>
    cases hargs : c.args.toList with
    | nil => simp [jE, hop, hc, hargs] at he
    | cons x l =>
     cases l with
     | cons _ _ => simp [jE, hop, hc, hargs] at he
     | nil =>
      cases ht : c.argTypes.toList with
      | nil => simp [jE, hop, hc, hargs, ht] at he
      | cons t ts => exact ymw hT h hK hlk hop hc hargs ht he
   | min =>
    cases hargs : c.args.toList with
    | nil => simp [jE, hop, hc, hargs] at he
    | cons x l =>
     cases l with
     | nil => simp [jE, hop, hc, hargs] at he
     | cons y l =>
      cases l with
      | nil => exact ymx h hK hop hc hargs he
      | cons _ _ => simp [jE, hop, hc, hargs] at he
   | append =>
    cases hargs : c.args.toList with
    | nil => simp [jE, hop, hc, hargs] at he
    | cons x l =>
     cases l with
     | nil => simp [jE, hop, hc, hargs] at he
     | cons y l =>
      cases l with
      | cons _ _ => simp [jE, hop, hc, hargs] at he
      | nil =>
       cases ht : c.argTypes.toList with
       | nil => simp [jE, hop, hc, hargs, ht] at he
       | cons t ts =>
        cases ts with
        | nil => simp [jE, hop, hc, hargs, ht] at he
        | cons t2 ts =>
         cases ts with
         | cons _ _ => simp [jE, hop, hc, hargs, ht] at he
         | nil => exact ydl hT h hK hout hlk hop hc hargs ht he
   | _ => simp [jE, hop, hc] at he
 | _ => simp [jE, hop] at he
end Go.Proofs.YthgdjjdigalckaaGreat.R
