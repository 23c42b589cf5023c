/- Every operation does what the evaluator says. Conditions: the types lie as the context says; functions do what the evaluator says. -/
import Derived.Test.YthgdjjdigalckaaGreatRFill
set_option linter.all false
namespace Go.Proofs.YthgdjjdigalckaaGreat.R
open Go.RowKit
variable {P : Program} {C : Ctx} {w0 : World} {lent : Nat → Prop} {H0 : Base} {s : St} {a : Act} {w : World} {G : Gh} {o : Oper} {K : Act → World → Prop} {Q : Exit → Act → World → Prop} {R : Type} {k : Eff → Option R} {r : R} {lk : Lk} {call : C.Sem} {ct wn : Bool}
theorem yg4 (hT : TOk C P) (hC : vd H0 C P call) (h : Rel P w0 lent H0 s a w G) (hK : y3e P w0 lent H0 s o k r K) (hout : Out o) (hlk : y5g lk s) (he : jp C call ct wn o s.opd lk k = some r) : o.wp P a w K Q := by
 cases hop : o.op with
 | move x => exact ydL h hK (.inl hop) he
 | assign x => exact ydL h hK (.inr hop) he
 | load t x => exact yjv hT h hK hlk hop he
 | store t p x => exact yfT hT h hK hlk hop he
 | nilCheck x => exact yaA h hK hop he
 | binOp op t x y ty => exact yfO hT h hK hop he
 | unOp op t x => exact yjw h hK hop he
 | extract x i => exact ycP h hK hop he
 | makeFunc fn first captured => exact yaz h hK hop he
 | fieldAddr t x f => exact y8I hT h hK hop he
 | field t x f => exact yfP hT h hK hop he
 | index t x i => exact yfQ hT h hK hop he
 | indexAddr t x i => exact y8J hT h hK hlk hop he
 | box t x => exact ymQ hT h hK hout hop he
 | alloc t => exact yfS hT h hK hout hop he
 | build t parts => exact yg3 hT h hK hout hop he
 | buildSlice t n parts => exact y6v hT h hK hout hlk hop he
 | makeSlice t l c => exact y8L hT h hK hout hop he
 | convert src dst x => exact ycV hT h hK hlk hop he
 | slice t x lo hi mx =>
  cases mx with
  | none => exact yfV hT h hK hout hlk hop he
  | some m => simp [jp, hop] at he
 | call c =>
  cases hc : c.callee with
  | value f => exact yjD hC h hK hlk hop hc he
  | invoke r m => simp [jp, hop, hc] at he
  | builtin b =>
   cases b with
   | len =>
    cases hargs : c.args.toList with
    | nil => simp [jp, hop, hc, hargs] at he
    | cons x l =>
     cases l with
     | cons _ _ => simp [jp, hop, hc, hargs] at he
     | nil =>
      cases ht : c.argTypes.toList with
      | nil => simp [jp, hop, hc, hargs, ht] at he
      | cons t ts => exact ymR hT h hK hlk hop hc hargs ht he
   | min =>
    cases hargs : c.args.toList with
    | nil => simp [jp, hop, hc, hargs] at he
    | cons x l =>
     cases l with
     | nil => simp [jp, hop, hc, hargs] at he
     | cons y l =>
      cases l with
      | nil => exact ymS h hK hop hc hargs he
      | cons _ _ => simp [jp, hop, hc, hargs] at he
   | append =>
    cases hargs : c.args.toList with
    | nil => simp [jp, hop, hc, hargs] at he
    | cons x l =>
     cases l with
     | nil => simp [jp, hop, hc, hargs] at he
     | cons y l =>
      cases l with
      | cons _ _ => simp [jp, hop, hc, hargs] at he
      | nil =>
       cases ht : c.argTypes.toList with
       | nil => simp [jp, hop, hc, hargs, ht] at he
       | cons t ts =>
        cases ts with
        | nil => simp [jp, hop, hc, hargs, ht] at he
        | cons t2 ts =>
         cases ts with
         | cons _ _ => simp [jp, hop, hc, hargs, ht] at he
         | nil => exact ydO hT h hK hout hlk hop hc hargs ht he
   | _ => simp [jp, hop, hc] at he
 | _ => simp [jp, hop] at he
end Go.Proofs.YthgdjjdigalckaaGreat.R
