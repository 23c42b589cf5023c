/- Every operation does what the evaluator says. Conditions: the types lie as the context says; functions do what the evaluator says. -/
import Derived.Test.YtmapoakbdgpamaaGreatRFill
set_option linter.all false
namespace Go.Proofs.YtmapoakbdgpamaaGreat.R
open Go.RowKit
variable {P : Program} {C : Ctx} {w0 : World} {lent : Nat → Prop} {H0 : Base} {s : St} {a : Act} {w : World} {G : Gh} {o : Oper} {K : Act → World → Prop} {Q : Exit → Act → World → Prop} {R : Type} {k : Eff → Option R} {r : R} {lk : Lk} {call : C.Sem} {ct wn : Bool}
theorem yfm (hT : TOk C P) (hC : Kp H0 C P call) (h : Rel P w0 lent H0 s a w G) (hK : y1j P w0 lent H0 s o k r K) (hout : Out o) (hlk : y1C lk s) (he : Zg C call ct wn o s.opd lk k = some r) : o.wp P a w K Q := by
 cases hop : o.op with
 | move x => exact yd4 h hK (.inl hop) he
 | assign x => exact yd4 h hK (.inr hop) he
 | load t x => exact yix hT h hK hlk hop he
 | store t p x => exact yfc hT h hK hlk hop he
 | nilCheck x => exact y9u h hK hop he
 | binOp op t x y ty => exact yf7 hT h hK hop he
 | unOp op t x => exact yiy h hK hop he
 | extract x i => exact yc1 h hK hop he
 | makeFunc fn first captured => exact y9t h hK hop he
 | fieldAddr t x f => exact y7W hT h hK hop he
 | field t x f => exact yf8 hT h hK hop he
 | index t x i => exact yf9 hT h hK hop he
 | indexAddr t x i => exact y7X hT h hK hlk hop he
 | box t x => exact ylb hT h hK hout hop he
 | alloc t => exact yfb hT h hK hout hop he
 | build t parts => exact yfl hT h hK hout hop he
 | buildSlice t n parts => exact y5D hT h hK hout hlk hop he
 | makeSlice t l c => exact y7Y hT h hK hout hop he
 | convert src dst x => exact yc8 hT h hK hlk hop he
 | slice t x lo hi mx =>
  cases mx with
  | none => exact yfd hT h hK hout hlk hop he
  | some m => simp [Zg, hop] at he
 | call c =>
  cases hc : c.callee with
  | value f => exact yiI hC h hK hlk hop hc he
  | invoke r m => simp [Zg, hop, hc] at he
  | builtin b =>
   cases b with
   | len =>
    cases hargs : c.args.toList with
    | nil => simp [Zg, hop, hc, hargs] at he
    | cons x l =>
     cases l with
     | cons _ _ => simp [Zg, hop, hc, hargs] at he
     | nil =>
      cases ht : c.argTypes.toList with
      | nil => simp [Zg, hop, hc, hargs, ht] at he
      | cons t ts => exact ylc hT h hK hlk hop hc hargs ht he
   | min =>
    cases hargs : c.args.toList with
    | nil => simp [Zg, hop, hc, hargs] at he
    | cons x l =>
     cases l with
     | nil => simp [Zg, hop, hc, hargs] at he
     | cons y l =>
      cases l with
      | nil => exact yld h hK hop hc hargs he
      | cons _ _ => simp [Zg, hop, hc, hargs] at he
   | append =>
    cases hargs : c.args.toList with
    | nil => simp [Zg, hop, hc, hargs] at he
    | cons x l =>
     cases l with
     | nil => simp [Zg, hop, hc, hargs] at he
     | cons y l =>
      cases l with
      | cons _ _ => simp [Zg, hop, hc, hargs] at he
      | nil =>
       cases ht : c.argTypes.toList with
       | nil => simp [Zg, hop, hc, hargs, ht] at he
       | cons t ts =>
        cases ts with
        | nil => simp [Zg, hop, hc, hargs, ht] at he
        | cons t2 ts =>
         cases ts with
         | cons _ _ => simp [Zg, hop, hc, hargs, ht] at he
         | nil => exact yd8 hT h hK hout hlk hop hc hargs ht he
   | _ => simp [Zg, hop, hc] at he
 | _ => simp [Zg, hop] at he
end Go.Proofs.YtmapoakbdgpamaaGreat.R
