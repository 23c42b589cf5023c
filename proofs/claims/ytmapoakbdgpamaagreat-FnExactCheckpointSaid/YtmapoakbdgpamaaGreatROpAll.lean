/- Every operation does what the evaluator says. Conditions: the types lie as the context says; functions do what the evaluator says. -/
import Derived.Test.YtmapoakbdgpamaaGreatRFill
set_option linter.all false
namespace Go.Proofs.YtmapoakbdgpamaaGreat.R
open Go.RowKit
variable {P : Program} {C : Ctx} {w0 : World} {lent : Nat → Prop} {H0 : Base} {s : St} {a : Act} {w : World} {G : Gh} {o : Oper} {K : Act → World → Prop} {Q : Exit → Act → World → Prop} {R : Type} {k : Eff → Option R} {r : R} {lk : Lk} {call : C.Sem} {ct wn : Bool}
theorem yhx (hT : TOk C P) (hC : vh H0 C P call) (h : Rel P w0 lent H0 s a w G) (hK : y2t P w0 lent H0 s o k r K) (hout : Out o) (hlk : y2P lk s) (he : Zl C call ct wn o s.opd lk k = some r) : o.wp P a w K Q := by
 cases hop : o.op with
 | move x => exact yf0 h hK (.inl hop) he
 | assign x => exact yf0 h hK (.inr hop) he
 | load t x => exact yl0 hT h hK hlk hop he
 | store t p x => exact yhn hT h hK hlk hop he
 | nilCheck x => exact yaV h hK hop he
 | binOp op t x y ty => exact yhi hT h hK hop he
 | unOp op t x => exact yl1 h hK hop he
 | extract x i => exact ydH h hK hop he
 | makeFunc fn first captured => exact yaU h hK hop he
 | fieldAddr t x f => exact y9r hT h hK hop he
 | field t x f => exact yhj hT h hK hop he
 | index t x i => exact yhk hT h hK hop he
 | indexAddr t x i => exact y9s hT h hK hlk hop he
 | box t x => exact ynR hT h hK hout hop he
 | alloc t => exact yhm hT h hK hout hop he
 | build t parts => exact yhw hT h hK hout hop he
 | buildSlice t n parts => exact y72 hT h hK hout hlk hop he
 | makeSlice t l c => exact y9t hT h hK hout hop he
 | convert src dst x => exact ydO hT h hK hlk hop he
 | slice t x lo hi mx =>
  cases mx with
  | none => exact yho hT h hK hout hlk hop he
  | some m => simp [Zl, hop] at he
 | call c =>
  cases hc : c.callee with
  | value f => exact ylb hC h hK hlk hop hc he
  | invoke r m => simp [Zl, hop, hc] at he
  | builtin b =>
   cases b with
   | len =>
    cases hargs : c.args.toList with
    | nil => simp [Zl, hop, hc, hargs] at he
    | cons x l =>
     cases l with
     | cons _ _ => simp [Zl, hop, hc, hargs] at he
     | nil =>
      cases ht : c.argTypes.toList with
      | nil => simp [Zl, hop, hc, hargs, ht] at he
      | cons t ts => exact ynS hT h hK hlk hop hc hargs ht he
   | min =>
    cases hargs : c.args.toList with
    | nil => simp [Zl, hop, hc, hargs] at he
    | cons x l =>
     cases l with
     | nil => simp [Zl, hop, hc, hargs] at he
     | cons y l =>
      cases l with
      | nil => exact ynT h hK hop hc hargs he
      | cons _ _ => simp [Zl, hop, hc, hargs] at he
   | append =>
    cases hargs : c.args.toList with
    | nil => simp [Zl, hop, hc, hargs] at he
    | cons x l =>
     cases l with
     | nil => simp [Zl, hop, hc, hargs] at he
     | cons y l =>
      cases l with
      | cons _ _ => simp [Zl, hop, hc, hargs] at he
      | nil =>
       cases ht : c.argTypes.toList with
       | nil => simp [Zl, hop, hc, hargs, ht] at he
       | cons t ts =>
        cases ts with
        | nil => simp [Zl, hop, hc, hargs, ht] at he
        | cons t2 ts =>
         cases ts with
         | cons _ _ => simp [Zl, hop, hc, hargs, ht] at he
         | nil => exact yf4 hT h hK hout hlk hop hc hargs ht he
   | _ => simp [Zl, hop, hc] at he
 | _ => simp [Zl, hop] at he
end Go.Proofs.YtmapoakbdgpamaaGreat.R
