/- Every operation does what the evaluator says. Conditions: the types lie as the context says; functions do what the evaluator says. -/
import Derived.Test.YtmapoakbdgpamaaGreatRFill
set_option linter.all false
namespace Go.Proofs.YtmapoakbdgpamaaGreat.R
open Go.RowKit
variable {P : Program} {C : Ctx} {w0 : World} {lent : Nat → Prop} {H0 : Base} {s : St} {a : Act} {w : World} {G : Gh} {o : Oper} {K : Act → World → Prop} {Q : Exit → Act → World → Prop} {R : Type} {k : Eff → Option R} {r : R} {lk : Lk} {call : C.Sem} {ct wn : Bool}
theorem yeK (hT : TOk C P) (hC : K7 H0 C P call) (h : Rel P w0 lent H0 s a w G) (hK : y1j P w0 lent H0 s o k r K) (hout : Out o) (hlk : y1H lk s) (he : Zn C call ct wn o s.opd lk k = some r) : o.wp P a w K Q := by
 cases hop : o.op with
 | move x => exact ycz h hK (.inl hop) he
 | assign x => exact ycz h hK (.inr hop) he
 | load t x => exact yhI hT h hK hlk hop he
 | store t p x => exact yeA hT h hK hlk hop he
 | nilCheck x => exact y9p h hK hop he
 | binOp op t x y ty => exact yev hT h hK hop he
 | unOp op t x => exact yhJ h hK hop he
 | extract x i => exact ybu h hK hop he
 | makeFunc fn first captured => exact y9o h hK hop he
 | fieldAddr t x f => exact y7o hT h hK hop he
 | field t x f => exact yew hT h hK hop he
 | index t x i => exact yex hT h hK hop he
 | indexAddr t x i => exact y7p hT h hK hlk hop he
 | box t x => exact ykP hT h hK hout hop he
 | alloc t => exact yez hT h hK hout hop he
 | build t parts => exact yeJ hT h hK hout hop he
 | buildSlice t n parts => exact y5g hT h hK hout hlk hop he
 | makeSlice t l c => exact y7q hT h hK hout hop he
 | convert src dst x => exact ybB hT h hK hlk hop he
 | slice t x lo hi mx =>
  cases mx with
  | none => exact yeB hT h hK hout hlk hop he
  | some m => simp [Zn, hop] at he
 | call c =>
  cases hc : c.callee with
  | value f => exact yhT hC h hK hlk hop hc he
  | invoke r m => simp [Zn, hop, hc] at he
  | builtin b =>
   cases b with
   | len =>
    cases hargs : c.args.toList with
    | nil => simp [Zn, hop, hc, hargs] at he
    | cons x l =>
     cases l with
     | cons _ _ => simp [Zn, hop, hc, hargs] at he
     | nil =>
      cases ht : c.argTypes.toList with
      | nil => simp [Zn, hop, hc, hargs, ht] at he
      | cons t ts => exact ykQ hT h hK hlk hop hc hargs ht he
   | min =>
    cases hargs : c.args.toList with
    | nil => simp [Zn, hop, hc, hargs] at he
    | cons x l =>
     cases l with
     | nil => simp [Zn, hop, hc, hargs] at he
     | cons y l =>
      cases l with
      | nil => exact ykR h hK hop hc hargs he
      | cons _ _ => simp [Zn, hop, hc, hargs] at he
   | append =>
    cases hargs : c.args.toList with
    | nil => simp [Zn, hop, hc, hargs] at he
    | cons x l =>
     cases l with
     | nil => simp [Zn, hop, hc, hargs] at he
     | cons y l =>
      cases l with
      | cons _ _ => simp [Zn, hop, hc, hargs] at he
      | nil =>
       cases ht : c.argTypes.toList with
       | nil => simp [Zn, hop, hc, hargs, ht] at he
       | cons t ts =>
        cases ts with
        | nil => simp [Zn, hop, hc, hargs, ht] at he
        | cons t2 ts =>
         cases ts with
         | cons _ _ => simp [Zn, hop, hc, hargs, ht] at he
         | nil => exact ycD hT h hK hout hlk hop hc hargs ht he
   | _ => simp [Zn, hop, hc] at he
 | _ => simp [Zn, hop] at he
end Go.Proofs.YtmapoakbdgpamaaGreat.R
