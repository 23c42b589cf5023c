/- Every operation does what the evaluator says. Conditions: the types lie as the context says; functions do what the evaluator says. -/
import Derived.Test.YtmapoakbdgpamaaGreatRFill
set_option linter.all false
namespace Go.Proofs.YtmapoakbdgpamaaGreat.R
open Go.RowKit
variable {P : Program} {C : Ctx} {w0 : World} {lent : Nat → Prop} {H0 : Base} {s : St} {a : Act} {w : World} {G : Gh} {o : Oper} {K : Act → World → Prop} {Q : Exit → Act → World → Prop} {R : Type} {k : Eff → Option R} {r : R} {lk : Lk} {call : C.Sem} {ct wn : Bool}
theorem op_sound (hT : TOk C P) (hC : Contract H0 C P call) (h : Rel P w0 lent H0 s a w G) (hK : Next P w0 lent H0 s o k r K) (hout : Out o) (hlk : Sees lk s) (he : effK C call ct wn o s.opd lk k = some r) : o.wp P a w K Q := by
 cases hop : o.op with
 | move x => exact op_move h hK (.inl hop) he
 | assign x => exact op_move h hK (.inr hop) he
 | load t x => exact op_load hT h hK hlk hop he
 | store t p x => exact op_store hT h hK hlk hop he
 | nilCheck x => exact op_nilCheck h hK hop he
 | binOp op t x y ty => exact op_binOp hT h hK hop he
 | unOp op t x => exact op_unOp h hK hop he
 | extract x i => exact op_extract h hK hop he
 | makeFunc fn first captured => exact op_makeFunc h hK hop he
 | fieldAddr t x f => exact op_fieldAddr hT h hK hop he
 | field t x f => exact op_field hT h hK hop he
 | index t x i => exact op_index hT h hK hop he
 | indexAddr t x i => exact op_indexAddr hT h hK hlk hop he
 | box t x => exact op_box hT h hK hout hop he
 | alloc t => exact op_alloc hT h hK hout hop he
 | build t parts => exact op_build hT h hK hout hop he
 | buildSlice t n parts => exact op_buildSlice hT h hK hout hlk hop he
 | makeSlice t l c => exact op_makeSlice hT h hK hout hop he
 | convert src dst x => exact op_convert hT h hK hlk hop he
 | slice t x lo hi mx =>
  cases mx with
  | none => exact op_slice hT h hK hout hlk hop he
  | some m => simp [effK, hop] at he
 | call c =>
  cases hc : c.callee with
  | value f => exact op_call hC h hK hlk hop hc he
  | invoke r m => simp [effK, hop, hc] at he
  | builtin b =>
   cases b with
   | len =>
    cases hargs : c.args.toList with
    | nil => simp [effK, hop, hc, hargs] at he
    | cons x l =>
     cases l with
     | cons _ _ => simp [effK, hop, hc, hargs] at he
     | nil =>
      cases ht : c.argTypes.toList with
      | nil => simp [effK, hop, hc, hargs, ht] at he
      | cons t ts => exact op_len hT h hK hlk hop hc hargs ht he
   | min =>
    cases hargs : c.args.toList with
    | nil => simp [effK, hop, hc, hargs] at he
    | cons x l =>
     cases l with
     | nil => simp [effK, hop, hc, hargs] at he
     | cons y l =>
      cases l with
      | nil => exact op_min h hK hop hc hargs he
      | cons _ _ => simp [effK, hop, hc, hargs] at he
   | append =>
    cases hargs : c.args.toList with
    | nil => simp [effK, hop, hc, hargs] at he
    | cons x l =>
     cases l with
     | nil => simp [effK, hop, hc, hargs] at he
     | cons y l =>
      cases l with
      | cons _ _ => simp [effK, hop, hc, hargs] at he
      | nil =>
       cases ht : c.argTypes.toList with
       | nil => simp [effK, hop, hc, hargs, ht] at he
       | cons t ts =>
        cases ts with
        | nil => simp [effK, hop, hc, hargs, ht] at he
        | cons t2 ts =>
         cases ts with
         | cons _ _ => simp [effK, hop, hc, hargs, ht] at he
         | nil => exact op_append hT h hK hout hlk hop hc hargs ht he
   | _ => simp [effK, hop, hc] at he
 | _ => simp [effK, hop] at he
end Go.Proofs.YtmapoakbdgpamaaGreat.R
