/- The evaluator's steps as functions. No condition. -/
import Derived.Test.YtgediecndaheiaaGreatRCells
set_option linter.all false
namespace Go.Proofs.YtgediecndaheiaaGreat.R
open Go.RowKit
variable {P : Program} {C : Ctx} {s : St} {o : Oper} {R : Type} {lk : Lk} {call : C.Sem} {ct wn : Bool} {ρ : Operand → A}
theorem ycS {dst : Option Nat} {g q : Nat} {as : List A} (k : Eff → Option R) : ydC C call lk dst g as q k = (ydC C call lk dst g as q some).bind k := by
 unfold ydC
 simp only [Bool.cond_eq_ite]
 (repeat' (split <;> (try simp only [Option.bind_none, Option.bind_some, Option.bind_assoc, Bool.cond_eq_ite]) <;> try rfl))
 all_goals (congr 1; funext y; cases VU _ _ _ _ _ _ _ y <;> rfl)
set_option maxHeartbeats 1000000 in
theorem y3T (k : Eff → Option R) : jG C call ct wn o ρ lk k = (jG C call ct wn o ρ lk some).bind k := by
 unfold jG
 cases o.op <;> simp only [ydA, ycS k, Option.bind_none, Option.bind_some, Bool.cond_eq_ite] <;> (repeat' (split <;> (try simp only [Option.bind_none, Option.bind_some, Option.bind_assoc, Bool.cond_eq_ite]) <;> try rfl)) <;> (try rfl)
 all_goals (first | (exfalso; rename_i heq; cases heq; done) | (congr 1; funext y; cases VU _ _ _ _ _ _ _ y <;> rfl) | skip)
theorem y2A {ρ ρ' : Operand → A} (fs : List (Nat × Nat)) : ∀ (parts : List (Nat × Operand)) (cs : List A), (∀ p ∈ parts, ρ p.2 = ρ' p.2) → y1i C ρ fs cs parts = y1i C ρ' fs cs parts
 | [], _, _ => rfl
 | (i, x) :: r, cs, h => by
  have hx := h (i, x) (by simp)
  simp only at hx
  have ih := fun cs => y2A fs r cs (fun p hp => h p (by simp [hp]))
  simp only [y1i, hx, ih]
theorem y5v {ρ ρ' : Operand → A} (ts : List Ty) : ∀ (parts : List (Nat × Operand)) (xs : List (z8 ts)) (is : List Nat), (∀ p ∈ parts, ρ p.2 = ρ' p.2) → ycA lk ρ ts parts xs is = ycA lk ρ' ts parts xs is
 | [], _, _, _ => rfl
 | (i, x) :: r, xs, is, h => by
  have hx := h (i, x) (by simp)
  simp only at hx
  have ih := fun xs is => y5v ts r xs is (fun p hp => h p (by simp [hp]))
  simp only [ycA, hx, ih]
theorem ycT {ρ ρ' : Operand → A} (k : Eff → Option R) (h : ∀ x ∈ o.op.operands, ρ x = ρ' x) : jG C call ct wn o ρ lk k = jG C call ct wn o ρ' lk k := by
 obtain ⟨dst, op, type, pos, after, guard⟩ := o
 cases op <;> simp only [Op.operands] at h <;> simp only [jG]
 case build t ps =>
  have hp : ∀ p ∈ ps.toList, ρ p.2 = ρ' p.2 := fun p hp => h p.2 (by simpa using ⟨p.1, by simpa using hp⟩)
  simp only [y2A _ _ _ hp]
 case buildSlice t n ps =>
  have hp : ∀ p ∈ ps.toList, ρ p.2 = ρ' p.2 := fun p hp => h p.2 (by simpa using ⟨p.1, by simpa using hp⟩)
  simp only [y5v _ _ _ _ hp]
 case call c =>
  have hargs : ∀ x ∈ c.args.toList, ρ x = ρ' x := fun x hx => h x (by simp [Call.operands]; simp at hx; simp [hx])
  have hm : c.args.toList.map ρ = c.args.toList.map ρ' := List.map_congr_left hargs
  cases hc : c.callee with
  | value f =>
   have hf : ρ f = ρ' f := h f (by simp [Call.operands, hc])
   dsimp only
   rw [hf, hm]
  | invoke r m => cases c.args.toList <;> rfl
  | builtin b =>
   cases hl : c.args.toList with
   | nil => cases b <;> rfl
   | cons x l =>
    have hx := hargs x (by simp [hl])
    cases l with
    | nil =>
     cases b <;> first | rfl | (cases c.argTypes.toList <;> first | rfl | (dsimp only; rw [hx]))
    | cons y l =>
     have hy := hargs y (by simp [hl])
     cases l with
     | nil =>
      cases b <;> first | rfl | (dsimp only; rw [hx, hy]) | (cases c.argTypes.toList with
       | nil => rfl
       | cons t l => cases l with
        | nil => rfl
        | cons t2 l => cases l with
         | nil => dsimp only; rw [hx, hy]
         | cons _ _ => rfl)
     | cons z l => cases b <;> rfl
 case makeFunc fn first captured =>
  cases fn with
  | func f =>
   cases hc : captured.toList with
   | nil =>
    dsimp only
    rw [hc]
    cases first.toList <;> rfl
   | cons x l =>
    have hm : x ∈ captured := by
     have : x ∈ captured.toList := by simp [hc]
     simpa using this
    have hx : ρ x = ρ' x := h x (by simp [hm])
    dsimp only
    rw [hc]
    cases l <;> cases first.toList <;> first | rfl | (dsimp only; rw [hx])
  | _ => rfl
 case slice t x lo hi mx =>
  have hx := h x (by simp)
  cases mx with
  | some m => rfl
  | none =>
   have hlo : loA ρ lo = loA ρ' lo := by
    cases lo with
    | none => rfl
    | some z => exact h z (by simp)
   have hhi : hiA ρ hi = hiA ρ' hi := funext fun n => by
    cases hi with
    | none => rfl
    | some z => exact h z (by cases lo <;> simp)
   dsimp only
   rw [hx, hlo, hhi]
 all_goals (first | rfl | (simp_all; done) | skip)
end Go.Proofs.YtgediecndaheiaaGreat.R
