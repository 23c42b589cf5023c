/- The shape of a loop's state, and its values. No condition. -/
import Derived.Test.YtmanmgafjbnakaaRFn
namespace Go.Proofs.Ytmanmgafjbnakaa.R
open Go.RowKit
set_option linter.unusedVariables false
set_option linter.unusedSimpArgs false

/-- A slot without its values. -/
inductive Sh where
  | dead
  | v (t : Ty)
  | nils
  | nilp
  | own (o : Nat)
  | box (b off : Nat)
  | fn (f : Nat)
  | clo (f b : Nat)
  | agg (l : List Sh)
inductive OSh where
  | box (l : List Sh)
  | root (own : Bool) (e : Nat) (ts : List Ty)
mutual
def Val : Sh → Type
  | .v t => El t
  | .agg l => ValL l
  | .dead | .nils | .nilp | .own _ | .box _ _ | .fn _ | .clo _ _ => Unit
def ValL : List Sh → Type
  | [] => Unit
  | s :: r => Val s × ValL r
end
def OSh.Val : OSh → Type
  | .box l => ValL l
  | .root _ _ ts => List (Elts ts)
def ValO : List (Nat × OSh) → Type
  | [] => Unit
  | (_, x) :: r => x.Val × ValO r
mutual
def Sh.mk : (s : Sh) → Val s → A
  | .v t, x => .val t x
  | .agg l, x => .agg (mkL l x)
  | .dead, _ => .dead
  | .nils, _ => .nils
  | .nilp, _ => .nilp
  | .own o, _ => .own o
  | .box b off, _ => .box b off
  | .fn f, _ => .fn f
  | .clo f b, _ => .clo f b
def mkL : (l : List Sh) → ValL l → List A
  | [], _ => []
  | s :: r, x => s.mk x.1 :: mkL r x.2
end
def OSh.mk : (s : OSh) → s.Val → Ob
  | .box l, x => .box (mkL l x)
  | .root own e ts, x => .root own e ts x
def mkO : (l : List (Nat × OSh)) → ValO l → List (Nat × Ob)
  | [], _ => []
  | (i, s) :: r, x => (i, s.mk x.1) :: mkO r x.2
def mkS (l : List Sh) (o : List (Nat × OSh)) (x : ValL l × ValO o) : St := ⟨mkL l x.1, mkO o x.2⟩
def A.isDead : A → Bool
  | .dead => true
  | _ => false
def A.isNils : A → Bool
  | .nils => true
  | _ => false
def A.isNilp : A → Bool
  | .nilp => true
  | _ => false
def A.isOwn (o : Nat) : A → Bool
  | .own o' => Nat.beq o o'
  | _ => false
def A.isBox (b off : Nat) : A → Bool
  | .box b' off' => Nat.beq b b' && Nat.beq off off'
  | _ => false
def A.isFn (f : Nat) : A → Bool
  | .fn f' => Nat.beq f f'
  | _ => false
def A.isClo (f b : Nat) : A → Bool
  | .clo f' b' => Nat.beq f f' && Nat.beq b b'
  | _ => false
def A.asVal (t : Ty) : A → Option (El t)
  | .val t' x => castT t' t x
  | _ => none
def A.asAgg : A → Option (List A)
  | .agg l => some l
  | _ => none
def uncons {α : Type} : List α → Option (α × List α)
  | [] => none
  | a :: l => some (a, l)
def emptyL {α : Type} : List α → Option Unit
  | [] => some ()
  | _ => none
def yes (b : Bool) : Option Unit := bif b then some () else none
mutual
def Sh.un : (s : Sh) → A → Option (Val s)
  | .v t, a => a.asVal t
  | .agg l, a => a.asAgg.bind fun as => unL l as
  | .dead, a => yes a.isDead
  | .nils, a => yes a.isNils
  | .nilp, a => yes a.isNilp
  | .own o, a => yes (a.isOwn o)
  | .box b off, a => yes (a.isBox b off)
  | .fn f, a => yes (a.isFn f)
  | .clo f b, a => yes (a.isClo f b)
def unL : (l : List Sh) → List A → Option (ValL l)
  | [], as => emptyL as
  | s :: r, as => (uncons as).bind fun p => (s.un p.1).bind fun x => (unL r p.2).bind fun y => some (x, y)
end
def Ob.asBox : Ob → Option (List A)
  | .box cs => some cs
  | _ => none
def Ob.asRoot (own : Bool) (e : Nat) (ts : List Ty) : Ob → Option (List (Elts ts))
  | .root own' e' ts' xs => bif own == own' && Nat.beq e e' then castR ts' ts xs else none
  | _ => none
def OSh.un : (s : OSh) → Ob → Option s.Val
  | .box l, x => x.asBox.bind fun cs => unL l cs
  | .root own e ts, x => x.asRoot own e ts
def unO : (l : List (Nat × OSh)) → List (Nat × Ob) → Option (ValO l)
  | [], o => emptyL o
  | (i, s) :: r, o => (uncons o).bind fun p => bif Nat.beq i p.1.1 then (s.un p.1.2).bind fun v => (unO r p.2).bind fun y => some (v, y) else none
def unS (l : List Sh) (o : List (Nat × OSh)) (s : St) : Option (ValL l × ValO o) := (unL l s.t).bind fun x => (unO o s.o).bind fun y => some (x, y)
theorem yes_true {b : Bool} {v : Unit} (h : yes b = some v) : b = true := by
  cases b with
  | true => rfl
  | false => cases h
theorem uncons_some {α : Type} {l : List α} {p : α × List α} (h : uncons l = some p) : l = p.1 :: p.2 := by
  cases l with
  | nil => cases h
  | cons a l =>
    injection h with h
    subst h
    rfl
theorem emptyL_some {α : Type} {l : List α} {v : Unit} (h : emptyL l = some v) : l = [] := by
  cases l with
  | nil => rfl
  | cons a l => cases h
theorem asVal_some {t : Ty} {a : A} {v : El t} (h : a.asVal t = some v) : A.val t v = a := by
  cases a with
  | val t' x =>
    simp only [A.asVal] at h
    unfold castT at h
    split at h
    · rename_i heq
      have := Ty.eqb_eq _ _ heq
      subst this
      injection h with h
      subst h
      rfl
    · cases h
  | _ => cases h
theorem asAgg_some {a : A} {l : List A} (h : a.asAgg = some l) : a = .agg l := by
  cases a with
  | agg l' =>
    injection h with h
    rw [h]
  | _ => cases h
mutual
theorem Sh.un_mk : ∀ (s : Sh) (a : A) (v : Val s), s.un a = some v → s.mk v = a
  | .v t, a, v, h => asVal_some (by rw [Sh.un] at h; exact h)
  | .agg l, a, v, h => by
    rw [Sh.un] at h
    cases h1 : a.asAgg with
    | none =>
      rw [h1] at h
      cases h
    | some as =>
      rw [h1] at h
      have h : unL l as = some v := h
      rw [asAgg_some h1, Sh.mk, mkL_un l as v h]
  | .dead, a, v, h => by
    rw [Sh.un] at h
    have := yes_true h
    cases a <;> first | rfl | cases this
  | .nils, a, v, h => by
    rw [Sh.un] at h
    have := yes_true h
    cases a <;> first | rfl | cases this
  | .nilp, a, v, h => by
    rw [Sh.un] at h
    have := yes_true h
    cases a <;> first | rfl | cases this
  | .own o, a, v, h => by
    rw [Sh.un] at h
    have := yes_true h
    cases a with
    | own o' => rw [Sh.mk, Nat.eq_of_beq_eq_true this]
    | _ => cases this
  | .box b off, a, v, h => by
    rw [Sh.un] at h
    have := yes_true h
    cases a with
    | box b' off' =>
      simp only [A.isBox, Bool.and_eq_true] at this
      rw [Sh.mk, Nat.eq_of_beq_eq_true this.1, Nat.eq_of_beq_eq_true this.2]
    | _ => cases this
  | .fn f, a, v, h => by
    rw [Sh.un] at h
    have := yes_true h
    cases a with
    | fn f' => rw [Sh.mk, Nat.eq_of_beq_eq_true this]
    | _ => cases this
  | .clo f b, a, v, h => by
    rw [Sh.un] at h
    have := yes_true h
    cases a with
    | clo f' b' =>
      simp only [A.isClo, Bool.and_eq_true] at this
      rw [Sh.mk, Nat.eq_of_beq_eq_true this.1, Nat.eq_of_beq_eq_true this.2]
    | _ => cases this
theorem mkL_un : ∀ (l : List Sh) (as : List A) (v : ValL l), unL l as = some v → mkL l v = as
  | [], as, v, h => by
    rw [unL] at h
    rw [emptyL_some h]
    rfl
  | s :: r, as, v, h => by
    rw [unL] at h
    cases h0 : uncons as with
    | none =>
      rw [h0] at h
      cases h
    | some p =>
      rw [h0, Option.bind_some] at h
      cases h1 : s.un p.1 with
      | none =>
        rw [h1] at h
        cases h
      | some x =>
        rw [h1, Option.bind_some] at h
        cases h2 : unL r p.2 with
        | none =>
          rw [h2] at h
          cases h
        | some y =>
          rw [h2, Option.bind_some] at h
          injection h with h
          subst h
          show s.mk x :: mkL r y = as
          rw [Sh.un_mk s p.1 x h1, mkL_un r p.2 y h2, ← uncons_some h0]
end
theorem OSh.un_mk (s : OSh) (x : Ob) (v : s.Val) (h : s.un x = some v) : s.mk v = x := by
  cases s with
  | box l =>
    cases x with
    | box cs => rw [OSh.mk, mkL_un l cs v h]
    | _ => cases h
  | root own e ts =>
    cases x with
    | root own' e' ts' xs =>
      have h' : (bif own == own' && Nat.beq e e' then castR ts' ts xs else none) = some v := h
      cases hb : own == own' && Nat.beq e e' with
      | false => simp [hb] at h'
      | true =>
        simp only [hb, cond_true] at h'
        simp only [Bool.and_eq_true] at hb
        have h1 : own = own' := by simpa using hb.1
        have h2 := Nat.eq_of_beq_eq_true hb.2
        subst h1 h2
        unfold castR at h'
        split at h'
        · rename_i heq
          have := Ty.eqbs_eq _ _ heq
          subst this
          injection h' with h'
          subst h'
          rfl
        · cases h'
    | _ => cases h
theorem mkO_un : ∀ (l : List (Nat × OSh)) (o : List (Nat × Ob)) (v : ValO l), unO l o = some v → mkO l v = o
  | [], o, v, h => by
    rw [unO] at h
    rw [emptyL_some h]
    rfl
  | (i, s) :: r, o, v, h => by
    rw [unO] at h
    cases h0 : uncons o with
    | none =>
      rw [h0] at h
      cases h
    | some p =>
      rw [h0, Option.bind_some] at h
      cases hb : Nat.beq i p.1.1 with
      | false => simp [hb] at h
      | true =>
        have he := Nat.eq_of_beq_eq_true hb
        rw [hb, cond_true] at h
        cases h1 : s.un p.1.2 with
        | none =>
          rw [h1] at h
          cases h
        | some u =>
          rw [h1, Option.bind_some] at h
          cases h2 : unO r p.2 with
          | none =>
            rw [h2] at h
            cases h
          | some y =>
            rw [h2, Option.bind_some] at h
            injection h with h
            subst h
            show (i, s.mk u) :: mkO r y = o
            rw [OSh.un_mk s p.1.2 u h1, mkO_un r p.2 y h2, uncons_some h0]
            obtain ⟨⟨a, b⟩, c⟩ := p
            simp only at he
            rw [he]
theorem mkS_un (l : List Sh) (o : List (Nat × OSh)) (s : St) (v : ValL l × ValO o) (h : unS l o s = some v) : mkS l o v = s := by
  unfold unS at h
  cases h1 : unL l s.t with
  | none => simp [h1] at h
  | some x =>
    cases h2 : unO o s.o with
    | none => simp [h1, h2] at h
    | some y =>
      simp only [h1, h2, Option.bind_some, Option.some.injEq] at h
      subst h
      show St.mk (mkL l x) (mkO o y) = s
      rw [mkL_un l s.t x h1, mkO_un o s.o y h2]
theorem or_un {T U : Type} {e : T → St} {e' : U → St} {u : St → Option T} {u' : St → Option U} (h : ∀ s t, u s = some t → e t = s) (h' : ∀ s t, u' s = some t → e' t = s) (s : St) (t : T ⊕ U) (ht : ((u s).map Sum.inl).or ((u' s).map Sum.inr) = some t) : Sum.elim e e' t = s := by
  cases hu : u s with
  | some x =>
    rw [hu] at ht
    have : Sum.inl x = t := by simpa using ht
    subst this
    exact h s x hu
  | none =>
    rw [hu] at ht
    cases hv : u' s with
    | some x =>
      rw [hv] at ht
      have : Sum.inr x = t := by simpa using ht
      subst this
      exact h' s x hv
    | none =>
      rw [hv] at ht
      simp at ht
/-- More rounds than any loop takes. -/
noncomputable def FUEL : Nat := Classical.choose (⟨18446744073709551616, rfl⟩ : ∃ n : Nat, n = 18446744073709551616)
theorem FUEL_eq : FUEL = 18446744073709551616 := Classical.choose_spec (⟨18446744073709551616, rfl⟩ : ∃ n : Nat, n = 18446744073709551616)
/-- A loop, out of one round. -/
theorem loop_ok {C : Ctx} {call : C.Sem} {lp : Lp} {fn : Nat} {c : Code} {l lx : List Nat} (hl : C.live fn (firstRegion c) = some (l, lx)) {T : Type} (emb : T → St) (un : St → Option T) (hun : ∀ s t, un s = some t → emb t = s) (stepC : {R : Type} → (Option Nat → St → Option R) → (T → Option R) → T → Option R)
    (hlp : ∀ {R : Type} (κ : Option Nat → St → Option R) (s : St), lp (firstRegion c) s κ = (un s).bind fun t => iter (stepC κ) FUEL t) (hstep : ∀ {R : Type} (κ : Option Nat → St → Option R) (again : St → Option R) (t : T), stepL C call lp fn c l lx κ again (emb t) = stepC κ (fun t => again (emb t)) t) : LoopOk C call lp fn c := by
  intro l' lx' hl' R κ s r h
  rw [hl] at hl'
  injection hl' with hl'
  injection hl' with e1 e2
  subst e1 e2
  rw [hlp] at h
  cases hu : un s with
  | none => simp [hu] at h
  | some t =>
    rw [hu, Option.bind_some] at h
    refine ⟨FUEL, ?_⟩
    have key : ∀ (n : Nat) (t : T), iter (stepL C call lp fn c l lx κ) n (emb t) = iter (stepC κ) n t := by
      intro n
      induction n with
      | zero => intro t; rfl
      | succ n ih =>
        intro t
        rw [iter, hstep, iter]
        congr 1
        exact funext ih
    rw [← hun s t hu, key]
    exact h
end Go.Proofs.Ytmanmgafjbnakaa.R
