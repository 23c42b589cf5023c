/- Code does what the evaluator says. Conditions: the types lie as the context says; functions do what the evaluator says; mixed orders are drawn. -/
import Derived.Test.YtgediecndaheiaaGreatRKeep
set_option linter.all false
namespace Go.Proofs.YtgediecndaheiaaGreat.R
open Go.RowKit
variable {P : Program} {C : Ctx} {w0 : World} {lent : Nat → Prop} {H0 : Base} {call : C.Sem}
theorem yd4 {h0 : List Nat} {ops : Array Oper} : ∀ (l : List Oper) (L : List Dop), ycC C h0 ops l = some L → L.length = l.length ∧ ∀ (k : Nat) (x : Dop), L[k]? = some x → l[k]? = some x.o ∧ ZP ops x.o = some x.g := by
 intro l
 induction l with
 | nil =>
  intro L h
  simp only [ycC, Option.some.injEq] at h
  subst h
  exact ⟨rfl, fun k x hk => by simp at hk⟩
 | cons o r ih =>
  intro L h
  simp only [ycC] at h
  cases hg : ZP ops o with
  | none => simp [hg] at h
  | some g =>
   cases hl : ycC C h0 ops r with
   | none => simp [hg, hl] at h
   | some l =>
    simp only [hg, hl, Option.some.injEq] at h
    subst h
    obtain ⟨h1, h2⟩ := ih l hl
    refine ⟨by simp [h1], fun k x hk => ?_⟩
    cases k with
    | zero =>
     simp only [List.getElem?_cons_zero, Option.some.injEq] at hk
     subst hk
     exact ⟨rfl, hg⟩
    | succ k => simpa using h2 k x (by simpa using hk)
theorem yeb {s : St} {a : Act} {w : World} {G : Gh} (h : Rel P w0 lent H0 s a w G) {x : Operand} {b : Bool} (hb : z6 s x = some b) : a.eval x = .bool b := by
 have hr := h.opd x
 unfold z6 at hb
 split at hb
 ·rename_i b' hb'
  injection hb with hb
  subst hb
  rw [hb'] at hr
  exact hr
 ·cases hb
def yxq (o : Oper) : Bool := match o.dst with
 | some d => Nat.blt d 900 || Nat.ble 950 d
 | none => true
def ybB : List Oper → Bool
 | [] => true
 | o :: r => yxq o && ybB r
def yec : Code → Bool
 | .region _ ops _ => ybB ops.toList
 | .seq a b => yec a && yec b
 | .cond _ a b => yec a && yec b
 | .block _ c => yec c
 | .loop c => yec c
 | _ => true
theorem ya6 (l : List Oper) (h : ybB l = true) : ∀ o ∈ l, Out o := by
 induction l with
 | nil => intro o ho; simp at ho
 | cons x l ih =>
  intro o ho
  simp only [ybB, Bool.and_eq_true] at h
  rcases List.mem_cons.1 ho with e | ho
  ·intro d hd
   have h1 := h.1
   rw [← e] at h1
   simp only [yxq, hd, Bool.or_eq_true] at h1
   exact h1.imp kD kD
  ·exact ih h.2 o ho
def y2K (C : Ctx) (call : C.Sem) (lp : Lp) (fn : Nat) (c : Code) : Prop :=
 ∀ l lx, C.live fn (Yl c) = some (l, lx) → ∀ {R : Type} (κ : Option Nat → St → Option R) (s : St) (r : R), lp (Yl c) s κ = some r → ∃ n, zV (ydF C call lp fn c l lx κ) n s = some r
structure Ways (P : Program) (w0 : World) (lent : Nat → Prop) (H0 : Base) {R : Type} (K : Ks R) (r : R) (Q : Exit → Act → World → Prop) : Prop where
 exits : ∀ i s a w G, K.exit i s = some r → Rel P w0 lent H0 s a w G → Q (.exit i) a w
 ret : ∀ s a w G, K.ret s = some r → Rel P w0 lent H0 s a w G → Q .ret a w
theorem yd5 (hT : TOk C P) (hC : v8 H0 C P call) (hm : P.follows .mixedOrders = true) {lp : Lp} {fn : Nat} {R : Type} : ∀ (c : Code) (s : St) (a : Act) (w : World) (G : Gh) (k : St → Option R) (K : Ks R) (r : R) (Q : Exit → Act → World → Prop), yec c = true → (∀ c' ∈ jn c, y2K C call lp fn c') → Rel P w0 lent H0 s a w G → y0A C call lp fn c s k K = some r →
  (∀ s' a' w' G', k s' = some r → Rel P w0 lent H0 s' a' w' G' → Q .normal a' w') → Ways P w0 lent H0 K r Q → c.wp P Q a w := by
 intro c
 induction c with
 | skip =>
  intro s a w G k K r Q ho hl h he hk hw
  exact Go.wp_skip (hk s a w G he h)
 | region id ops dr =>
  intro s a w G0 k K r Q ho hl h0 he hk hw
  rw [y0A] at he
  obtain ⟨G, h⟩ : ∃ G, Rel P w0 lent H0 (ylW (C.hint fn) id s) a w G := by
   unfold ylW
   split
   ·exact ⟨G0, h0⟩
   ·obtain ⟨G', _, hr, _⟩ := h0.settles (fun i ob e ts xs hi hw => ⟨ob, hi, hw⟩) (ydE s _)
    exact ⟨G', hr⟩
  generalize ylW (C.hint fn) id s = s at he h
  cases hp : yxo C (C.hint fn) dr ops with
  | none => simp [hp] at he
  | some L =>
   simp only [hp] at he
   have hout : ∀ (i : Nat) (o : Oper), ops[i]? = some o → Out o := fun i o hi => ya6 ops.toList ho o (by simpa using Array.mem_of_getElem? hi)
   cases dr with
   | false =>
    obtain ⟨h1, h2⟩ := yd4 ops.toList L hp
    exact wp_region (ya3 hT hC hout ⟨by simpa using h1, fun i x hx => ⟨by simpa using (h2 i x hx).1, (h2 i x hx).2⟩⟩ h he hk)
   | true => exact wp_region_any hm (yd3 hT hC hout hp h he hk)
 | seq x y ihx ihy =>
  intro s a w G k K r Q ho hl h he hk hw
  rw [y0A] at he
  simp only [yec, Bool.and_eq_true] at ho
  simp only [jn, List.mem_append] at hl
  exact wp_seq (ihx s a w G _ K r _ ho.1 (fun c' hc' => hl c' (.inl hc')) h he (fun s' a' w' G' hk' hr' => ihy s' a' w' G' k K r Q ho.2 (fun c' hc' => hl c' (.inr hc')) hr' hk' hk hw) ⟨fun i s a w G h1 h2 => hw.exits i s a w G h1 h2, fun s a w G h1 h2 => hw.ret s a w G h1 h2⟩)
 | cond c x y ihx ihy =>
  intro s a w G k K r Q ho hl h he hk hw
  rw [y0A] at he
  simp only [jn, List.mem_append] at hl
  cases hb : z6 s c with
  | none => simp [hb] at he
  | some b =>
   simp only [hb] at he
   refine wp_cond (yeb h hb) ?_
   simp only [yec, Bool.and_eq_true] at ho
   cases b with
   | true => exact ihx s a w G k K r Q ho.1 (fun c' hc' => hl c' (.inl hc')) h he hk hw
   | false => exact ihy s a w G k K r Q ho.2 (fun c' hc' => hl c' (.inr hc')) h he hk hw
 | block i c ih =>
  intro s a w G k K r Q ho hl h he hk hw
  rw [y0A] at he
  refine wp_block (ih s a w G k _ r _ ho hl h he (fun s' a' w' G' h1 h2 => hk s' a' w' G' h1 h2) ⟨fun j s a w G h1 h2 => ?_, fun s a w G h1 h2 => hw.ret s a w G h1 h2⟩)
  by_cases hij : i = j
  ·subst hij
   simp only [yw, cond_true] at h1
   simp only [Exit.inBlock, if_true]
   exact hk s a w G h1 h2
  ·simp only [yF hij, cond_false] at h1
   simp only [Exit.inBlock]
   first
    | rw [if_neg hij]; exact hw.exits j s a w G h1 h2
    | rw [if_neg (fun e => hij e.symm)]; exact hw.exits j s a w G h1 h2
 | loop c ih =>
  intro s a w G k K r Q ho hl h he hk hw
  rw [y0A] at he
  cases hlv : C.live fn (Yl c) with
  | none => simp [hlv] at he
  | some q =>
   obtain ⟨l, lx⟩ := q
   simp only [hlv] at he
   cases hs : s.keep l with
   | none => simp [hs] at he
   | some s0 =>
    simp only [hs, Option.bind_some] at he
    obtain ⟨G0, h0⟩ := h.keep hs
    obtain ⟨n, hn⟩ := hl c (by simp [jn]) l lx hlv K.go s0 r he
    refine wp_loop_rounds n ?_
    have key : ∀ (n : Nat) (s0 : St) (a : Act) (w : World) (G : Gh), Rel P w0 lent H0 s0 a w G → zV (ydF C call lp fn c l lx K.go) n s0 = some r → Code.rounds P c Q n a w := by
     intro n
     induction n with
     | zero => intro s0 a w G _ h; cases h
     | succ n ihn =>
      intro s0 a w G h0 he
      rw [zV] at he
      rw [rounds_succ]
      refine ih s0 a w G _ _ r _ ho (fun c' hc' => hl c' (by simp [jn, hc'])) h0 he (fun s' a' w' G' hk' hr' => ?_) ⟨fun i s a w G h1 h2 => ?_, fun s a w G h1 h2 => ?_⟩
      ·cases hs' : s'.keep l with
       | none => simp [hs'] at hk'
       | some s3 =>
        simp only [hs', Option.bind_some] at hk'
        obtain ⟨G3, h3⟩ := hr'.keep hs'
        exact ihn s3 a' w' G3 h3 hk'
      ·simp only [Ks.keep] at h1
       cases hs' : s.keep lx with
       | none => simp [hs'] at h1
       | some s3 =>
        simp only [hs', Option.bind_some] at h1
        obtain ⟨G3, h3⟩ := h2.keep hs'
        exact hw.exits i s3 a w G3 h1 h3
      ·simp only [Ks.keep] at h1
       cases hs' : s.keep lx with
       | none => simp [hs'] at h1
       | some s3 =>
        simp only [hs', Option.bind_some] at h1
        obtain ⟨G3, h3⟩ := h2.keep hs'
        exact hw.ret s3 a w G3 h1 h3
    exact key n s0 a w G0 h0 hn
 | exit i =>
  intro s a w G k K r Q ho hl h he hk hw
  rw [y0A] at he
  exact wp_exit (hw.exits i s a w G he h)
 | ret =>
  intro s a w G k K r Q ho hl h he hk hw
  rw [y0A] at he
  exact wp_ret (hw.ret s a w G he h)
 | _ =>
  intro s a w G k K r Q ho hl h he hk hw
  simp [y0A] at he
end Go.Proofs.YtgediecndaheiaaGreat.R
