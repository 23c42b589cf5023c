/- The shape of a loop's state, and its values. No condition. -/
import Derived.Test.YtgediecndaheiaaGreatRFn
set_option linter.all false
namespace Go.Proofs.YtgediecndaheiaaGreat.R
open Go.RowKit
mutual
def A.vals : A → List (Sigma El)
 | .val t x => [⟨t, x⟩]
 | .agg l => y2W l
 | .dead | .und | .nils | .nilp | .own _ | .tup _ | .box _ _ | .elp _ _ _ _ _ | .rtp _ _ _ | .fn _ | .clo _ _ | .win _ _ | .tl _ _ | .top _ _ _ => []
def y2W : List A → List (Sigma El)
 | [] => []
 | a :: r => a.vals ++ y2W r
end
def Ob.vals : Ob → List (Sigma El)
 | .box l => y2W l
 | .root _ e ts xs => [⟨.sl e ts, xs⟩]
 | .gone => []
def y50 : List (Nat × Ob) → List (Sigma El)
 | [] => []
 | (_, x) :: r => x.vals ++ y50 r
def St.vals (s : St) : List (Sigma El) := y2W s.t ++ y50 s.o
mutual
def A.same : A → A → Bool
 | .val t _, b => match b with
  | .val t' _ => Ty.eqb t t'
  | _ => false
 | .agg l, b => match b with
  | .agg l' => Jg l l'
  | _ => false
 | .dead, b => match b with
  | .dead => true
  | _ => false
 | .nils, b => match b with
  | .nils => true
  | _ => false
 | .nilp, b => match b with
  | .nilp => true
  | _ => false
 | .own o, b => match b with
  | .own o' => Nat.beq o o'
  | _ => false
 | .box c off, b => match b with
  | .box c' off' => Nat.beq c c' && Nat.beq off off'
  | _ => false
 | .fn f, b => match b with
  | .fn f' => Nat.beq f f'
  | _ => false
 | .clo f c, b => match b with
  | .clo f' c' => Nat.beq f f' && Nat.beq c c'
  | _ => false
 | .und, _ | .tup _, _ | .elp _ _ _ _ _, _ | .rtp _ _ _, _  | .win _ _, _ | .tl _ _, _ | .top _ _ _, _ => false
def Jg : List A → List A → Bool
 | [], m => KZ m
 | a :: l, m => match m with
  | b :: m' => a.same b && Jg l m'
  | [] => false
end
def Ob.same : Ob → Ob → Bool
 | .box l, b => match b with
  | .box l' => Jg l l'
  | _ => false
 | .root w e ts _, b => match b with
  | .root w' e' ts' _ => w == w' && Nat.beq e e' && Ty.eqbs ts ts'
  | _ => false
 | .gone, _ => false
def yd7 : List (Nat × Ob) → List (Nat × Ob) → Bool
 | [], m => KZ m
 | (i, x) :: l, m => match m with
  | (j, y) :: m' => Nat.beq i j && x.same y && yd7 l m'
  | [] => false
def St.same (s s' : St) : Bool := Jg s.t s'.t && yd7 s.o s'.o
theorem y8A {α : Type} {l : List α} (h : KZ l = true) : l = [] := by
 cases l with
 | nil => rfl
 | cons a l => cases h
mutual
theorem A.same_eq : ∀ (a b : A), a.same b = true → a.vals.length = b.vals.length ∧ (a.vals = b.vals → a = b)
 | .val t x, b, h => by
  cases b <;> simp only [A.same] at h <;> try cases h
  rename_i t' x'
  have := Ty.eqb_eq _ _ h
  subst this
  refine ⟨rfl, fun hv => ?_⟩
  simp only [A.vals, List.cons.injEq, Sigma.mk.injEq, heq_eq_eq, true_and, and_true] at hv
  rw [hv]
 | .agg l, b, h => by
  cases b <;> simp only [A.same] at h <;> try cases h
  rename_i l'
  obtain ⟨h1, h2⟩ := y3i l l' h
  exact ⟨by simpa only [A.vals] using h1, fun hv => by rw [h2 (by simpa only [A.vals] using hv)]⟩
 | .dead, b, h => by
  cases b <;> simp only [A.same] at h <;> try cases h
  exact ⟨rfl, fun _ => rfl⟩
 | .nils, b, h => by
  cases b <;> simp only [A.same] at h <;> try cases h
  exact ⟨rfl, fun _ => rfl⟩
 | .nilp, b, h => by
  cases b <;> simp only [A.same] at h <;> try cases h
  exact ⟨rfl, fun _ => rfl⟩
 | .own o, b, h => by
  cases b <;> simp only [A.same] at h <;> try cases h
  rw [Nat.eq_of_beq_eq_true h]
  exact ⟨rfl, fun _ => rfl⟩
 | .box c off, b, h => by
  cases b <;> simp only [A.same, Bool.and_eq_true] at h <;> try cases h
  rename_i h1 h2
  rw [Nat.eq_of_beq_eq_true h1, Nat.eq_of_beq_eq_true h2]
  exact ⟨rfl, fun _ => rfl⟩
 | .fn f, b, h => by
  cases b <;> simp only [A.same] at h <;> try cases h
  rw [Nat.eq_of_beq_eq_true h]
  exact ⟨rfl, fun _ => rfl⟩
 | .clo f c, b, h => by
  cases b <;> simp only [A.same, Bool.and_eq_true] at h <;> try cases h
  rename_i h1 h2
  rw [Nat.eq_of_beq_eq_true h1, Nat.eq_of_beq_eq_true h2]
  exact ⟨rfl, fun _ => rfl⟩
 | .und, _, h | .tup _, _, h | .elp _ _ _ _ _, _, h | .rtp _ _ _, _, h | .win _ _, _, h | .tl _ _, _, h | .top _ _ _, _, h => by simp [A.same] at h
theorem y3i : ∀ (l m : List A), Jg l m = true → (y2W l).length = (y2W m).length ∧ (y2W l = y2W m → l = m)
 | [], m, h => by
  rw [Jg] at h
  rw [y8A h]
  exact ⟨rfl, fun _ => rfl⟩
 | a :: l, [], h => by simp [Jg] at h
 | a :: l, b :: m, h => by
  simp only [Jg, Bool.and_eq_true] at h
  obtain ⟨h1, h2⟩ := A.same_eq a b h.1
  obtain ⟨h3, h4⟩ := y3i l m h.2
  refine ⟨by simp only [y2W, List.length_append, h1, h3], fun hv => ?_⟩
  simp only [y2W] at hv
  obtain ⟨e1, e2⟩ := List.append_inj hv h1
  rw [h2 e1, h4 e2]
end
theorem Ob.same_eq (x y : Ob) (h : x.same y = true) : x.vals.length = y.vals.length ∧ (x.vals = y.vals → x = y) := by
 cases x with
 | box l =>
  cases y <;> simp only [Ob.same] at h <;> try cases h
  rename_i l'
  obtain ⟨h1, h2⟩ := y3i l l' h
  exact ⟨h1, fun hv => by rw [h2 hv]⟩
 | root w e ts xs =>
  cases y <;> simp only [Ob.same, Bool.and_eq_true] at h <;> try cases h
  rename_i w' e' ts' xs' h12 h3
  have e1 : w = w' := by simpa using h12.1
  have e2 := Nat.eq_of_beq_eq_true h12.2
  have e3 := Ty.eqbs_eq _ _ h3
  subst e1 e2 e3
  refine ⟨rfl, fun hv => ?_⟩
  have hv1 : (⟨.sl e ts, xs⟩ : Sigma El) = ⟨.sl e ts, xs'⟩ := (List.cons.inj hv).1
  have hv2 : xs = xs' := eq_of_heq (Sigma.mk.inj hv1).2
  rw [hv2]
 | gone => simp [Ob.same] at h
theorem ybC : ∀ (l m : List (Nat × Ob)), yd7 l m = true → (y50 l).length = (y50 m).length ∧ (y50 l = y50 m → l = m)
 | [], m, h => by
  rw [yd7] at h
  rw [y8A h]
  exact ⟨rfl, fun _ => rfl⟩
 | (i, x) :: l, [], h => by simp [yd7] at h
 | (i, x) :: l, (j, y) :: m, h => by
  simp only [yd7, Bool.and_eq_true] at h
  obtain ⟨h1, h2⟩ := Ob.same_eq x y h.1.2
  obtain ⟨h3, h4⟩ := ybC l m h.2
  refine ⟨by simp only [y50, List.length_append, h1, h3], fun hv => ?_⟩
  simp only [y50] at hv
  obtain ⟨e1, e2⟩ := List.append_inj hv h1
  rw [h2 e1, h4 e2, Nat.eq_of_beq_eq_true h.1.1]
theorem St.same_eq {s s' : St} (h : s.same s' = true) (hv : s.vals = s'.vals) : s = s' := by
 simp only [St.same, Bool.and_eq_true] at h
 obtain ⟨h1, h2⟩ := y3i _ _ h.1
 obtain ⟨h3, h4⟩ := ybC _ _ h.2
 obtain ⟨e1, e2⟩ := List.append_inj (show y2W s.t ++ y50 s.o = y2W s'.t ++ y50 s'.o from hv) h1
 obtain ⟨t, o⟩ := s
 obtain ⟨t', o'⟩ := s'
 rw [show t = t' from h2 e1, show o = o' from h4 e2]
def y46 : (ts : List Ty) → List (Sigma El) → Option (z8 ts)
 | [], l => bif KZ l then some () else none
 | t :: [], l => match l with
  | v :: l' => bif KZ l' then Qh v.1 t v.2 else none
  | [] => none
 | t :: u :: r, l => match l with
  | v :: l' => (match Qh v.1 t v.2 with
   | some x => (match y46 (u :: r) l' with
    | some y => some (x, y)
    | none => none)
   | none => none)
  | [] => none
def toL : (ts : List Ty) → z8 ts → List (Sigma El)
 | [], _ => []
 | t :: [], x => [⟨t, x⟩]
 | t :: u :: r, x => ⟨t, x.1⟩ :: toL (u :: r) x.2
theorem y5M {t t' : Ty} {x : El t} {y : El t'} (h : Qh t t' x = some y) : (⟨t', y⟩ : Sigma El) = ⟨t, x⟩ := by
 unfold Qh at h
 split at h
 ·rename_i heq
  have := Ty.eqb_eq _ _ heq
  subst this
  injection h with h
  subst h
  rfl
 ·cases h
theorem y8B : ∀ (ts : List Ty) (l : List (Sigma El)) (x : z8 ts), y46 ts l = some x → toL ts x = l
 | [], l, x, h => by
  cases l with
  | nil => rfl
  | cons a l => simp [y46, KZ] at h
 | t :: [], l, x, h => by
  cases l with
  | nil => simp [y46] at h
  | cons v l =>
   cases l with
   | cons a l => cases h
   | nil =>
    have h : Qh v.1 t v.2 = some x := h
    simp only [toL, y5M h]
 | t :: u :: r, l, x, h => by
  cases l with
  | nil => simp [y46] at h
  | cons v l =>
   simp only [y46] at h
   split at h
   ·rename_i y hy
    split at h
    ·rename_i z hz
     injection h with h
     subst h
     simp only [toL, y5M hy, y8B (u :: r) l z hz]
    ·cases h
   ·cases h
def unG (ts : List Ty) (e : z8 ts → St) (s : St) : Option (z8 ts) := (y46 ts s.vals).bind fun t => bif (e t).same s then some t else none
theorem yu {ts : List Ty} {e : z8 ts → St} (h : ∀ t, (e t).vals = toL ts t) (s : St) (t : z8 ts) (hu : unG ts e s = some t) : e t = s := by
 unfold unG at hu
 obtain ⟨t', h1, h2⟩ := Option.bind_eq_some_iff.1 hu
 cases hb : (e t').same s with
 | false => simp [hb] at h2
 | true =>
  rw [hb, cond_true] at h2
  injection h2 with h2
  subst h2
  exact St.same_eq hb ((h t').trans (y8B ts _ _ h1))
def dd (n : Nat) (l : List A) : List A := Nat.rec l (fun _ r => .dead :: r) n
def vI (x : Int) : A := .val (.int .i64) x
def vB (x : Bool) : A := .val .bool x
def vS (x : ByteArray) : A := .val .str x
def nf (n : Nat) : List Bool := Nat.rec [] (fun _ r => false :: r) n
theorem y8C {T U : Type} {e : T → St} {e' : U → St} {u : St → Option T} {u' : St → Option U} (h : ∀ s t, u s = some t → e t = s) (h' : ∀ s t, u' s = some t → e' t = s) (s : St) (t : T ⊕ U) (ht : ((u s).map Sum.inl).or ((u' s).map Sum.inr) = some t) : Sum.elim e e' t = s := by
 cases hu : u s with
 | some x =>
  rw [hu] at ht
  have : Sum.inl x = t := by simpa using ht
  subst this
  exact h s x hu
 | none =>
  rw [hu] at ht
  cases hv : u' s with
  | some x =>
   rw [hv] at ht
   have : Sum.inr x = t := by simpa using ht
   subst this
   exact h' s x hv
  | none =>
   rw [hv] at ht
   simp at ht
noncomputable def Yg : Nat := Classical.choose (⟨18446744073709551616, rfl⟩ : ∃ n : Nat, n = 18446744073709551616)
theorem y12 : Yg = 18446744073709551616 := Classical.choose_spec (⟨18446744073709551616, rfl⟩ : ∃ n : Nat, n = 18446744073709551616)
theorem yjn {C : Ctx} {call : C.Sem} {lp : Lp} {fn : Nat} {c : Code} {l lx : List Nat} (hl : C.live fn (Yl c) = some (l, lx)) {T : Type} (emb : T → St) (un : St → Option T) (hun : ∀ s t, un s = some t → emb t = s) (stepC : {R : Type} → (Option Nat → St → Option R) → (T → Option R) → T → Option R)
  (hlp : ∀ {R : Type} (κ : Option Nat → St → Option R) (s : St), lp (Yl c) s κ = (un s).bind fun t => zV (stepC κ) Yg t) (hstep : ∀ {R : Type} (κ : Option Nat → St → Option R) (again : St → Option R) (t : T), ydF C call lp fn c l lx κ again (emb t) = stepC κ (fun t => again (emb t)) t) : y2K C call lp fn c := by
 intro l' lx' hl' R κ s r h
 rw [hl] at hl'
 injection hl' with hl'
 injection hl' with e1 e2
 subst e1 e2
 rw [hlp] at h
 cases hu : un s with
 | none => simp [hu] at h
 | some t =>
  rw [hu, Option.bind_some] at h
  refine ⟨Yg, ?_⟩
  have key : ∀ (n : Nat) (t : T), zV (ydF C call lp fn c l lx κ) n (emb t) = zV (stepC κ) n t := by
   intro n
   induction n with
   | zero => intro t; rfl
   | succ n ih =>
    intro t
    rw [zV, hstep, zV]
    congr 1
    exact funext ih
  rw [← hun s t hu, key]
  exact h
abbrev Kk (R : Type) : Type := Option Nat → St → Option R
abbrev Gk (T : Type) : Type 1 := {R : Type} → Kk R → (T → Option R) → T → Option R
noncomputable def lpC (j : Nat) {T : Type} (u : St → Option T) (g : Gk T) (r : Lp) : Lp := fun i s {_R} κ => bif Nat.beq i j then (u s).bind fun t => zV (g κ) Yg t else r i s κ
def lpN : Lp := fun _ _ {_R} _ => none
def laN (C : Ctx) (f i : Nat) : List Nat := match C.live f i with
 | some p => p.1
 | none => []
def lbN (C : Ctx) (f i : Nat) : List Nat := match C.live f i with
 | some p => p.2
 | none => []
def laB (C : Ctx) (f i : Nat) (c : Code) : Bool := Nat.beq (Yl c) i && (C.live f i).isSome
abbrev LB (lp : Lp) (i : Nat) {T : Type} (u : St → Option T) (g : Gk T) : Prop := ∀ (R : Type) (κ : Kk R) (s : St), lp i s κ = (u s).bind fun t => zV (g κ) Yg t
abbrev LC (C : Ctx) (call : C.Sem) (lp : Lp) (f i : Nat) (c : Code) {T V : Type} (e : T → St) (g : Gk T) (inj : V → T) : Prop := ∀ (R : Type) (κ : Kk R) (again : St → Option R) (v : V), ydF C call lp f c (laN C f i) (lbN C f i) κ again (e (inj v)) = g κ (fun t => again (e t)) (inj v)
theorem ygg {C : Ctx} {call : C.Sem} {lp : Lp} {f i : Nat} {c : Code} (hl : laB C f i c = true) {T : Type} {e : T → St} {u : St → Option T} (hu : ∀ s t, u s = some t → e t = s) {g : Gk T} (hb : LB lp i u @g) (hc : LC C call lp f i c e @g (fun t => t)) : y2K C call lp f c := by
 simp only [laB, Bool.and_eq_true] at hl
 have hi := Nat.eq_of_beq_eq_true hl.1
 have hx : C.live f (Yl c) = some (laN C f i, lbN C f i) := by
  rw [hi]
  unfold laN lbN
  cases h : C.live f i with
  | none => simp [h] at hl
  | some p => rfl
 exact yjn hx e u hu @g (fun {R} κ s => by rw [hi]; exact hb R κ s) (fun {R} κ again t => hc R κ again t)
theorem LC.sum {C : Ctx} {call : C.Sem} {lp : Lp} {f i : Nat} {c : Code} {T V W : Type} {e : T → St} {g : Gk T} {inj : V ⊕ W → T} (h : LC C call lp f i c e @g (fun v => inj (.inl v))) (h' : LC C call lp f i c e @g (fun v => inj (.inr v))) : LC C call lp f i c e @g inj
 | R, κ, again, .inl v => h R κ again v
 | R, κ, again, .inr v => h' R κ again v
def VZ (fn : Func) : Code := match fn.body with
 | some c => c
 | none => .skip
def cL (fn : Func) (k : Nat) : Code := (jn (VZ fn)).getD k .skip
structure Qf (C : Ctx) (P : Program) where
 f : Nat
 F : z8 (C.ins f) → Option (z8 (C.outs f))
 ok : jY C P f F
def ygh {C : Ctx} {P : Program} : List (Qf C P) → List (Sigma fun f : Nat => z8 (C.ins f) → Option (z8 (C.outs f)))
 | [] => []
 | q :: r => ⟨q.f, q.F⟩ :: ygh r
def yjo {C : Ctx} {P : Program} (l : List (Qf C P)) : C.Sem := tab (ygh l)
theorem ybD {C : Ctx} {P : Program} : ∀ (l : List (Qf C P)), ∀ p ∈ ygh l, jY C P p.1 p.2
 | [], p, h => by simp [ygh] at h
 | q :: r, p, h => by
  rcases List.mem_cons.1 h with rfl | h
  ·exact q.ok
  ·exact ybD r p h
def ym7 (p : Code → Prop) (L : List Code) : Nat → Nat → Prop
 | 0, _ => True
 | n + 1, k => p (L.getD k .skip) ∧ ym7 p L n (k + 1)
theorem yi2 {p : Code → Prop} {L : List Code} : ∀ (n k : Nat), ym7 p L n k → ∀ j, k ≤ j → j < k + n → p (L.getD j .skip)
 | 0, k, _, j, h1, h2 => by omega
 | n + 1, k, h, j, h1, h2 => by
  by_cases hj : j = k
  ·subst hj
   exact h.1
  ·exact yi2 n (k + 1) h.2 j (by omega) (by omega)
theorem ysx {p : Code → Prop} {fn : Func} {n : Nat} (hn : Nat.beq (jn (VZ fn)).length n = true) (h : ym7 p (jn (VZ fn)) n 0) : ∀ c ∈ jn (VZ fn), p c := by
 intro c hc
 obtain ⟨j, hj, rfl⟩ := List.mem_iff_getElem.1 hc
 have := yi2 n 0 h j (Nat.zero_le j) (by have := Nat.eq_of_beq_eq_true hn; omega)
 rwa [List.getD_eq_getElem?_getD, List.getElem?_eq_getElem hj, Option.getD_some] at this
def fnB (C : Ctx) (f g : Nat) (fn : Func) (sg : Sig) (n : Nat) : Bool := Nat.beq (C.fid f) g && fn.body.isSome && yec (VZ fn) && Nat.ble sg.ps.length 50 && Nat.ble sg.ps.length fn.ntmps && Nat.beq (jn (VZ fn)).length n && decide (fn.name ≠ "runtime.NumGoroutine")
theorem ysy {C : Ctx} {P : Program} (hT : TOk C P) (hm : P.follows .mixedOrders = true) {l : List (Qf C P)} {f g : Nat} {fn : Func} {sg : Sig} {n : Nat} (hfn : P.funcs[g]? = some fn) (hsig : C.sig f = some sg) (hB : fnB C f g fn sg n = true) {lp : Lp} (hloops : ym7 (y2K C (yjo l) lp f) (jn (VZ fn)) n 0)
  {F : z8 (C.ins f) → Option (z8 (C.outs f))} (hF : ∀ x, yfJ C (yjo l) lp f fn (VZ fn) sg (C.ins f) (C.outs f) x = F x) : jY C P f F := by
 simp only [fnB, Bool.and_eq_true, decide_eq_true_eq] at hB
 obtain ⟨⟨⟨⟨⟨⟨h1, h2⟩, h3⟩, h4⟩, h5⟩, h6⟩, h7⟩ := hB
 have hbody : fn.body = some (VZ fn) := by
  unfold VZ
  cases h : fn.body with
  | none => simp [h] at h2
  | some c => rfl
 exact ygf hT hm (y2C _ (ybD l)) (Nat.eq_of_beq_eq_true h1) hfn h7 hbody hsig h3 (ysx h6 hloops) (Nat.le_of_ble_eq_true h4) (Nat.le_of_ble_eq_true h5) (fun x y h => (hF x).trans h)
end Go.Proofs.YtgediecndaheiaaGreat.R
