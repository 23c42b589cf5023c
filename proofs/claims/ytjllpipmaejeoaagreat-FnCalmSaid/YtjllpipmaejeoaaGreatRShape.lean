/- The shape of a loop's state, and its values. No condition. -/
import Derived.Test.YtjllpipmaejeoaaGreatRFn
set_option linter.all false
namespace Go.Proofs.YtjllpipmaejeoaaGreat.R
open Go.RowKit
mutual
def A.vals : A → List (Sigma El)
 | .val t x => [⟨t, x⟩]
 | .agg l => y3H l
 | .dead | .und | .nils | .nilp | .own _ | .tup _ | .box _ _ | .elp _ _ _ _ _ | .rtp _ _ _ | .fn _ | .clo _ _ | .win _ _ | .tl _ _ | .top _ _ _ => []
def y3H : List A → List (Sigma El)
 | [] => []
 | a :: r => a.vals ++ y3H r
end
def Ob.vals : Ob → List (Sigma El)
 | .box l => y3H l
 | .root _ e ts xs => [⟨.sl e ts, xs⟩]
 | .gone => []
def y5J : List (Nat × Ob) → List (Sigma El)
 | [] => []
 | (_, x) :: r => x.vals ++ y5J r
def St.vals (s : St) : List (Sigma El) := y3H s.t ++ y5J s.o
mutual
def A.same : A → A → Bool
 | .val t _, b => match b with
  | .val t' _ => Ty.eqb t t'
  | _ => false
 | .agg l, b => match b with
  | .agg l' => y4J l l'
  | _ => false
 | .dead, b => match b with
  | .dead => true
  | _ => false
 | .nils, b => match b with
  | .nils => true
  | _ => false
 | .nilp, b => match b with
  | .nilp => true
  | _ => false
 | .own o, b => match b with
  | .own o' => Nat.beq o o'
  | _ => false
 | .box c off, b => match b with
  | .box c' off' => Nat.beq c c' && Nat.beq off off'
  | _ => false
 | .fn f, b => match b with
  | .fn f' => Nat.beq f f'
  | _ => false
 | .clo f c, b => match b with
  | .clo f' c' => Nat.beq f f' && Nat.beq c c'
  | _ => false
 | .und, _ | .tup _, _ | .elp _ _ _ _ _, _ | .rtp _ _ _, _  | .win _ _, _ | .tl _ _, _ | .top _ _ _, _ => false
def y4J : List A → List A → Bool
 | [], m => vc m
 | a :: l, m => match m with
  | b :: m' => a.same b && y4J l m'
  | [] => false
end
def Ob.same : Ob → Ob → Bool
 | .box l, b => match b with
  | .box l' => y4J l l'
  | _ => false
 | .root w e ts _, b => match b with
  | .root w' e' ts' _ => w == w' && Nat.beq e e' && Ty.eqbs ts ts'
  | _ => false
 | .gone, _ => false
def yek : List (Nat × Ob) → List (Nat × Ob) → Bool
 | [], m => vc m
 | (i, x) :: l, m => match m with
  | (j, y) :: m' => Nat.beq i j && x.same y && yek l m'
  | [] => false
def St.same (s s' : St) : Bool := y4J s.t s'.t && yek s.o s'.o
theorem y9E {α : Type} {l : List α} (h : vc l = true) : l = [] := by
 cases l with
 | nil => rfl
 | cons a l => cases h
mutual
theorem A.same_eq : ∀ (a b : A), a.same b = true → a.vals.length = b.vals.length ∧ (a.vals = b.vals → a = b)
 | .val t x, b, h => by
  cases b <;> simp only [A.same] at h <;> try cases h
  rename_i t' x'
  have := Ty.eqb_eq _ _ h
  subst this
  refine ⟨rfl, fun hv => ?_⟩
  simp only [A.vals, List.cons.injEq, Sigma.mk.injEq, heq_eq_eq, true_and, and_true] at hv
  rw [hv]
 | .agg l, b, h => by
  cases b <;> simp only [A.same] at h <;> try cases h
  rename_i l'
  obtain ⟨h1, h2⟩ := y3X l l' h
  exact ⟨by simpa only [A.vals] using h1, fun hv => by rw [h2 (by simpa only [A.vals] using hv)]⟩
 | .dead, b, h => by
  cases b <;> simp only [A.same] at h <;> try cases h
  exact ⟨rfl, fun _ => rfl⟩
 | .nils, b, h => by
  cases b <;> simp only [A.same] at h <;> try cases h
  exact ⟨rfl, fun _ => rfl⟩
 | .nilp, b, h => by
  cases b <;> simp only [A.same] at h <;> try cases h
  exact ⟨rfl, fun _ => rfl⟩
 | .own o, b, h => by
  cases b <;> simp only [A.same] at h <;> try cases h
  rw [Nat.eq_of_beq_eq_true h]
  exact ⟨rfl, fun _ => rfl⟩
 | .box c off, b, h => by
  cases b <;> simp only [A.same, Bool.and_eq_true] at h <;> try cases h
  rename_i h1 h2
  rw [Nat.eq_of_beq_eq_true h1, Nat.eq_of_beq_eq_true h2]
  exact ⟨rfl, fun _ => rfl⟩
 | .fn f, b, h => by
  cases b <;> simp only [A.same] at h <;> try cases h
  rw [Nat.eq_of_beq_eq_true h]
  exact ⟨rfl, fun _ => rfl⟩
 | .clo f c, b, h => by
  cases b <;> simp only [A.same, Bool.and_eq_true] at h <;> try cases h
  rename_i h1 h2
  rw [Nat.eq_of_beq_eq_true h1, Nat.eq_of_beq_eq_true h2]
  exact ⟨rfl, fun _ => rfl⟩
 | .und, _, h | .tup _, _, h | .elp _ _ _ _ _, _, h | .rtp _ _ _, _, h | .win _ _, _, h | .tl _ _, _, h | .top _ _ _, _, h => by simp [A.same] at h
theorem y3X : ∀ (l m : List A), y4J l m = true → (y3H l).length = (y3H m).length ∧ (y3H l = y3H m → l = m)
 | [], m, h => by
  rw [y4J] at h
  rw [y9E h]
  exact ⟨rfl, fun _ => rfl⟩
 | a :: l, [], h => by simp [y4J] at h
 | a :: l, b :: m, h => by
  simp only [y4J, Bool.and_eq_true] at h
  obtain ⟨h1, h2⟩ := A.same_eq a b h.1
  obtain ⟨h3, h4⟩ := y3X l m h.2
  refine ⟨by simp only [y3H, List.length_append, h1, h3], fun hv => ?_⟩
  simp only [y3H] at hv
  obtain ⟨e1, e2⟩ := List.append_inj hv h1
  rw [h2 e1, h4 e2]
end
theorem Ob.same_eq (x y : Ob) (h : x.same y = true) : x.vals.length = y.vals.length ∧ (x.vals = y.vals → x = y) := by
 cases x with
 | box l =>
  cases y <;> simp only [Ob.same] at h <;> try cases h
  rename_i l'
  obtain ⟨h1, h2⟩ := y3X l l' h
  exact ⟨h1, fun hv => by rw [h2 hv]⟩
 | root w e ts xs =>
  cases y <;> simp only [Ob.same, Bool.and_eq_true] at h <;> try cases h
  rename_i w' e' ts' xs' h12 h3
  have e1 : w = w' := by simpa using h12.1
  have e2 := Nat.eq_of_beq_eq_true h12.2
  have e3 := Ty.eqbs_eq _ _ h3
  subst e1 e2 e3
  refine ⟨rfl, fun hv => ?_⟩
  have hv1 : (⟨.sl e ts, xs⟩ : Sigma El) = ⟨.sl e ts, xs'⟩ := (List.cons.inj hv).1
  have hv2 : xs = xs' := eq_of_heq (Sigma.mk.inj hv1).2
  rw [hv2]
 | gone => simp [Ob.same] at h
theorem ycX : ∀ (l m : List (Nat × Ob)), yek l m = true → (y5J l).length = (y5J m).length ∧ (y5J l = y5J m → l = m)
 | [], m, h => by
  rw [yek] at h
  rw [y9E h]
  exact ⟨rfl, fun _ => rfl⟩
 | (i, x) :: l, [], h => by simp [yek] at h
 | (i, x) :: l, (j, y) :: m, h => by
  simp only [yek, Bool.and_eq_true] at h
  obtain ⟨h1, h2⟩ := Ob.same_eq x y h.1.2
  obtain ⟨h3, h4⟩ := ycX l m h.2
  refine ⟨by simp only [y5J, List.length_append, h1, h3], fun hv => ?_⟩
  simp only [y5J] at hv
  obtain ⟨e1, e2⟩ := List.append_inj hv h1
  rw [h2 e1, h4 e2, Nat.eq_of_beq_eq_true h.1.1]
theorem St.same_eq {s s' : St} (h : s.same s' = true) (hv : s.vals = s'.vals) : s = s' := by
 simp only [St.same, Bool.and_eq_true] at h
 obtain ⟨h1, h2⟩ := y3X _ _ h.1
 obtain ⟨h3, h4⟩ := ycX _ _ h.2
 obtain ⟨e1, e2⟩ := List.append_inj (show y3H s.t ++ y5J s.o = y3H s'.t ++ y5J s'.o from hv) h1
 obtain ⟨t, o⟩ := s
 obtain ⟨t', o'⟩ := s'
 rw [show t = t' from h2 e1, show o = o' from h4 e2]
def y4K : (ts : List Ty) → List (Sigma El) → Option (zj ts)
 | [], l => bif vc l then some () else none
 | t :: [], l => match l with
  | v :: l' => bif vc l' then Qs v.1 t v.2 else none
  | [] => none
 | t :: u :: r, l => match l with
  | v :: l' => (match Qs v.1 t v.2 with
   | some x => (match y4K (u :: r) l' with
    | some y => some (x, y)
    | none => none)
   | none => none)
  | [] => none
def toL : (ts : List Ty) → zj ts → List (Sigma El)
 | [], _ => []
 | t :: [], x => [⟨t, x⟩]
 | t :: u :: r, x => ⟨t, x.1⟩ :: toL (u :: r) x.2
theorem y6s {t t' : Ty} {x : El t} {y : El t'} (h : Qs t t' x = some y) : (⟨t', y⟩ : Sigma El) = ⟨t, x⟩ := by
 unfold Qs at h
 split at h
 ·rename_i heq
  have := Ty.eqb_eq _ _ heq
  subst this
  injection h with h
  subst h
  rfl
 ·cases h
theorem y9F : ∀ (ts : List Ty) (l : List (Sigma El)) (x : zj ts), y4K ts l = some x → toL ts x = l
 | [], l, x, h => by
  cases l with
  | nil => rfl
  | cons a l => simp [y4K, vc] at h
 | t :: [], l, x, h => by
  cases l with
  | nil => simp [y4K] at h
  | cons v l =>
   cases l with
   | cons a l => cases h
   | nil =>
    have h : Qs v.1 t v.2 = some x := h
    simp only [toL, y6s h]
 | t :: u :: r, l, x, h => by
  cases l with
  | nil => simp [y4K] at h
  | cons v l =>
   simp only [y4K] at h
   split at h
   ·rename_i y hy
    split at h
    ·rename_i z hz
     injection h with h
     subst h
     simp only [toL, y6s hy, y9F (u :: r) l z hz]
    ·cases h
   ·cases h
def unG (ts : List Ty) (e : zj ts → St) (s : St) : Option (zj ts) := (y4K ts s.vals).bind fun t => bif (e t).same s then some t else none
theorem yq {ts : List Ty} {e : zj ts → St} (h : ∀ t, (e t).vals = toL ts t) (s : St) (t : zj ts) (hu : unG ts e s = some t) : e t = s := by
 unfold unG at hu
 obtain ⟨t', h1, h2⟩ := Option.bind_eq_some_iff.1 hu
 cases hb : (e t').same s with
 | false => simp [hb] at h2
 | true =>
  rw [hb, cond_true] at h2
  injection h2 with h2
  subst h2
  exact St.same_eq hb ((h t').trans (y9F ts _ _ h1))
def dd (n : Nat) (l : List A) : List A := Nat.rec l (fun _ r => .dead :: r) n
def vI (x : Int) : A := .val (.int .i64) x
def vB (x : Bool) : A := .val .bool x
def vS (x : ByteArray) : A := .val .str x
def nf (n : Nat) : List Bool := Nat.rec [] (fun _ r => false :: r) n
theorem y7d {T U : Type} {e : T → St} {e' : U → St} {u : St → Option T} {u' : St → Option U} (h : ∀ s t, u s = some t → e t = s) (h' : ∀ s t, u' s = some t → e' t = s) (s : St) (t : T ⊕ U) (ht : ((u s).map Sum.inl).or ((u' s).map Sum.inr) = some t) : Sum.elim e e' t = s := by
 cases hu : u s with
 | some x =>
  rw [hu] at ht
  have : Sum.inl x = t := by simpa using ht
  subst this
  exact h s x hu
 | none =>
  rw [hu] at ht
  cases hv : u' s with
  | some x =>
   rw [hv] at ht
   have : Sum.inr x = t := by simpa using ht
   subst this
   exact h' s x hv
  | none =>
   rw [hv] at ht
   simp at ht
noncomputable def Yd : Nat := Classical.choose (⟨18446744073709551616, rfl⟩ : ∃ n : Nat, n = 18446744073709551616)
theorem y1x : Yd = 18446744073709551616 := Classical.choose_spec (⟨18446744073709551616, rfl⟩ : ∃ n : Nat, n = 18446744073709551616)
theorem ykG {C : Ctx} {call : C.Sem} {lp : Lp} {fn : Nat} {c : Code} {l lx : List Nat} (hl : C.live fn (Ym c) = some (l, lx)) {T : Type} (emb : T → St) (un : St → Option T) (hun : ∀ s t, un s = some t → emb t = s) (stepC : {R : Type} → (Option Nat → St → Option R) → (T → Option R) → T → Option R)
  (hlp : ∀ {R : Type} (κ : Option Nat → St → Option R) (s : St), lp (Ym c) s κ = (un s).bind fun t => zR (stepC κ) Yd t) (hstep : ∀ {R : Type} (κ : Option Nat → St → Option R) (again : St → Option R) (t : T), yeX C call lp fn c l lx κ again (emb t) = stepC κ (fun t => again (emb t)) t) : y3n C call lp fn c := by
 intro l' lx' hl' R κ s r h
 rw [hl] at hl'
 injection hl' with hl'
 injection hl' with e1 e2
 subst e1 e2
 rw [hlp] at h
 cases hu : un s with
 | none => simp [hu] at h
 | some t =>
  rw [hu, Option.bind_some] at h
  refine ⟨Yd, ?_⟩
  have key : ∀ (n : Nat) (t : T), zR (yeX C call lp fn c l lx κ) n (emb t) = zR (stepC κ) n t := by
   intro n
   induction n with
   | zero => intro t; rfl
   | succ n ih =>
    intro t
    rw [zR, hstep, zR]
    congr 1
    exact funext ih
  rw [← hun s t hu, key]
  exact h
abbrev Kk (R : Type) : Type := Option Nat → St → Option R
abbrev Gk (T : Type) : Type 1 := {R : Type} → Kk R → (T → Option R) → T → Option R
noncomputable def lpC (j : Nat) {T : Type} (u : St → Option T) (g : Gk T) (r : Lp) : Lp := fun i s {_R} κ => bif Nat.beq i j then (u s).bind fun t => zR (g κ) Yd t else r i s κ
def lpN : Lp := fun _ _ {_R} _ => none
def laN (C : Ctx) (f i : Nat) : List Nat := match C.live f i with
 | some p => p.1
 | none => []
def lbN (C : Ctx) (f i : Nat) : List Nat := match C.live f i with
 | some p => p.2
 | none => []
def laB (C : Ctx) (f i : Nat) (c : Code) : Bool := Nat.beq (Ym c) i && (C.live f i).isSome
abbrev LB (lp : Lp) (i : Nat) {T : Type} (u : St → Option T) (g : Gk T) : Prop := ∀ (R : Type) (κ : Kk R) (s : St), lp i s κ = (u s).bind fun t => zR (g κ) Yd t
abbrev LC (C : Ctx) (call : C.Sem) (lp : Lp) (f i : Nat) (c : Code) {T V : Type} (e : T → St) (g : Gk T) (inj : V → T) : Prop := ∀ (R : Type) (κ : Kk R) (again : St → Option R) (v : V), yeX C call lp f c (laN C f i) (lbN C f i) κ again (e (inj v)) = g κ (fun t => again (e t)) (inj v)
theorem yhZ {C : Ctx} {call : C.Sem} {lp : Lp} {f i : Nat} {c : Code} (hl : laB C f i c = true) {T : Type} {e : T → St} {u : St → Option T} (hu : ∀ s t, u s = some t → e t = s) {g : Gk T} (hb : LB lp i u @g) (hc : LC C call lp f i c e @g (fun t => t)) : y3n C call lp f c := by
 simp only [laB, Bool.and_eq_true] at hl
 have hi := Nat.eq_of_beq_eq_true hl.1
 have hx : C.live f (Ym c) = some (laN C f i, lbN C f i) := by
  rw [hi]
  unfold laN lbN
  cases h : C.live f i with
  | none => simp [h] at hl
  | some p => rfl
 exact ykG hx e u hu @g (fun {R} κ s => by rw [hi]; exact hb R κ s) (fun {R} κ again t => hc R κ again t)
theorem LC.sum {C : Ctx} {call : C.Sem} {lp : Lp} {f i : Nat} {c : Code} {T V W : Type} {e : T → St} {g : Gk T} {inj : V ⊕ W → T} (h : LC C call lp f i c e @g (fun v => inj (.inl v))) (h' : LC C call lp f i c e @g (fun v => inj (.inr v))) : LC C call lp f i c e @g inj
 | R, κ, again, .inl v => h R κ again v
 | R, κ, again, .inr v => h' R κ again v
def qj (fn : Func) : Code := match fn.body with
 | some c => c
 | none => .skip
def cL (fn : Func) (k : Nat) : Code := (jl (qj fn)).getD k .skip
structure Qf (C : Ctx) (P : Program) where
 f : Nat
 F : zj (C.ins f) → Option (zj (C.outs f))
 ok : jT C P f F
def yi0 {C : Ctx} {P : Program} : List (Qf C P) → List (Sigma fun f : Nat => zj (C.ins f) → Option (zj (C.outs f)))
 | [] => []
 | q :: r => ⟨q.f, q.F⟩ :: yi0 r
def ykH {C : Ctx} {P : Program} (l : List (Qf C P)) : C.Sem := tab (yi0 l)
theorem ycY {C : Ctx} {P : Program} : ∀ (l : List (Qf C P)), ∀ p ∈ yi0 l, jT C P p.1 p.2
 | [], p, h => by simp [yi0] at h
 | q :: r, p, h => by
  rcases List.mem_cons.1 h with rfl | h
  ·exact q.ok
  ·exact ycY r p h
def ynP (p : Code → Prop) (L : List Code) : Nat → Nat → Prop
 | 0, _ => True
 | n + 1, k => p (L.getD k .skip) ∧ ynP p L n (k + 1)
theorem yjg {p : Code → Prop} {L : List Code} : ∀ (n k : Nat), ynP p L n k → ∀ j, k ≤ j → j < k + n → p (L.getD j .skip)
 | 0, k, _, j, h1, h2 => by omega
 | n + 1, k, h, j, h1, h2 => by
  by_cases hj : j = k
  ·subst hj
   exact h.1
  ·exact yjg n (k + 1) h.2 j (by omega) (by omega)
theorem yuF {p : Code → Prop} {fn : Func} {n : Nat} (hn : Nat.beq (jl (qj fn)).length n = true) (h : ynP p (jl (qj fn)) n 0) : ∀ c ∈ jl (qj fn), p c := by
 intro c hc
 obtain ⟨j, hj, rfl⟩ := List.mem_iff_getElem.1 hc
 have := yjg n 0 h j (Nat.zero_le j) (by have := Nat.eq_of_beq_eq_true hn; omega)
 rwa [List.getD_eq_getElem?_getD, List.getElem?_eq_getElem hj, Option.getD_some] at this
def fnB (C : Ctx) (f g : Nat) (fn : Func) (sg : Sig) (n : Nat) : Bool := Nat.beq (C.fid f) g && fn.body.isSome && yfv (qj fn) && Nat.ble sg.ps.length 50 && Nat.ble sg.ps.length fn.ntmps && Nat.beq (jl (qj fn)).length n && decide (fn.name ≠ "runtime.NumGoroutine")
theorem yuG {C : Ctx} {P : Program} (hT : TOk C P) (hm : P.follows .mixedOrders = true) {l : List (Qf C P)} {f g : Nat} {fn : Func} {sg : Sig} {n : Nat} (hfn : P.funcs[g]? = some fn) (hsig : C.sig f = some sg) (hB : fnB C f g fn sg n = true) {lp : Lp} (hloops : ynP (y3n C (ykH l) lp f) (jl (qj fn)) n 0)
  {F : zj (C.ins f) → Option (zj (C.outs f))} (hF : ∀ x, yhs C (ykH l) lp f fn (qj fn) sg (C.ins f) (C.outs f) x = F x) : jT C P f F := by
 simp only [fnB, Bool.and_eq_true, decide_eq_true_eq] at hB
 obtain ⟨⟨⟨⟨⟨⟨h1, h2⟩, h3⟩, h4⟩, h5⟩, h6⟩, h7⟩ := hB
 have hbody : fn.body = some (qj fn) := by
  unfold qj
  cases h : fn.body with
  | none => simp [h] at h2
  | some c => rfl
 exact yhY hT hm (y3f _ (ycY l)) (Nat.eq_of_beq_eq_true h1) hfn h7 hbody hsig h3 (yuF h6 hloops) (Nat.le_of_ble_eq_true h4) (Nat.le_of_ble_eq_true h5) (fun x y h => (hF x).trans h)
end Go.Proofs.YtjllpipmaejeoaaGreat.R
