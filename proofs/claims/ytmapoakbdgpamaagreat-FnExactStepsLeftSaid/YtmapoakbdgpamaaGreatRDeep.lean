/- Rows of one's own with rows inside. No condition. -/
import Derived.Test.YtmapoakbdgpamaaGreatRSettle
set_option linter.all false
namespace Go.Proofs.YtmapoakbdgpamaaGreat.R
open Go.RowKit
variable {P : Program} {C : Ctx} {w0 : World} {lent : Nat → Prop} {H0 : Base} {s : St} {a : Act} {w : World} {G : Gh} {o : Oper} {K : Act → World → Prop} {Q : Exit → Act → World → Prop} {R : Type} {k : Eff → Option R} {r : R} {lk : Lk} {call : C.Sem} {ct wn : Bool}
theorem Yo {i : Nat} : ∀ (l : List (Nat × Ob)) (s : St), Ki (yS l) i = false → yq (s.setAll l).o i = yq s.o i
 | [], _, _ => rfl
 | (j, x) :: l, s, h => by
  simp only [yS, Ki, Bool.or_eq_false_iff] at h
  rw [St.setAll, Yo l (s.set j x) h.2]
  show yq (kY s.o j x) i = _
  rw [zH, if_neg]
  intro e
  subst e
  rw [yl] at h
  exact absurd h.1 (by simp)
theorem y1I (lk : Lk) {i : Nat} : ∀ is : List Nat, Ki is i = false → Ki (yS (settles lk is)) i = false
 | [], _ => rfl
 | j :: is, h => by
  simp only [Ki, Bool.or_eq_false_iff] at h
  have ih := y1I lk is h.2
  unfold settles
  split
  ·simp only [yS, Ki, h.1, ih, Bool.or_false]
  ·simp only [yS, Ki, h.1, ih, Bool.or_false]
  ·exact ih
theorem St.setAll_append : ∀ (l l' : List (Nat × Ob)) (s : St), s.setAll (l ++ l') = (s.setAll l).setAll l'
 | [], _, _ => rfl
 | (i, x) :: l, l', s => St.setAll_append l l' (s.set i x)
theorem Zs {l : List Nat} {i : Nat} : Ki l i = true ↔ i ∈ l := by
 induction l with
 | nil => simp [Ki]
 | cons j r ih =>
  simp only [Ki, Bool.or_eq_true, ih, List.mem_cons]
  constructor
  ·rintro (h | h)
   ·exact .inl (Nat.eq_of_beq_eq_true h).symm
   ·exact .inr h
  ·rintro (rfl | h)
   ·exact .inl (yl _)
   ·exact .inr h
theorem Km : ∀ {l : List Nat}, Vh l = true → l.Nodup
 | [], _ => List.nodup_nil
 | i :: r, h => by
  simp only [Vh, Bool.and_eq_true, Bool.not_eq_true'] at h
  refine List.nodup_cons.2 ⟨fun hi => ?_, Km h.2⟩
  rw [Zs.2 hi] at h
  exact absurd h.1 (by simp)
theorem Rel.gones : ∀ (gs : List Nat) {s : St}, Rel P w0 lent H0 s a w G → Rel P w0 lent H0 (s.setAll (zE gs)) a w G
 | [], _, h => h
 | i :: gs, _, h => Rel.gones gs (h.gone i)
theorem w6 : ∀ (gs : List Nat) (s : St) (i : Nat), yq (s.setAll (zE gs)).o i = if i ∈ gs then (yq s.o i).map (fun _ => .gone) else yq s.o i
 | [], s, i => by simp [zE, St.setAll]
 | j :: gs, s, i => by
  have hs : yq (s.set j .gone).o i = if i = j then (yq s.o j).map (fun _ => .gone) else yq s.o i := zH j i .gone s.o
  rw [zE, St.setAll, w6 gs, hs]
  by_cases hij : i = j
  ·subst hij
   by_cases hg : i ∈ gs
   ·cases yq s.o i <;> simp [hg]
   ·simp [hg]
  ·simp [hij]
def In (bs : List (Nat → Prop)) (k : Nat) : Prop := ∃ b ∈ bs, b k
def y0J (bs : List (Nat → Prop)) : Prop := bs.Pairwise fun b c => ∀ k, b k → ¬ c k
def QQ (s : St) (G : Gh) (gs : List Nat) (bs : List (Nat → Prop)) : Prop := ∀ k, In bs k → ∃ q ∈ gs, ∃ ob, yq s.o q = some ob ∧ yL G q ob k
theorem In.cons {b : Nat → Prop} {bs : List (Nat → Prop)} {k : Nat} : In (b :: bs) k ↔ b k ∨ In bs k := by simp [In]
theorem In.append {bs cs : List (Nat → Prop)} {k : Nat} : In (bs ++ cs) k ↔ In bs k ∨ In cs k := by simp [In, or_and_right, exists_or]
theorem In.nil {k : Nat} : ¬ In [] k := by simp [In]
theorem wk {w : World} : ∀ (ts : List Ty) (Bs : Nat → Nat → Prop) (x : yB ts) (f : Nat → Option Value), DpE w ts Bs x f ↔ ∀ (c : Nat) (y : Sigma El), Ko ts x c = some y → ∃ v, f c = some v ∧ DpT w y.1 (Bs c) y.2 v := by
 intro ts
 induction ts with
 | nil => intro Bs x f; exact ⟨fun _ c y h => by simp [Ko] at h, fun _ => trivial⟩
 | cons t ts ih =>
  intro Bs x f
  cases ts with
  | nil =>
   refine ⟨fun h c y hc => ?_, fun h => h 0 ⟨t, x⟩ rfl⟩
   cases c with
   | zero =>
    have : (⟨t, x⟩ : Sigma El) = y := by simpa [Ko] using hc
    subst this
    exact h
   | succ c => simp [Ko] at hc
  | cons u r =>
   refine ⟨fun h c y hc => ?_, fun h => ⟨h 0 ⟨t, x.1⟩ rfl, (ih _ x.2 _).2 fun c y hc => h (c + 1) y hc⟩⟩
   cases c with
   | zero =>
    have : (⟨t, x.1⟩ : Sigma El) = y := by simpa [Ko] using hc
    subst this
    exact h.1
   | succ c => exact (ih _ x.2 _).1 h.2 c y hc
theorem y2o : ∀ (ts : List Ty) (x : yB ts) (c : Nat) (y : Sigma El), Ko ts x c = some y → c < ts.length := by
 intro ts
 induction ts with
 | nil => intro x c y h; simp [Ko] at h
 | cons t ts ih =>
  intro x c y h
  cases ts with
  | nil => cases c <;> simp [Ko] at h ⊢
  | cons u r =>
   cases c with
   | zero => simp
   | succ c =>
    have := ih x.2 c y h
    simp only [List.length_cons] at *
    omega
theorem wl {t t' : Ty} {x : El t} {y : El t'} (h : Zo t t' x = some y) : (⟨t, x⟩ : Sigma El) = ⟨t', y⟩ := by
 unfold Zo at h
 split at h
 ·rename_i he
  have := Ty.eqb_eq t t' he
  subst this
  injection h with h
  subst h
  rfl
 ·cases h
theorem y5b : ∀ (ts : List Ty) (x : yB ts) (c : Nat) (ys : List (Sigma El)) (x' : yB ts), qy ts x c ys = some x' → (∀ i, Ko ts x' i = if c ≤ i ∧ i < c + ys.length then ys[i - c]? else Ko ts x i) ∧ (ys = [] ∨ c + ys.length ≤ ts.length) := by
 intro ts
 induction ts with
 | nil =>
  intro x c ys x' h
  cases ys with
  | nil => exact ⟨fun i => by simp [Ko], .inl rfl⟩
  | cons y ys => cases c <;> exact absurd h (by rw [show qy [] x _ (y :: ys) = none from rfl]; exact fun h => by cases h)
 | cons t ts ih =>
  intro x c ys x' h
  cases ys with
  | nil =>
   have hxx : some x = some x' := by
    cases ts <;> cases c <;> exact h
   injection hxx with hxx
   subst hxx
   refine ⟨fun i => ?_, .inl rfl⟩
   rw [if_neg (by simp only [List.length_nil]; omega)]
  | cons y ys =>
   obtain ⟨u, y⟩ := y
   cases ts with
   | nil =>
    cases c with
    | succ c => exact absurd h (by rw [show qy [t] x (c + 1) (⟨u, y⟩ :: ys) = none by cases ys <;> rfl]; exact fun h => by cases h)
    | zero =>
     cases ys with
     | cons y2 ys => exact absurd h (by rw [show qy [t] x 0 (⟨u, y⟩ :: y2 :: ys) = none from rfl]; exact fun h => by cases h)
     | nil =>
      have h' : Zo u t y = some x' := h
      refine ⟨fun i => ?_, .inr (by simp)⟩
      cases i with
      | zero => simp [Ko, wl h']
      | succ i => simp [Ko]
   | cons t2 ts =>
    cases c with
    | zero =>
     have h' : (match Zo u t y with
      | some z => match qy (t2 :: ts) x.2 0 ys with
       | some w => some ((z, w) : yB (t :: t2 :: ts))
       | none => none
      | none => none) = some x' := h
     cases hc : Zo u t y with
     | none =>
      rw [hc] at h'
      cases h'
     | some z =>
      rw [hc] at h'
      cases hs : qy (t2 :: ts) x.2 0 ys with
      | none =>
       rw [hs] at h'
       cases h'
      | some w =>
       rw [hs] at h'
       injection h' with h'
       subst h'
       obtain ⟨h1, h2⟩ := ih x.2 0 ys w hs
       refine ⟨fun i => ?_, .inr ?_⟩
       ·cases i with
        | zero => simp [Ko, wl hc]
        | succ i =>
         show Ko (t2 :: ts) w i = if 0 ≤ i + 1 ∧ i + 1 < 0 + (⟨u, y⟩ :: ys : List (Sigma El)).length then (⟨u, y⟩ :: ys : List (Sigma El))[i + 1 - 0]? else Ko (t2 :: ts) x.2 i
         rw [h1 i]
         by_cases hi : 0 ≤ i ∧ i < 0 + ys.length
         ·rw [if_pos hi, if_pos (by simp only [List.length_cons]; omega)]
          simp
         ·rw [if_neg hi, if_neg (by simp only [List.length_cons]; omega)]
       ·rcases h2 with rfl | h2
        ·simp
        ·simp only [List.length_cons] at h2 ⊢
         omega
    | succ c =>
     have h' : (match qy (t2 :: ts) x.2 c (⟨u, y⟩ :: ys) with
      | some w => some ((x.1, w) : yB (t :: t2 :: ts))
      | none => none) = some x' := h
     cases hs : qy (t2 :: ts) x.2 c (⟨u, y⟩ :: ys) with
     | none =>
      rw [hs] at h'
      cases h'
     | some w =>
      rw [hs] at h'
      injection h' with h'
      subst h'
      obtain ⟨h1, h2⟩ := ih x.2 c (⟨u, y⟩ :: ys) w hs
      refine ⟨fun i => ?_, .inr ?_⟩
      ·cases i with
       | zero => rw [if_neg (by omega)]; rfl
       | succ i =>
        show Ko (t2 :: ts) w i = if c + 1 ≤ i + 1 ∧ i + 1 < c + 1 + (⟨u, y⟩ :: ys : List (Sigma El)).length then (⟨u, y⟩ :: ys : List (Sigma El))[i + 1 - (c + 1)]? else Ko (t2 :: ts) x.2 i
        rw [h1 i]
        by_cases hi : c ≤ i ∧ i < c + (⟨u, y⟩ :: ys : List (Sigma El)).length
        ·rw [if_pos hi, if_pos (by omega), show i + 1 - (c + 1) = i - c by omega]
        ·rw [if_neg hi, if_neg (by omega)]
      ·rcases h2 with h2 | h2
       ·cases h2
       ·simp only [List.length_cons] at h2 ⊢
        omega
theorem y5c {w : World} {t t' : Ty} {B : Nat → Prop} {x : El t} {y : El t'} {v : Value} (h : Zo t t' x = some y) (hr : DpT w t B x v) : DpT w t' B y v := by
 have hs := wl h
 injection hs with h1 h2
 subst h1
 have := eq_of_heq h2
 subst this
 exact hr
theorem yg0 {w : World} {H : Hp} {Bs : Nat → Nat → Prop} : ∀ (ts : List Ty) (x : yB ts) (f : Nat → Option Value), Wy ts = true → RdE H ts x f → DpE w ts Bs x f := by
 intro ts
 induction ts generalizing Bs with
 | nil => intro _ _ _ _; trivial
 | cons t ts ih =>
  intro x f hf hr
  simp only [Wy, Bool.and_eq_true] at hf
  cases ts with
  | nil =>
   obtain ⟨v, hv, hr⟩ := hr
   exact ⟨v, hv, (DpT.flat hf.1 H).2 hr⟩
  | cons u r =>
   obtain ⟨⟨v, hv, hr⟩, hs⟩ := hr
   exact ⟨⟨v, hv, (DpT.flat hf.1 H).2 hr⟩, ih x.2 _ hf.2 hs⟩
theorem yg1 {w : World} {H : Hp} {Bs : Nat → Nat → Prop} : ∀ (ts : List Ty) (x : yB ts) (f : Nat → Option Value), Wy ts = true → DpE w ts Bs x f → RdE H ts x f := by
 intro ts
 induction ts generalizing Bs with
 | nil => intro _ _ _ _; trivial
 | cons t ts ih =>
  intro x f hf hr
  simp only [Wy, Bool.and_eq_true] at hf
  cases ts with
  | nil =>
   obtain ⟨v, hv, hr⟩ := hr
   exact ⟨v, hv, (DpT.flat hf.1 H).1 hr⟩
  | cons u r =>
   obtain ⟨⟨v, hv, hr⟩, hs⟩ := hr
   exact ⟨⟨v, hv, (DpT.flat hf.1 H).1 hr⟩, ih x.2 _ hf.2 hs⟩
theorem DpT.nil {w : World} {e : Nat} {ts : List Ty} (hp : 0 < ts.length) : DpT w (.sl e ts) (fun _ => False) (y19 (.sl e ts)) (.slice none 0 0) :=
 ⟨hp, [], fun _ _ => False, World.ownsRow_nil w 0 e ts.length, by simp, fun k hk => by simp [Value.ownBlock] at hk, fun _ _ h => h.elim, fun _ _ _ h => h.elim, fun j x hx => by simp [y19] at hx⟩
def TgB (s : St) (w : World) (G : Gh) (o : Nat) (i : Int) (c : Nat) (B : Nat → Prop) : Prop :=
 ∃ (tag e : Nat) (ts : List Ty) (xs : List (yB ts)) (cells : List Value) (Bs : Nat → Nat → Prop), yq s.o o = some (.deep true tag e ts xs) ∧ DpR w (G.dp o) e ts xs (G.sv o) cells Bs ∧ (∀ (m : Nat) (A : Option Addr) (n c : Nat), cells[m]? = some (.slice A n c) → G.hd o m = .slice A n c) ∧ B = Bs (i.toNat * ts.length + c) ∧ i.toNat < xs.length
theorem y2W (h : Rel P w0 lent H0 s a w G) (hlk : y1H lk s) {bk : Bool} {t : Ty} {x : A} {y : El t} {gs : List Nat} (hx : kn lk bk t x = some (y, gs)) {v : Value} (hr : RA G x v) :
  ∃ B, DpT w t B y v ∧ QQ s G gs [B] ∧ (∀ k, B k → k < w.heap.size) ∧ ∀ o i c, x = .bor o i c → TgB s w G o i c B := by
 have blk : ∀ {q : Nat} {ob : Ob} {k : Nat}, yq s.o q = some ob → yL G q ob k → k < w.heap.size := fun hq hb => (h.objs _ _ hq).blk hb
 cases x with
 | own q =>
  simp only [kn] at hx
  cases hq : lk q with
  | none => simp [hq] at hx
  | some ob =>
   have hlq := hlk q _ hq
   cases ob with
   | root own e ts xs =>
    cases own with
    | false => simp [hq] at hx
    | true =>
     simp only [hq] at hx
     cases hf : Wy ts with
     | false => simp [hf] at hx
     | true =>
      simp only [hf, cond_true] at hx
      obtain ⟨z, hz, he⟩ := Option.map_eq_some_iff.1 hx
      injection he with e1 e2
      subst e1 e2
      obtain ⟨hsz, hpos, cells, hown, hone, hblk, hrd⟩ := h.objs q _ hlq
      refine ⟨fun k => (G.sv q).ownBlock = some k, y5c hz ?_, fun k hk => ⟨q, by simp, _, hlq, by simpa [In, yL] using hk⟩, fun k hk => blk hlq hk, fun _ _ _ he => by cases he⟩
      rw [hr.1]
      exact ⟨hpos, cells, fun _ _ => False, hown, hone, fun k hk => hk, fun _ _ h => h.elim, fun _ _ _ h => h.elim, fun j x hj => yg0 ts x _ hf (hrd j x hj)⟩
   | deep fin tag e ts xs =>
    simp only [hq] at hx
    obtain ⟨z, hz, he⟩ := Option.map_eq_some_iff.1 hx
    injection he with e1 e2
    subst e1 e2
    obtain ⟨hsz, hpos, _, cells, Bs, hd, _, _⟩ := K5 h hlq
    refine ⟨G.dp q, y5c hz ?_, fun k hk => ⟨q, by simp, _, hlq, by simpa [In, yL] using hk⟩, fun k hk => blk hlq hk, fun _ _ _ he => by cases he⟩
    rw [hr.1]
    exact DpT.row.2 ⟨cells, Bs, hd⟩
   | _ => simp [hq] at hx
 | bor q i c =>
  cases bk with
  | false => cases t <;> simp [kn] at hx
  | true =>
   simp only [kn, cond_true] at hx
   cases hq : lk q with
   | none => simp [hq] at hx
   | some ob =>
    have hlq := hlk q _ hq
    cases ob with
    | deep fin tag e ts xs =>
     cases fin with
     | false => simp [hq] at hx
     | true =>
      simp only [hq] at hx
      cases hcs : Ko ts (rdE ts xs i) c with
      | none => simp [hcs] at hx
      | some p =>
       obtain ⟨t', y'⟩ := p
       cases t' with
       | sl e' us =>
        simp only [hcs] at hx
        obtain ⟨z, hz, he⟩ := Option.map_eq_some_iff.1 hx
        injection he with e1 e2
        subst e1 e2
        obtain ⟨hsz, hpos, _, cells, Bs, hd, hfin, _⟩ := K5 h hlq
        obtain ⟨⟨h1, hlt2⟩, _⟩ := hr
        have hlt' : i.toNat < xs.length := by
         rw [hsz] at hlt2
         exact hlt2
        have hg : xs[i.toNat]? = some (rdE ts xs i) := by simp [rdE, hlt']
        obtain ⟨u, hu, hdu⟩ := (wk ts _ _ _).1 (hd.rd i.toNat _ hg) c _ hcs
        obtain ⟨A, n, m, rfl⟩ := DpT.slice hdu
        have hv : v = .slice A n m := by
         rw [h1, hsz]
         exact hfin rfl _ A n m hu
        refine ⟨Bs (i.toNat * ts.length + c), y5c hz (by rw [hv]; exact hdu), fun k hk => ⟨q, by simp, _, hlq, (hd.sub _ k (by simpa [In] using hk)).1⟩, fun k hk => blk hlq (hd.sub _ k hk).1, fun _ _ _ he => by
         injection he with e1 e2 e3
         subst e1 e2 e3
         exact ⟨_, _, _, _, cells, Bs, hlq, hd, hfin rfl, rfl, hlt'⟩⟩
       | _ => simp [hcs] at hx
    | _ => simp [hq] at hx
 | nils =>
  cases t with
  | sl e ts =>
   simp only [kn] at hx
   cases hb : Nat.blt 0 ts.length with
   | false => simp [hb] at hx
   | true =>
    simp only [hb, cond_true] at hx
    injection hx with hx
    injection hx with e1 e2
    subst e1 e2
    rw [show v = .slice none 0 0 from hr]
    exact ⟨fun _ => False, DpT.nil (jn hb), fun k hk => by simp [In] at hk, fun _ h => h.elim, fun _ _ _ he => by cases he⟩
  | _ => simp [kn] at hx
 | val t' x' =>
  simp only [kn] at hx
  cases hf : Ty.flat t with
  | false => simp [hf] at hx
  | true =>
   simp only [hf, cond_true] at hx
   obtain ⟨z, hz, he⟩ := Option.map_eq_some_iff.1 hx
   injection he with e1 e2
   subst e1 e2
   exact ⟨fun _ => False, (DpT.flat hf G.H).2 (vE hz hr), fun k hk => by simp [In] at hk, fun _ h => h.elim, fun _ _ _ he => by cases he⟩
 | _ => cases t <;> simp [kn] at hx
def DpS (w : World) : List (Sigma El) → List (Nat → Prop) → List Value → Prop
 | [], [], [] => True
 | y :: ys, b :: bs, v :: vs => DpT w y.1 b y.2 v ∧ DpS w ys bs vs
 | _, _, _ => False
theorem DpS.lens {w : World} : ∀ {ys : List (Sigma El)} {bs : List (Nat → Prop)} {vs : List Value}, DpS w ys bs vs → bs.length = ys.length ∧ vs.length = ys.length
 | [], [], [], _ => ⟨rfl, rfl⟩
 | _ :: ys, _ :: bs, _ :: vs, h => by simp [DpS.lens h.2]
theorem DpS.get {w : World} : ∀ {ys : List (Sigma El)} {bs : List (Nat → Prop)} {vs : List Value}, DpS w ys bs vs → ∀ (i : Nat) (y : Sigma El), ys[i]? = some y → ∃ v, vs[i]? = some v ∧ DpT w y.1 (bs.getD i fun _ => False) y.2 v
 | y :: ys, b :: bs, v :: vs, h, 0, z, hz => by
  have : y = z := by simpa using hz
  subst this
  exact ⟨v, rfl, h.1⟩
 | y :: ys, b :: bs, v :: vs, h, i + 1, z, hz => DpS.get h.2 i z (by simpa using hz)
theorem y2X (h : Rel P w0 lent H0 s a w G) {gs hs : List Nat} {bs cs : List (Nat → Prop)} (hb : QQ s G gs bs) (hc : QQ s G hs cs) (hd : ∀ q ∈ gs, q ∉ hs) : ∀ k, In bs k → ¬ In cs k := by
 intro k h1 h2
 obtain ⟨q, hq, ob, hl, hbq⟩ := hb k h1
 obtain ⟨q', hq', ob', hl', hbq'⟩ := hc k h2
 have := h.apart q q' _ _ k hl hl' hbq hbq'
 subst this
 exact hd q hq hq'
theorem QQ.mono {gs hs : List Nat} {bs : List (Nat → Prop)} (h : QQ s G gs bs) (hm : ∀ q ∈ gs, q ∈ hs) : QQ s G hs bs := fun k hk => by
 obtain ⟨q, hq, r⟩ := h k hk
 exact ⟨q, hm q hq, r⟩
theorem y1J (h : Rel P w0 lent H0 s a w G) (hlk : y1H lk s) : ∀ (ts : List Ty) (c : Nat) (l : List A) (ys : List (Sigma El)) (gs : List Nat), Kp lk ts c l = some (ys, gs) → gs.Nodup → ∀ (vs : List Value), RL G l vs →
  ∃ bs, DpS w ys bs vs ∧ QQ s G gs bs ∧ y0J bs ∧ ∀ k, In bs k → k < w.heap.size := by
 have nil : ∀ (vs : List Value) (l : List A), l = [] → RL G l vs → ∃ bs, DpS w [] bs vs ∧ QQ s G [] bs ∧ y0J bs ∧ ∀ k, In bs k → k < w.heap.size := by
  intro vs l hl hr
  subst hl
  cases vs with
  | nil => exact ⟨[], trivial, fun k hk => absurd hk In.nil, List.Pairwise.nil, fun k hk => absurd hk In.nil⟩
  | cons _ _ => exact hr.elim
 intro ts
 induction ts with
 | nil =>
  intro c l ys gs hx hn vs hr
  cases l with
  | nil =>
   have : some (([] : List (Sigma El)), ([] : List Nat)) = some (ys, gs) := by
    cases c <;> exact hx
   injection this with this
   injection this with h1 h2
   subst h1 h2
   exact nil vs [] rfl hr
  | cons x l => cases c <;> exact absurd hx (by simp [Kp])
 | cons t ts ih =>
  intro c l ys gs hx hn vs hr
  cases l with
  | nil =>
   have : some (([] : List (Sigma El)), ([] : List Nat)) = some (ys, gs) := by
    cases c <;> exact hx
   injection this with this
   injection this with h1 h2
   subst h1 h2
   exact nil vs [] rfl hr
  | cons x l =>
   cases c with
   | succ c => exact ih c (x :: l) ys gs hx hn vs hr
   | zero =>
    have h' : (match kn lk false t x with
     | some (x, is) => match Kp lk ts 0 l with
      | some (r, js) => some ((⟨t, x⟩ : Sigma El) :: r, is ++ js)
      | none => none
     | none => none) = some (ys, gs) := hx
    cases hx1 : kn lk false t x with
    | none =>
     rw [hx1] at h'
     cases h'
    | some p =>
     obtain ⟨x', js⟩ := p
     rw [hx1] at h'
     cases hl : Kp lk ts 0 l with
     | none =>
      rw [hl] at h'
      cases h'
     | some q =>
      obtain ⟨r', js'⟩ := q
      rw [hl] at h'
      injection h' with h'
      injection h' with h1 h2
      subst h1 h2
      cases vs with
      | nil => exact hr.elim
      | cons v vs =>
       obtain ⟨n1, n2, n3⟩ := List.nodup_append.1 hn
       obtain ⟨B, b1, b2, b3, _⟩ := y2W h hlk hx1 hr.1
       obtain ⟨bs, c1, c2, c3, c4⟩ := ih 0 l r' js' hl n2 vs hr.2
       have hap := y2X h b2 c2 (fun q hq hq' => n3 q hq q hq' rfl)
       refine ⟨B :: bs, ⟨b1, c1⟩, fun k hk => ?_, List.pairwise_cons.2 ⟨fun c hc k hb hck => hap k (by simpa [In] using hb) ⟨c, hc, hck⟩, c3⟩, fun k hk => ?_⟩
       ·rcases In.cons.1 hk with hk | hk
        ·obtain ⟨q, hq, r⟩ := b2 k (by simpa [In] using hk)
         exact ⟨q, by simp [hq], r⟩
        ·obtain ⟨q, hq, r⟩ := c2 k hk
         exact ⟨q, by simp [hq], r⟩
       ·rcases In.cons.1 hk with hk | hk
        ·exact b3 k hk
        ·exact c4 k hk
theorem ycC {bk : Bool} {t : Ty} {x : A} {p : El t × List Nat} (h : kn lk bk t x = some p) : x.one = true := by
 cases x <;> first | rfl | (cases t <;> simp [kn] at h)
theorem yaq : ∀ (ts : List Ty) (c : Nat) (l : List A) (ys : List (Sigma El)) (is : List Nat), Kp lk ts c l = some (ys, is) → Jk l = true := by
 intro ts
 induction ts with
 | nil =>
  intro c l ys is h
  cases l with
  | nil => rfl
  | cons x l => cases c <;> exact absurd h (by simp [Kp])
 | cons t ts ih =>
  intro c l ys is h
  cases l with
  | nil => rfl
  | cons x l =>
   cases c with
   | succ c => exact ih c (x :: l) ys is h
   | zero =>
    have h' : (match kn lk false t x with
     | some (x, is) => match Kp lk ts 0 l with
      | some (r, js) => some ((⟨t, x⟩ : Sigma El) :: r, is ++ js)
      | none => none
     | none => none) = some (ys, is) := h
    cases hx : kn lk false t x with
    | none =>
     rw [hx] at h'
     cases h'
    | some p =>
     rw [hx] at h'
     cases hl : Kp lk ts 0 l with
     | none =>
      rw [hl] at h'
      cases h'
     | some q => simp [Jk, ycC hx, ih 0 l q.1 q.2 hl]
def Gh.setDp (G : Gh) (q : Nat) (B : Nat → Prop) : Gh := { G with dp := fun j => if j = q then B else G.dp j }
theorem Rel.setDp (h : Rel P w0 lent H0 s a w G) {q : Nat} (hq : yq s.o q = some .gone) (B : Nat → Prop) : Rel P w0 lent H0 s a w (G.setDp q B) := by
 have hb : ∀ (j : Nat) (ob : Ob), yq s.o j = some ob → yL (G.setDp q B) j ob = yL G j ob := by
  intro j ob hj
  by_cases hjq : j = q
  ·subst hjq
   rw [hq] at hj
   injection hj with hj
   subst hj
   rfl
  ·cases ob with
   | deep _ _ _ _ _ => funext k; simp [yL, Gh.setDp, hjq]
   | root own _ _ _ => cases own <;> rfl
   | _ => rfl
 refine { h with defers := h.defers, len := h.len, slots := fun i x hx => RA.mono (G := G) (G' := G.setDp q B) (Hp.le.refl _) rfl rfl rfl rfl x _ (h.slots i x hx), objs := fun i ob hi => ?_, away := fun i ob k hi hbk => h.away i ob k hi (by rw [← hb i ob hi]; exact hbk), apart := fun i j oi oj k hi hj hbi hbj => h.apart i j oi oj k hi hj (by rw [← hb i oi hi]; exact hbi) (by rw [← hb j oj hj]; exact hbj) }
 have hro := h.objs i ob hi
 by_cases hiq : i = q
 ·subst hiq
  rw [hq] at hi
  injection hi with hi
  subst hi
  trivial
 ·cases ob with
  | box cells => exact ⟨hro.1, fun m x hm => by
    obtain ⟨h1, v, h2, h3, h4⟩ := hro.2 m x hm
    exact ⟨h1, v, h2, h3, RA.mono (G := G) (G' := G.setDp q B) (Hp.le.refl _) rfl rfl rfl rfl x v h4⟩⟩
  | root own e ts xs => cases own <;> exact hro
  | deep fin tag e ts xs =>
   have hd : (G.setDp q B).dp i = G.dp i := by simp [Gh.setDp, hiq]
   obtain ⟨h1, h2, h3, h4, cells, Bs, h5, h6⟩ := hro
   exact ⟨h1, by rw [hd]; exact h2, h3, h4, cells, Bs, by rw [hd]; exact h5, h6⟩
  | gone => trivial
end Go.Proofs.YtmapoakbdgpamaaGreat.R
