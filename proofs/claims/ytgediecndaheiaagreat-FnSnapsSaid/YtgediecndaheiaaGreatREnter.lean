/- How a call begins. No condition. -/
import Derived.Test.YtgediecndaheiaaGreatRDrawn
set_option linter.all false
namespace Go.Proofs.YtgediecndaheiaaGreat.R
open Go.RowKit
variable {P : Program} {C : Ctx} {w0 : World} {lent : Nat → Prop} {H0 : Base} {s : St} {a : Act} {w : World} {G : Gh}
theorem Rel.start (w : World) (lent : Nat → Prop) {B : Base} (hH : B.H.le (ZQ w)) (a : Act) (hd : a.defers = []) (G : Gh) (hG : G.H = B.H) (hP : G.pv = B.pv) (hT : ∀ k ob, B.pv k = some ob → k < w.heap.size ∧ ¬ lent k ∧ w.heap[k]? = some ob) : Rel P w lent B ⟨[], []⟩ a w G := by
 refine { top := hT, os := rfl, tape := rfl, output := rfl, size := Nat.le_refl _, old := fun _ _ _ => rfl, inH := by rw [hG]; exact hH, base := by rw [hG]; exact Hp.le.refl _, pv := hP, hnew := fun k ob hk => .inl (by rw [← hG]; exact hk), defers := hd, len := by simp, slots := fun i x hx => by simp at hx, objs := fun i ob hi => by simp [z4] at hi, away := fun i ob k hi _ => by simp [z4] at hi, apart := fun i j oi oj k hi _ _ _ => by simp [z4] at hi, pin := fun i ob b hi _ => by simp [z4] at hi }
def y3U (w : World) (b off : Nat) (vs : List Value) : Prop := b < w.heap.size ∧ ∀ j v, vs[j]? = some v → w.frozen? ⟨b, off + j, none⟩ = false ∧ w.cell? ⟨b, off + j, none⟩ = some v ∧ v.oneCell' = true
theorem Rel.oldBox (h : Rel P w0 lent H0 s a w G) (d b off : Nat) {l : List A} {vs : List Value} (hl : RL G l vs) (hc : y3U w b off vs) (hf : VQ w0 lent s G b) (hp : ∀ p, H0.pin d = some p → (b, off) = p) :
  Rel P w0 lent H0 (s.make d (.box (za d l))) a w (G.upd d (b, off) undef (0, 0)) := by
 refine h.make rfl rfl rfl (Nat.le_refl _) (fun _ _ => .inl rfl) ⟨by simpa [Gh.upd] using hc.1, fun j x hx => ?_⟩ (fun k hk => ?_) hp
 ·rw [kG] at hx
  obtain ⟨y, hy, rfl⟩ := Option.map_eq_some_iff.1 hx
  obtain ⟨v, hv, hr⟩ := hl.get j y hy
  obtain ⟨h1, h2, h3⟩ := hc.2 j v hv
  simp only [Gh.upd, if_true]
  exact ⟨h1, v, h2, h3, RA.forget (G.upd_agree d (b, off) undef (0, 0)) y v hr⟩
 ·have : b = k := by simpa [zR, Gh.upd] using hk
  exact this ▸ hf
theorem Rel.slotsAs (h : Rel P w0 lent H0 s a w G) {t : List A} (hlen : t.length ≤ a.tmps.size) (hs : ∀ (i : Nat) (x : A), t[i]? = some x → RA G x (a.tmps.getD i undef)) : Rel P w0 lent H0 ⟨t, s.o⟩ a w G :=
 { h with defers := h.defers, len := hlen, slots := hs, objs := h.objs, away := h.away, apart := h.apart }
def VX : List PK → List (Nat × Nat) → Nat → Nat → Option (Nat × Nat)
 | [], _, _, _ => none
 | .v _ _ _ :: ps, pb, i, j => VX ps pb (i + 1) j
 | .k _ :: ps, pb, i, j => VX ps pb (i + 1) j
 | .p _ _ _ :: ps, b :: pb, i, j => if j = 900 + i then some b else VX ps pb (i + 1) j
 | .p _ _ _ :: _, [], _, _ => none
theorem wV : ∀ (ps : List PK) (pb : List (Nat × Nat)) (i j : Nat) (b : Nat × Nat), VX ps pb i j = some b → 900 + i ≤ j ∧ j < 900 + i + ps.length
 | [], _, _, _, _, h => by simp [VX] at h
 | .v _ _ _ :: ps, pb, i, j, b, h => by
  have := wV ps pb (i + 1) j b h
  simp only [List.length_cons]
  omega
 | .k _ :: ps, pb, i, j, b, h => by
  have := wV ps pb (i + 1) j b h
  simp only [List.length_cons]
  omega
 | .p _ _ _ :: ps, q :: pb, i, j, b, h => by
  simp only [VX] at h
  simp only [List.length_cons]
  split at h
  ·omega
  ·have := wV ps pb (i + 1) j b h
   omega
 | .p _ _ _ :: _, [], _, _, _, h => by simp [VX] at h
def y9U : Option Nat → Value → Value
 | none, v => v
 | some f, v => bif Nat.blt f 1000000000 then .func (.func f) #[] #[v] else (match v with
  | .pointer (some a) => .pointer (some ⟨a.block, a.off + (f - 1000000000), a.spot⟩)
  | v => v)
theorem yjh {G : Gh} {wr : Option Nat} {b : Nat} : RA G (yfG wr b) (y9U wr (.pointer (some ⟨(G.g b).1, (G.g b).2 + 0, none⟩))) := by
 cases wr with
 | none => rfl
 | some f =>
  cases hf : Nat.blt f 1000000000 with
  | true =>
   simp only [yfG, y9U, hf, cond_true]
   rfl
  | false =>
   simp only [yfG, y9U, hf, cond_false]
   rfl
def VY (w : World) : List PK → List Value → List Value → List (Nat × Nat) → Prop
 | [], args, vs, pb => args = [] ∧ vs = [] ∧ pb = []
 | .v agg ts _ :: ps, args, vs, pb => ∃ arg vs1 args' vs', args = arg :: args' ∧ vs = vs1 ++ vs' ∧ vs1.length = ts.length ∧ (if agg then arg = .agg vs1.toArray else vs1 = [arg]) ∧ VY w ps args' vs' pb
 | .k f :: ps, args, vs, pb => ∃ args', args = .func (.func f) #[] #[] :: args' ∧ VY w ps args' vs pb
 | .p wr ts _ :: ps, args, vs, pb => ∃ b off vs1 args' vs' pb', args = y9U wr (.pointer (some ⟨b, off, none⟩)) :: args' ∧ vs = vs1 ++ vs' ∧ vs1.length = ts.length ∧ pb = (b, off) :: pb' ∧ y3U w b off vs1 ∧ VY w ps args' vs' pb'
theorem y1s (tg : Bool) (t : Ty) (own : Bool) (x : El t) (n : Nat) : ∀ j ∈ (wm tg t own x n).1.ids, n = j := by
 intro j hj
 cases t <;> cases own <;> cases tg <;> simp [wm, A.ids] at hj <;> exact hj.symm
theorem y9V (tg : Bool) : ∀ (ts : List Ty) (os : List Bool) (x : z8 ts) (n : Nat), ∀ j ∈ jk (zb tg ts os x n).1, n ≤ j := by
 intro ts
 induction ts with
 | nil => intro os x n j hj; simp [zb, jk] at hj
 | cons t ts ih =>
  intro os x n j hj
  cases ts with
  | nil =>
   simp only [zb, jk, List.append_nil] at hj
   exact Nat.le_of_eq (y1s tg t _ _ n j hj)
  | cons u r =>
   have hj' : j ∈ (wm tg t (os.headD false) x.1 n).1.ids ++ jk (zb tg (u :: r) os.tail x.2 (n + 1)).1 := hj
   rcases List.mem_append.1 hj' with h | h
   ·exact Nat.le_of_eq (y1s tg t _ _ n j h)
   ·have := ih os.tail x.2 (n + 1) j h
    omega
theorem y1t (l : List A) (n : Nat) : ∀ j ∈ jk (l.take n), j ∈ jk l := by
 induction l generalizing n with
 | nil => intro j hj; simp [jk] at hj
 | cons x l ih =>
  intro j hj
  cases n with
  | zero => simp [jk] at hj
  | succ n =>
   simp only [List.take_succ_cons, jk, List.mem_append] at hj ⊢
   exact hj.imp id (ih n j)
theorem vo (l : List A) (n : Nat) : ∀ j ∈ jk (l.drop n), j ∈ jk l := by
 induction l generalizing n with
 | nil => intro j hj; simp [jk] at hj
 | cons x l ih =>
  intro j hj
  cases n with
  | zero => simpa using hj
  | succ n =>
   simp only [List.drop_succ_cons] at hj
   simp only [jk, List.mem_append]
   exact .inr (ih n j hj)
mutual
theorem RA.agree {G G' : Gh} (hH : G'.H = G.H) (hp : G'.pv = G.pv) : ∀ (x : A) (v : Value), RA G x v → (∀ j ∈ x.ids, y3Q G G' j) → RA G' x v
 | .dead, _, _, _ => trivial
 | .und, _, hr, _ => hr
 | .val t x, v, hr, _ => by
  show RdT G'.H t x v
  rw [hH]
  exact hr
 | .nils, _, hr, _ => hr
 | .nilp, _, hr, _ => hr
 | .fn _, _, hr, _ => hr
 | .own o, v, hr, ha => ⟨by rw [(ha o (by simp [A.ids])).2.1]; exact hr.1, hr.2⟩
 | .win o q, v, hr, ha => by
  obtain ⟨ad, n, c, e1, e2⟩ := hr
  exact ⟨ad, n, c, by rw [(ha o (by simp [A.ids])).2.1]; exact e1, e2⟩
 | .tl o q, v, hr, ha => by
  obtain ⟨ad, n, c, e1, e2, e3⟩ := hr
  exact ⟨ad, n, c, by rw [(ha o (by simp [A.ids])).2.1]; exact e1, e2, by rw [(ha o (by simp [A.ids])).2.2]; exact e3⟩
 | .top e ts xs, v, hr, _ => by
  show RdR G'.H G'.pv ts xs v
  rw [hH, hp]
  exact hr
 | .box b off, v, hr, ha => by
  show v = _
  rw [(ha b (by simp [A.ids])).1]
  exact hr
 | .clo f b, v, hr, ha => by
  show v = _
  rw [(ha b (by simp [A.ids])).1]
  exact hr
 | .rtp o j c, v, hr, ha => by
  have h := ha o (by simp [A.ids])
  refine ⟨?_, by rw [h.2.2]; exact hr.2⟩
  rw [h.1, h.2.2]
  exact hr.1
 | .elp e ts xs j c, v, hr, _ => by
  obtain ⟨ad, e1, hlt, h1⟩ := hr
  exact ⟨ad, e1, hlt, by rw [hH]; exact h1⟩
 | .agg l, v, hr, ha => by
  obtain ⟨cs, rfl, hl⟩ := hr
  exact ⟨cs, rfl, RL.agree hH hp l cs hl ha⟩
 | .tup l, v, hr, ha => by
  obtain ⟨cs, rfl, hl⟩ := hr
  exact ⟨cs, rfl, RL.agree hH hp l cs hl ha⟩
theorem RL.agree {G G' : Gh} (hH : G'.H = G.H) (hp : G'.pv = G.pv) : ∀ (l : List A) (vs : List Value), RL G l vs → (∀ j ∈ jk l, y3Q G G' j) → RL G' l vs
 | [], [], _, _ => trivial
 | a :: l, v :: vs, hr, ha => ⟨RA.agree hH hp a v hr.1 (fun j hj => ha j (by simp [jk, hj])), RL.agree hH hp l vs hr.2 (fun j hj => ha j (by simp [jk, hj]))⟩
end
theorem y8f : ∀ (ps : List PK) (l : List A) (args vs : List Value) (pb : List (Nat × Nat)) (i : Nat) (s : St) (G : Gh), Rel P w0 lent H0 s a w G → VY w ps args vs pb → RL G l vs → (∀ j ∈ jk l, 950 ≤ j) → i + ps.length ≤ 50 → (∀ p ∈ pb, VQ w0 lent s G p.1) → pb.Pairwise (fun p q => p.1 ≠ q.1) → (∀ j, 900 + i ≤ j → H0.pin j = VX ps pb i j) →
  ∃ G', G'.H = G.H ∧ (∀ j, j < 900 + i ∨ 950 ≤ j → y3Q G G' j) ∧ Rel P w0 lent H0 (s.makeAll (y5m ps l i).2) a w G' ∧ RL G' (y5m ps l i).1 args := by
 intro ps
 induction ps with
 | nil =>
  intro l args vs pb i s G h hs hr hi hle hf hp hpin
  obtain ⟨rfl, rfl, rfl⟩ := hs
  exact ⟨G, rfl, fun _ _ => y3Q.refl, h, trivial⟩
 | cons p ps ih =>
  intro l args vs pb i s G h hs hr hi hle hf hp hpin
  simp only [List.length_cons] at hle
  cases p with
  | v agg ts os =>
   obtain ⟨arg, vs1, args', vs', rfl, rfl, hl1, ha, hs'⟩ := hs
   have hr1 : RL G (l.take ts.length) vs1 := by
    have := RL.take ts.length hr
    rwa [← hl1, List.take_left' rfl, hl1] at this
   have hr2 : RL G (l.drop ts.length) vs' := by
    have := RL.drop ts.length hr
    rwa [← hl1, List.drop_left' rfl, hl1] at this
   obtain ⟨G', e1, e2, e3, e4⟩ := ih (l.drop ts.length) args' vs' pb (i + 1) s G h hs' hr2 (fun j hj => hi j (vo l _ j hj)) (by omega) hf hp (fun j hj => hpin j (by omega))
   have hr1' : RL G' (l.take ts.length) vs1 := RL.agree e1 (e3.pv.trans h.pv.symm) _ _ hr1 (fun j hj => e2 j (.inr (hi j (y1t l _ j hj))))
   refine ⟨G', e1, fun j hj => e2 j (by omega), e3, ?_, e4⟩
   cases agg with
   | true =>
    have ha' : arg = .agg vs1.toArray := ha
    subst ha'
    exact ⟨vs1, rfl, hr1'⟩
   | false =>
    have ha' : vs1 = [arg] := ha
    subst ha'
    show RA G' ((l.take ts.length).headD .dead) arg
    revert hr1'
    generalize l.take ts.length = l1
    intro hr1'
    cases l1 with
    | nil => exact hr1'.elim
    | cons x l1 => exact hr1'.1
  | k f =>
   obtain ⟨args', rfl, hs'⟩ := hs
   obtain ⟨G', e1, e2, e3, e4⟩ := ih l args' vs pb (i + 1) s G h hs' hr hi (by omega) hf hp (fun j hj => hpin j (by omega))
   exact ⟨G', e1, fun j hj => e2 j (by omega), e3, rfl, e4⟩
  | p wr ts os =>
   obtain ⟨b, off, vs1, args', vs', pb', rfl, rfl, hl1, rfl, hc, hs'⟩ := hs
   have hr1 : RL G (l.take ts.length) vs1 := by
    have := RL.take ts.length hr
    rwa [← hl1, List.take_left' rfl, hl1] at this
   have hr2 : RL G (l.drop ts.length) vs' := by
    have := RL.drop ts.length hr
    rwa [← hl1, List.drop_left' rfl, hl1] at this
   have hbox := h.oldBox (900 + i) b off hr1 hc (hf (b, off) (by simp)) (fun p hp' => by
    rw [hpin (900 + i) (by omega)] at hp'
    simpa [VX] using hp')
   have hn : 900 + i ∉ jk (l.take ts.length) := fun hj => by
    have := hi _ (y1t l _ _ hj)
    omega
   rw [Jf _ hn] at hbox
   have hp' := List.pairwise_cons.1 hp
   obtain ⟨G', e1, e2, e3, e4⟩ := ih (l.drop ts.length) args' vs' pb' (i + 1) _ _ hbox hs' (RL.agree (G := G) (G' := G.upd (900 + i) (b, off) undef (0, 0)) rfl rfl _ _ hr2 (fun j hj => by
     have := hi j (vo l _ j hj)
     have hne : j ≠ 900 + i := by omega
     exact (G.upd_agree _ _ _ _).same hne)) (fun j hj => hi j (vo l _ j hj)) (by omega) (fun q hq => (hf q (by simp [hq])).make (by
     simp only [zR, Gh.upd, if_true]
     exact hp'.1 q hq)) hp'.2 (fun j hj => by
    rw [hpin j (by omega)]
    simp [VX, show ¬ j = 900 + i by omega])
   refine ⟨G', e1, fun j hj => ?_, e3, ?_, e4⟩
   ·have h2 := e2 j (by omega)
    have hne : j ≠ 900 + i := by omega
    exact ((G.upd_agree _ _ _ _).same hne).trans h2
   ·have h2 := (e2 (900 + i) (.inl (by omega))).1
    have h3 : G'.g (900 + i) = (b, off) := by
     rw [h2]
     simp [Gh.upd]
    have h4 := yjh (G := G') (wr := wr) (b := 900 + i)
    rw [h3] at h4
    exact h4
def qy (bs : List (Nat → Prop)) (pb : List (Nat × Nat)) (k : Nat) : Prop := In bs k ∨ ∃ p ∈ pb, p.1 = k
def W4 (sg : Sig) (bs : List (Nat → Prop)) : List (Nat → Prop) := if sg.back then [] else bs
noncomputable def y5w (sg : Sig) (w : World) (bs : List (Nat → Prop)) : Hp := fun k => open Classical in if sg.back = true ∧ In bs k then w.heap[k]? else none
theorem y9W (sg : Sig) (n : Nat) (ts : List Ty) (x : z8 ts) {H : Hp} (hH : H.le (ZQ w)) {args vs : List Value} {bs : List (Nat → Prop)} {pb : List (Nat × Nat)} (hc : vm H w ts (sg.ps.flatMap PK.ownsIn) x vs bs) (ha : y4Y bs) (hs : VY w sg.ps args vs pb) (hp : pb.Pairwise (fun p q => p.1 ≠ q.1))
  (hx : ∀ k, qy bs pb k → H k = none) (hd : ∀ p ∈ pb, ¬ In bs p.1) (hle : sg.ps.length ≤ 50) (hn : args.length ≤ n) :
  ∃ G, G.H = H ∧ Rel P w (qy (W4 sg bs) pb) ⟨H, VX sg.ps pb 0, fun i b h => by have := wV sg.ps pb 0 i b h; omega, y5w sg w bs⟩ (enter sg n ts x) { tmps := args.toArray ++ Array.replicate (n - args.toArray.size) undef, defers := [] } w G := by
 have hkb : ∀ k, In (W4 sg bs) k → In bs k := fun k hk => by
  unfold W4 at hk
  split at hk
  ·simp [In] at hk
  ·exact hk
 have h0 := Rel.start (P := P) w (qy (W4 sg bs) pb) (B := ⟨H, VX sg.ps pb 0, fun i b h => by have := wV sg.ps pb 0 i b h; omega, y5w sg w bs⟩) hH { tmps := args.toArray ++ Array.replicate (n - args.toArray.size) undef, defers := [] } rfl ⟨H, fun _ => (0, 0), fun _ => undef, fun _ => (0, 0), y5w sg w bs⟩ rfl rfl (fun k ob hk => by
  have hk' : (open Classical in if sg.back = true ∧ In bs k then w.heap[k]? else none) = some ob := hk
  split at hk'
  ·rename_i hh
   refine ⟨(Array.getElem?_eq_some_iff.1 hk').1, fun hl => ?_, hk'⟩
   rcases hl with hl | ⟨p, hp', he⟩
   ·unfold W4 at hl
    rw [if_pos hh.1] at hl
    simp [In] at hl
   ·exact hd p hp' (he ▸ hh.2)
  ·cases hk')
 have hfree : ∀ k, qy (W4 sg bs) pb k → VQ w (qy (W4 sg bs) pb) ⟨[], []⟩ ⟨H, fun _ => (0, 0), fun _ => undef, fun _ => (0, 0), y5w sg w bs⟩ k := fun k hk => ⟨hx k (hk.imp (hkb k) id), .inr hk, fun j oj hj => by simp [z4] at hj⟩
 obtain ⟨G1, e1, e2, e3, e4, e5⟩ := y1r sg.back ts (sg.ps.flatMap PK.ownsIn) x 950 vs bs _ _ (Nat.le_refl _) h0 (fun h1 k hk => by
  show (open Classical in if sg.back = true ∧ In bs k then w.heap[k]? else none) = w.heap[k]?
  rw [if_pos ⟨h1, hk⟩]) hc (fun hz k hk => hfree k (.inl (by
  unfold W4
  rw [if_neg (by rw [hz]; simp)]
  exact hk))) ha
 obtain ⟨G2, f1, f2, f3, f4⟩ := y8f sg.ps _ args vs pb 0 _ G1 e3 hs e4 (y9V sg.back ts _ x 950) (by omega) (fun p hp' => e5 _ (hfree _ (.inr ⟨p, hp', rfl⟩)) (hd p hp')) hp (fun j _ => rfl)
 refine ⟨G2, f1.trans e1, f3.slotsAs ?_ fun i y hy => ?_⟩
 ·have := f4.length
  simp only [List.length_append, List.length_replicate, Array.size_append, List.size_toArray, Array.size_replicate]
  omega
 ·have hl := f4.length
  by_cases hi : i < args.length
  ·rw [List.getElem?_append_left (by omega)] at hy
   obtain ⟨v, hv, hr⟩ := f4.get i y hy
   have hvv : (args.toArray ++ Array.replicate (n - args.toArray.size) undef).getD i undef = v := by
    rw [Array.getD_eq_getD_getElem?, Array.getElem?_append_left (by simpa using hi)]
    simp [hv]
   rw [hvv]
   exact hr
  ·rw [List.getElem?_append_right (by omega)] at hy
   have : y = .dead := by
    rw [List.getElem?_replicate] at hy
    split at hy
    ·injection hy with hy
     exact hy.symm
    ·cases hy
   subst this
   trivial
end Go.Proofs.YtgediecndaheiaaGreat.R
