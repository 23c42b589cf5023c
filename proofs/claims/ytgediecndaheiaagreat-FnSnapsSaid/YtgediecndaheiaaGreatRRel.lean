/- How the evaluator's plain values lie in memory. No condition. -/
import Derived.Test.YtgediecndaheiaaGreatRCore
set_option linter.all false
namespace Go.Proofs.YtgediecndaheiaaGreat.R
open Go.RowKit
abbrev Hp := Nat → Option Obj
def Hp.le (H H' : Hp) : Prop := ∀ k o, H k = some o → H' k = some o
theorem Hp.le.refl (H : Hp) : H.le H := fun _ _ h => h
theorem Hp.le.trans {H H' H'' : Hp} (h : H.le H') (h' : H'.le H'') : H.le H'' := fun k o hk => h' k o (h k o hk)
def ZQ (w : World) : Hp := fun k => w.heap[k]?
def y0X (H : Hp) (a : Addr) : Option Value := match H a.block with
 | some (.cells c _ _) => if a.spot.isSome then none else c[a.off]?
 | _ => none
theorem ycF (w : World) (a : Addr) : y0X (ZQ w) a = w.cell? a := rfl
theorem qB {H H' : Hp} (h : H.le H') {a : Addr} {v : Value} (hc : y0X H a = some v) : y0X H' a = some v := by
 unfold y0X at *
 cases hk : H a.block with
 | none => simp [hk] at hc
 | some o =>
  rw [h _ _ hk]
  rw [hk] at hc
  exact hc
mutual
def RdT (H : Hp) : (t : Ty) → El t → Value → Prop
 | .int k, n, v => v = .int k n
 | .bool, b, v => v = .bool b
 | .str, s, v => v = .string s
 | .sl _ ts, xs, v => ∃ (A : Option Addr) (c : Nat), v = .slice A (List.length xs) c ∧ List.length xs ≤ c ∧ List.length xs ≤ 9223372036854775807 ∧
   (0 < List.length xs → ∃ ad, A = some ad ∧ ∀ (j : Nat) (x : z8 ts), (show List (z8 ts) from xs)[j]? = some x → RdE H ts x (fun i => y0X H (ad.add (j * ts.length + i))))
def RdE (H : Hp) : (ts : List Ty) → z8 ts → (Nat → Option Value) → Prop
 | [], _, _ => True
 | t :: [], x, f => ∃ v, f 0 = some v ∧ RdT H t x v
 | t :: u :: r, x, f => (∃ v, f 0 = some v ∧ RdT H t x.1 v) ∧ RdE H (u :: r) x.2 (fun i => f (i + 1))
end
mutual
theorem RdT.mono {H H' : Hp} (h : H.le H') : ∀ (t : Ty) (x : El t) (v : Value), RdT H t x v → RdT H' t x v
 | .int _, _, _, hr => hr
 | .bool, _, _, hr => hr
 | .str, _, _, hr => hr
 | .sl _ ts, xs, v, hr => by
  obtain ⟨A, c, e, h1, h2, h3⟩ := hr
  refine ⟨A, c, e, h1, h2, fun hp => ?_⟩
  obtain ⟨ad, ea, hx⟩ := h3 hp
  exact ⟨ad, ea, fun j x hj => RdE.mono h ts x _ _ (fun i v hv => qB h hv) (hx j x hj)⟩
theorem RdE.mono {H H' : Hp} (h : H.le H') : ∀ (ts : List Ty) (x : z8 ts) (f f' : Nat → Option Value), (∀ i v, f i = some v → f' i = some v) → RdE H ts x f → RdE H' ts x f'
 | [], _, _, _, _, _ => trivial
 | t :: [], x, f, f', hf, ⟨v, hv, hr⟩ => ⟨v, hf 0 v hv, RdT.mono h t x v hr⟩
 | t :: u :: r, x, f, f', hf, ⟨⟨v, hv, hr⟩, hs⟩ => ⟨⟨v, hf 0 v hv, RdT.mono h t x.1 v hr⟩, RdE.mono h (u :: r) x.2 _ _ (fun i v hv => hf (i + 1) v hv) hs⟩
end
theorem RdT.one {H : Hp} : ∀ {t : Ty} {x : El t} {v : Value}, RdT H t x v → v.oneCell' = true
 | .int _, _, _, hr => by rw [show _ = _ from hr]; rfl
 | .bool, _, _, hr => by rw [show _ = _ from hr]; rfl
 | .str, _, _, hr => by rw [show _ = _ from hr]; rfl
 | .sl _ _, _, _, hr => by
  obtain ⟨A, c, rfl, _⟩ := hr
  rfl
theorem Kw (g j : Nat) : (⟨g, 0, none⟩ : Addr).add j = ⟨g, j, none⟩ := by unfold Addr.add; split <;> simp_all
structure Gh where
 H : Hp
 g : Nat → Nat × Nat
 sv : Nat → Value
 sz : Nat → Nat × Nat
 pv : Hp
def RdR (H Ht : Hp) (ts : List Ty) (xs : List (z8 ts)) (v : Value) : Prop :=
 ∃ (A : Option Addr) (c : Nat), v = .slice A xs.length c ∧ xs.length ≤ c ∧ xs.length ≤ 9223372036854775807 ∧
  (0 < xs.length → ∃ ad, A = some ad ∧ ∀ (j : Nat) (x : z8 ts), xs[j]? = some x → RdE H ts x (fun i => y0X Ht (ad.add (j * ts.length + i))))
theorem RdR.mono {H H' Ht : Hp} (h : H.le H') {ts : List Ty} {xs : List (z8 ts)} {v : Value} (hr : RdR H Ht ts xs v) : RdR H' Ht ts xs v := by
 obtain ⟨A, c, e, h1, h2, h3⟩ := hr
 refine ⟨A, c, e, h1, h2, fun hp => ?_⟩
 obtain ⟨ad, ea, hx⟩ := h3 hp
 exact ⟨ad, ea, fun j x hj => RdE.mono h ts x _ _ (fun _ _ hv => hv) (hx j x hj)⟩
mutual
def RA (G : Gh) : A → Value → Prop
 | .dead, _ => True
 | .und, v => v = undef
 | .val t x, v => RdT G.H t x v
 | .nils, v => v = .slice none 0 0
 | .nilp, v => v = .pointer none
 | .own o, v => v = G.sv o ∧ ∃ A n c, v = .slice A n c
 | .agg l, v => ∃ cs : List Value, v = .agg cs.toArray ∧ RL G l cs
 | .tup l, v => ∃ cs : List Value, v = .tuple cs.toArray ∧ RL G l cs
 | .box b off, v => v = .pointer (some ⟨(G.g b).1, (G.g b).2 + off, none⟩)
 | .elp _ ts xs i c, v => ∃ ad : Addr, v = .pointer (some (ad.add (i.toNat * ts.length + c))) ∧ i.toNat < xs.length ∧ ∀ (j : Nat) (x : z8 ts), xs[j]? = some x → RdE G.H ts x (fun k => y0X G.H (ad.add (j * ts.length + k)))
 | .rtp o i c, v => v = .pointer (some ⟨(G.g o).1, i.toNat * (G.sz o).1 + c, none⟩) ∧ i.toNat < (G.sz o).2
 | .fn f, v => v = .func (.func f) #[] #[]
 | .clo f b, v => v = .func (.func f) #[] #[.pointer (some ⟨(G.g b).1, (G.g b).2 + 0, none⟩)]
 | .top _ ts xs, v => RdR G.H G.pv ts xs v
 | .win o h, v => ∃ A n c, G.sv o = .slice A n c ∧ v = .slice A (Int.toNat h) c ∧ Int.toNat h ≤ n
 | .tl o l, v => ∃ A n c, G.sv o = .slice A n c ∧ Int.toNat l ≤ n ∧ v = .slice (if c = Int.toNat l then A else A.map (·.add (Int.toNat l * (G.sz o).1))) (n - Int.toNat l) (c - Int.toNat l)
def RL (G : Gh) : List A → List Value → Prop
 | [], [] => True
 | a :: l, v :: vs => RA G a v ∧ RL G l vs
 | _, _ => False
end
theorem RL.length {G : Gh} : ∀ {l : List A} {vs : List Value}, RL G l vs → l.length = vs.length
 | [], [], _ => rfl
 | a :: l, v :: vs, h => by simp [RL.length h.2]
theorem RL.get {G : Gh} : ∀ {l : List A} {vs : List Value}, RL G l vs → ∀ (i : Nat) (a : A), l[i]? = some a → ∃ v, vs[i]? = some v ∧ RA G a v
 | a :: l, v :: vs, h, 0, b, hb => by
  have : a = b := by simpa using hb
  subst this
  exact ⟨v, rfl, h.1⟩
 | a :: l, v :: vs, h, i + 1, b, hb => by
  have hb' : l[i]? = some b := by simpa using hb
  obtain ⟨u, hu, hr⟩ := RL.get h.2 i b hb'
  exact ⟨u, by simpa using hu, hr⟩
theorem RL.of {G : Gh} : ∀ {l : List A} {vs : List Value}, l.length = vs.length → (∀ (i : Nat) (a : A) (v : Value), l[i]? = some a → vs[i]? = some v → RA G a v) → RL G l vs
 | [], [], _, _ => trivial
 | a :: l, v :: vs, hl, h => ⟨h 0 a v rfl rfl, RL.of (by simpa using hl) (fun i b u hb hu => h (i + 1) b u (by simpa using hb) (by simpa using hu))⟩
theorem RL.append {G : Gh} : ∀ {l : List A} {vs : List Value} {l' : List A} {vs' : List Value}, RL G l vs → RL G l' vs' → RL G (l ++ l') (vs ++ vs')
 | [], [], _, _, _, h => h
 | a :: l, v :: vs, _, _, h, h' => ⟨h.1, RL.append h.2 h'⟩
theorem RL.drop {G : Gh} : ∀ {l : List A} {vs : List Value} (n : Nat), RL G l vs → RL G (l.drop n) (vs.drop n)
 | _, _, 0, h => by simpa using h
 | [], [], n + 1, h => by simpa using h
 | a :: l, v :: vs, n + 1, h => by simpa using RL.drop n h.2
theorem RL.take {G : Gh} : ∀ {l : List A} {vs : List Value} (n : Nat), RL G l vs → RL G (l.take n) (vs.take n)
 | _, _, 0, h => by simp [RL]
 | [], [], n + 1, h => by simpa using h
 | a :: l, v :: vs, n + 1, h => by simpa [RL] using ⟨h.1, RL.take n h.2⟩
def RO (G : Gh) (w : World) (i : Nat) : Ob → Prop
 | .box cells => (G.g i).1 < w.heap.size ∧ ∀ (j : Nat) (a : A), cells[j]? = some a → w.frozen? ⟨(G.g i).1, (G.g i).2 + j, none⟩ = false ∧ ∃ v, w.cell? ⟨(G.g i).1, (G.g i).2 + j, none⟩ = some v ∧ v.oneCell' = true ∧ RA G a v
 | .root true e ts xs => G.sz i = (ts.length, xs.length) ∧ 0 < ts.length ∧ ∃ cells, w.ownsRow 0 e ts.length (G.sv i) xs.length cells ∧ (∀ u ∈ cells, u.oneCell' = true) ∧ (∀ k, (G.sv i).ownBlock = some k → k = (G.g i).1) ∧
   (∀ (j : Nat) (x : z8 ts), xs[j]? = some x → RdE G.H ts x (fun k => cells[j * ts.length + k]?))
 | .root false e ts xs => G.sz i = (ts.length, xs.length) ∧ 0 < ts.length ∧ RdT G.H (.sl e ts) xs (G.sv i) ∧ (0 < xs.length → ∃ cap, G.sv i = .slice (some ⟨(G.g i).1, 0, none⟩) xs.length cap)
 | .gone => True
def zR (G : Gh) (i : Nat) : Ob → Nat → Prop
 | .box _, k => (G.g i).1 = k
 | .root true _ _ _, k => (G.sv i).ownBlock = some k
 | .root false _ _ _, _ => False
 | .gone, _ => False
structure Base where
 H : Hp
 pin : Nat → Option (Nat × Nat)
 ok : ∀ i b, pin i = some b → 900 ≤ i ∧ i < 950
 pv : Hp
theorem Base.none (B : Base) {d : Nat} (h : d < 900 ∨ 950 ≤ d) : B.pin d = .none := by
 cases hp : B.pin d with
 | none => rfl
 | some b =>
  have := B.ok d b hp
  omega
structure Rel (P : Program) (w0 : World) (lent : Nat → Prop) (H0 : Base) (s : St) (a : Act) (w : World) (G : Gh) : Prop where
 os : w.os = w0.os
 tape : w.tape = w0.tape
 output : w.output = w0.output
 size : w0.heap.size ≤ w.heap.size
 old : ∀ k, k < w0.heap.size → ¬ lent k → w.heap[k]? = w0.heap[k]?
 inH : G.H.le (ZQ w)
 base : H0.H.le G.H
 pv : G.pv = H0.pv
 top : ∀ k ob, H0.pv k = some ob → k < w0.heap.size ∧ ¬ lent k ∧ w0.heap[k]? = some ob
 hnew : ∀ k ob, G.H k = some ob → H0.H k = some ob ∨ w0.heap.size ≤ k ∨ lent k
 defers : a.defers = []
 len : s.t.length ≤ a.tmps.size
 slots : ∀ (i : Nat) (x : A), s.t[i]? = some x → RA G x (a.tmps.getD i undef)
 objs : ∀ (i : Nat) (ob : Ob), z4 s.o i = some ob → RO G w i ob
 away : ∀ (i : Nat) (ob : Ob) (k : Nat), z4 s.o i = some ob → zR G i ob k → G.H k = none ∧ (w0.heap.size ≤ k ∨ lent k)
 apart : ∀ (i j : Nat) (oi oj : Ob) (k : Nat), z4 s.o i = some oi → z4 s.o j = some oj → zR G i oi k → zR G j oj k → i = j
 pin : ∀ (i : Nat) (ob : Ob) (b : Nat × Nat), z4 s.o i = some ob → H0.pin i = some b → G.g i = b
end Go.Proofs.YtgediecndaheiaaGreat.R
