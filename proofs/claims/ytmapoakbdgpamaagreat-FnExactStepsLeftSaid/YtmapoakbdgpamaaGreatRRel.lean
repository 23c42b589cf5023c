/- How the evaluator's plain values lie in memory. No condition. -/
import Derived.Test.YtmapoakbdgpamaaGreatRCore
set_option linter.all false
namespace Go.Proofs.YtmapoakbdgpamaaGreat.R
open Go.RowKit
abbrev Hp := Nat → Option Obj
def Hp.le (H H' : Hp) : Prop := ∀ k o, H k = some o → H' k = some o
theorem Hp.le.refl (H : Hp) : H.le H := fun _ _ h => h
theorem Hp.le.trans {H H' H'' : Hp} (h : H.le H') (h' : H'.le H'') : H.le H'' := fun k o hk => h' k o (h k o hk)
def Z7 (w : World) : Hp := fun k => w.heap[k]?
def y0D (H : Hp) (a : Addr) : Option Value := match H a.block with
 | some (.cells c _ _) => if a.spot.isSome then none else c[a.off]?
 | _ => none
theorem ybp (w : World) (a : Addr) : y0D (Z7 w) a = w.cell? a := rfl
theorem QB {H H' : Hp} (h : H.le H') {a : Addr} {v : Value} (hc : y0D H a = some v) : y0D H' a = some v := by
 unfold y0D at *
 cases hk : H a.block with
 | none => simp [hk] at hc
 | some o =>
  rw [h _ _ hk]
  rw [hk] at hc
  exact hc
mutual
def RdT (H : Hp) : (t : Ty) → El t → Value → Prop
 | .int k, n, v => v = .int k n
 | .bool, b, v => v = .bool b
 | .str, s, v => v = .string s
 | .sl _ ts, xs, v => ∃ (A : Option Addr) (c : Nat), v = .slice A (List.length xs) c ∧ List.length xs ≤ c ∧ List.length xs ≤ 9223372036854775807 ∧
   (0 < List.length xs → ∃ ad, A = some ad ∧ ∀ (j : Nat) (x : yB ts), (show List (yB ts) from xs)[j]? = some x → RdE H ts x (fun i => y0D H (ad.add (j * ts.length + i))))
def RdE (H : Hp) : (ts : List Ty) → yB ts → (Nat → Option Value) → Prop
 | [], _, _ => True
 | t :: [], x, f => ∃ v, f 0 = some v ∧ RdT H t x v
 | t :: u :: r, x, f => (∃ v, f 0 = some v ∧ RdT H t x.1 v) ∧ RdE H (u :: r) x.2 (fun i => f (i + 1))
end
mutual
theorem RdT.mono {H H' : Hp} (h : H.le H') : ∀ (t : Ty) (x : El t) (v : Value), RdT H t x v → RdT H' t x v
 | .int _, _, _, hr => hr
 | .bool, _, _, hr => hr
 | .str, _, _, hr => hr
 | .sl _ ts, xs, v, hr => by
  obtain ⟨A, c, e, h1, h2, h3⟩ := hr
  refine ⟨A, c, e, h1, h2, fun hp => ?_⟩
  obtain ⟨ad, ea, hx⟩ := h3 hp
  exact ⟨ad, ea, fun j x hj => RdE.mono h ts x _ _ (fun i v hv => QB h hv) (hx j x hj)⟩
theorem RdE.mono {H H' : Hp} (h : H.le H') : ∀ (ts : List Ty) (x : yB ts) (f f' : Nat → Option Value), (∀ i v, f i = some v → f' i = some v) → RdE H ts x f → RdE H' ts x f'
 | [], _, _, _, _, _ => trivial
 | t :: [], x, f, f', hf, ⟨v, hv, hr⟩ => ⟨v, hf 0 v hv, RdT.mono h t x v hr⟩
 | t :: u :: r, x, f, f', hf, ⟨⟨v, hv, hr⟩, hs⟩ => ⟨⟨v, hf 0 v hv, RdT.mono h t x.1 v hr⟩, RdE.mono h (u :: r) x.2 _ _ (fun i v hv => hf (i + 1) v hv) hs⟩
end
theorem RdT.one {H : Hp} : ∀ {t : Ty} {x : El t} {v : Value}, RdT H t x v → v.oneCell' = true
 | .int _, _, _, hr => by rw [show _ = _ from hr]; rfl
 | .bool, _, _, hr => by rw [show _ = _ from hr]; rfl
 | .str, _, _, hr => by rw [show _ = _ from hr]; rfl
 | .sl _ _, _, _, hr => by
  obtain ⟨A, c, rfl, _⟩ := hr
  rfl
mutual
def DpT (w : World) : (t : Ty) → (Nat → Prop) → El t → Value → Prop
 | .int k, _, n, v => v = .int k n
 | .bool, _, b, v => v = .bool b
 | .str, _, s, v => v = .string s
 | .sl e ts, B, xs, v => 0 < ts.length ∧ ∃ (cells : List Value) (Bs : Nat → Nat → Prop), w.ownsRow 0 e ts.length v (List.length xs) cells ∧ (∀ u ∈ cells, u.oneCell' = true) ∧ (∀ k, v.ownBlock = some k → B k) ∧
   (∀ a k, Bs a k → B k ∧ v.ownBlock ≠ some k) ∧ (∀ a b k, Bs a k → Bs b k → a = b) ∧
   ∀ (j : Nat) (x : yB ts), (show List (yB ts) from xs)[j]? = some x → DpE w ts (fun c => Bs (j * ts.length + c)) x (fun c => cells[j * ts.length + c]?)
def DpE (w : World) : (ts : List Ty) → (Nat → Nat → Prop) → yB ts → (Nat → Option Value) → Prop
 | [], _, _, _ => True
 | t :: [], Bs, x, f => ∃ v, f 0 = some v ∧ DpT w t (Bs 0) x v
 | t :: u :: r, Bs, x, f => (∃ v, f 0 = some v ∧ DpT w t (Bs 0) x.1 v) ∧ DpE w (u :: r) (fun i => Bs (i + 1)) x.2 (fun i => f (i + 1))
end
structure DpR (w : World) (B : Nat → Prop) (e : Nat) (ts : List Ty) (xs : List (yB ts)) (v : Value) (cells : List Value) (Bs : Nat → Nat → Prop) : Prop where
 pos : 0 < ts.length
 row : w.ownsRow 0 e ts.length v xs.length cells
 one : ∀ u ∈ cells, u.oneCell' = true
 top : ∀ k, v.ownBlock = some k → B k
 sub : ∀ a k, Bs a k → B k ∧ v.ownBlock ≠ some k
 dis : ∀ a b k, Bs a k → Bs b k → a = b
 rd : ∀ (j : Nat) (x : yB ts), xs[j]? = some x → DpE w ts (fun c => Bs (j * ts.length + c)) x (fun c => cells[j * ts.length + c]?)
theorem DpT.row {w : World} {e : Nat} {ts : List Ty} {B : Nat → Prop} {xs : List (yB ts)} {v : Value} : DpT w (.sl e ts) B xs v ↔ ∃ cells Bs, DpR w B e ts xs v cells Bs :=
 ⟨fun ⟨h0, cells, Bs, h1, h2, h3, h4, h5, h6⟩ => ⟨cells, Bs, h0, h1, h2, h3, h4, h5, h6⟩, fun ⟨cells, Bs, h⟩ => ⟨h.pos, cells, Bs, h.row, h.one, h.top, h.sub, h.dis, h.rd⟩⟩
mutual
theorem DpT.frame {w w' : World} : ∀ (t : Ty) (B B' : Nat → Prop) (x : El t) (v : Value), (∀ k, B k → w'.heap[k]? = w.heap[k]?) → (∀ k, B k → B' k) → DpT w t B x v → DpT w' t B' x v
 | .int _, _, _, _, _, _, _, h => h
 | .bool, _, _, _, _, _, _, h => h
 | .str, _, _, _, _, _, _, h => h
 | .sl e ts, B, B', xs, v, hf, hs, ⟨h0, cells, Bs, h1, h2, h3, h4, h5, h6⟩ => by
  refine ⟨h0, cells, Bs, ⟨h1.1, ?_⟩, h2, fun k hk => hs k (h3 k hk), fun a k hk => ⟨hs k (h4 a k hk).1, (h4 a k hk).2⟩, h5, fun j x hx => DpE.frame ts _ _ x _ _ (fun c k hk => hf k (h4 _ k hk).1) (fun _ _ hk => hk) (fun _ _ hv => hv) (h6 j x hx)⟩
  rcases h1.2 with h | ⟨g, cap, cur, hv, hb, hg, r⟩
  ·exact .inl h
  ·exact .inr ⟨g, cap, cur, hv, hb, (hf g (h3 g (by rw [hv]; rfl))).trans hg, r⟩
theorem DpE.frame {w w' : World} : ∀ (ts : List Ty) (Bs Bs' : Nat → Nat → Prop) (x : yB ts) (f f' : Nat → Option Value), (∀ c k, Bs c k → w'.heap[k]? = w.heap[k]?) → (∀ c k, Bs c k → Bs' c k) → (∀ i v, f i = some v → f' i = some v) → DpE w ts Bs x f → DpE w' ts Bs' x f'
 | [], _, _, _, _, _, _, _, _, _ => trivial
 | t :: [], Bs, Bs', x, f, f', hf, hs, hv, ⟨v, h1, h2⟩ => ⟨v, hv 0 v h1, DpT.frame t _ _ x v (hf 0) (hs 0) h2⟩
 | t :: u :: r, Bs, Bs', x, f, f', hf, hs, hv, ⟨⟨v, h1, h2⟩, h3⟩ => ⟨⟨v, hv 0 v h1, DpT.frame t _ _ x.1 v (hf 0) (hs 0) h2⟩, DpE.frame (u :: r) _ _ x.2 _ _ (fun c => hf (c + 1)) (fun c => hs (c + 1)) (fun i v h => hv (i + 1) v h) h3⟩
end
theorem DpR.frame {w w' : World} {B B' : Nat → Prop} {e : Nat} {ts : List Ty} {xs : List (yB ts)} {v : Value} {cells : List Value} {Bs : Nat → Nat → Prop} (h : DpR w B e ts xs v cells Bs) (hf : ∀ k, B k → w'.heap[k]? = w.heap[k]?) (hs : ∀ k, B k → B' k) : DpR w' B' e ts xs v cells Bs := by
 refine ⟨h.pos, ⟨h.row.1, ?_⟩, h.one, fun k hk => hs k (h.top k hk), fun a k hk => ⟨hs k (h.sub a k hk).1, (h.sub a k hk).2⟩, h.dis, fun j x hx => DpE.frame ts _ _ x _ _ (fun c k hk => hf k (h.sub _ k hk).1) (fun _ _ hk => hk) (fun _ _ hv => hv) (h.rd j x hx)⟩
 rcases h.row.2 with h1 | ⟨g, cap, cur, hv, hb, hg, r⟩
 ·exact .inl h1
 ·exact .inr ⟨g, cap, cur, hv, hb, (hf g (h.top g (by rw [hv]; rfl))).trans hg, r⟩
theorem Jl (g j : Nat) : (⟨g, 0, none⟩ : Addr).add j = ⟨g, j, none⟩ := by unfold Addr.add; split <;> simp_all
mutual
theorem DpT.rd {w : World} {H : Hp} : ∀ (t : Ty) (B : Nat → Prop) (x : El t) (v : Value), (∀ k, B k → H k = w.heap[k]?) → DpT w t B x v → RdT H t x v
 | .int _, _, _, _, _, h => h
 | .bool, _, _, _, _, h => h
 | .str, _, _, _, _, h => h
 | .sl e ts, B, xs, v, hf, ⟨h0, cells, Bs, h1, h2, h3, h4, h5, h6⟩ => by
  rcases h1.2 with ⟨hv, hn⟩ | ⟨g, cap, cur, hv, hb, hg, hle, hm, hs, htk⟩
  ·exact ⟨none, 0, by rw [hv, hn], Nat.le_of_eq hn, by rw [hn]; omega, fun hp => by omega⟩
  ·refine ⟨some ⟨g, 0, none⟩, cap, hv, hle, Nat.le_trans hle (Nat.le_trans hm (by decide)), fun _ => ⟨_, rfl, fun j x hx => DpE.rd ts _ x _ _ (fun c k hk => hf k (h4 _ k hk).1) (fun i u hu => ?_) (h6 j x hx)⟩⟩
   have hu' : cells[j * ts.length + i]? = some u := hu
   rw [Jl]
   unfold y0D
   have hk : H g = some (.cells cur e (0, 0)) := (hf g (h3 g (by rw [hv]; rfl))).trans hg
   simp only [hk]
   rw [← htk, List.getElem?_take] at hu'
   split at hu'
   ·simpa using hu'
   ·cases hu'
theorem DpE.rd {w : World} {H : Hp} : ∀ (ts : List Ty) (Bs : Nat → Nat → Prop) (x : yB ts) (f f' : Nat → Option Value), (∀ c k, Bs c k → H k = w.heap[k]?) → (∀ i v, f i = some v → f' i = some v) → DpE w ts Bs x f → RdE H ts x f'
 | [], _, _, _, _, _, _, _ => trivial
 | t :: [], Bs, x, f, f', hf, hv, ⟨v, h1, h2⟩ => ⟨v, hv 0 v h1, DpT.rd t _ x v (hf 0) h2⟩
 | t :: u :: r, Bs, x, f, f', hf, hv, ⟨⟨v, h1, h2⟩, h3⟩ => ⟨⟨v, hv 0 v h1, DpT.rd t _ x.1 v (hf 0) h2⟩, DpE.rd (u :: r) _ x.2 _ _ (fun c => hf (c + 1)) (fun i v h => hv (i + 1) v h) h3⟩
end
structure Gh where
 H : Hp
 g : Nat → Nat × Nat
 sv : Nat → Value
 sz : Nat → Nat × Nat
 dp : Nat → Nat → Prop
 hd : Nat → Nat → Value
 pv : Nat → Value
mutual
def RA (G : Gh) : A → Value → Prop
 | .dead, _ => True
 | .und, v => v = undef
 | .val t x, v => RdT G.H t x v
 | .nils, v => v = .slice none 0 0
 | .nilp, v => v = .pointer none
 | .own o, v => v = G.sv o ∧ ∃ A n c, v = .slice A n c
 | .agg l, v => ∃ cs : List Value, v = .agg cs.toArray ∧ RL G l cs
 | .tup l, v => ∃ cs : List Value, v = .tuple cs.toArray ∧ RL G l cs
 | .box b off, v => v = .pointer (some ⟨(G.g b).1, (G.g b).2 + off, none⟩)
 | .elp _ ts xs i c, v => ∃ ad : Addr, v = .pointer (some (ad.add (i.toNat * ts.length + c))) ∧ i.toNat < xs.length ∧ ∀ (j : Nat) (x : yB ts), xs[j]? = some x → RdE G.H ts x (fun k => y0D G.H (ad.add (j * ts.length + k)))
 | .rtp o i c, v => v = .pointer (some ⟨(G.g o).1, i.toNat * (G.sz o).1 + c, none⟩) ∧ i.toNat < (G.sz o).2
 | .fn f, v => v = .func (.func f) #[] #[]
 | .clo f b, v => v = .func (.func f) #[] #[.pointer (some ⟨(G.g b).1, (G.g b).2 + 0, none⟩)]
 | .win o h, v => ∃ A n c, G.sv o = .slice A n c ∧ v = .slice A (Int.toNat h) c ∧ Int.toNat h ≤ n
 | .bor o i c, v => (v = G.hd o (i.toNat * (G.sz o).1 + c) ∧ i.toNat < (G.sz o).2) ∧ ∃ A n m, v = .slice A n m
def RL (G : Gh) : List A → List Value → Prop
 | [], [] => True
 | a :: l, v :: vs => RA G a v ∧ RL G l vs
 | _, _ => False
end
theorem RL.length {G : Gh} : ∀ {l : List A} {vs : List Value}, RL G l vs → l.length = vs.length
 | [], [], _ => rfl
 | a :: l, v :: vs, h => by simp [RL.length h.2]
theorem RL.get {G : Gh} : ∀ {l : List A} {vs : List Value}, RL G l vs → ∀ (i : Nat) (a : A), l[i]? = some a → ∃ v, vs[i]? = some v ∧ RA G a v
 | a :: l, v :: vs, h, 0, b, hb => by
  have : a = b := by simpa using hb
  subst this
  exact ⟨v, rfl, h.1⟩
 | a :: l, v :: vs, h, i + 1, b, hb => by
  have hb' : l[i]? = some b := by simpa using hb
  obtain ⟨u, hu, hr⟩ := RL.get h.2 i b hb'
  exact ⟨u, by simpa using hu, hr⟩
theorem RL.of {G : Gh} : ∀ {l : List A} {vs : List Value}, l.length = vs.length → (∀ (i : Nat) (a : A) (v : Value), l[i]? = some a → vs[i]? = some v → RA G a v) → RL G l vs
 | [], [], _, _ => trivial
 | a :: l, v :: vs, hl, h => ⟨h 0 a v rfl rfl, RL.of (by simpa using hl) (fun i b u hb hu => h (i + 1) b u (by simpa using hb) (by simpa using hu))⟩
theorem RL.append {G : Gh} : ∀ {l : List A} {vs : List Value} {l' : List A} {vs' : List Value}, RL G l vs → RL G l' vs' → RL G (l ++ l') (vs ++ vs')
 | [], [], _, _, _, h => h
 | a :: l, v :: vs, _, _, h, h' => ⟨h.1, RL.append h.2 h'⟩
theorem RL.drop {G : Gh} : ∀ {l : List A} {vs : List Value} (n : Nat), RL G l vs → RL G (l.drop n) (vs.drop n)
 | _, _, 0, h => by simpa using h
 | [], [], n + 1, h => by simpa using h
 | a :: l, v :: vs, n + 1, h => by simpa using RL.drop n h.2
theorem RL.take {G : Gh} : ∀ {l : List A} {vs : List Value} (n : Nat), RL G l vs → RL G (l.take n) (vs.take n)
 | _, _, 0, h => by simp [RL]
 | [], [], n + 1, h => by simpa using h
 | a :: l, v :: vs, n + 1, h => by simpa [RL] using ⟨h.1, RL.take n h.2⟩
def RO (G : Gh) (w : World) (i : Nat) : Ob → Prop
 | .box cells => (G.g i).1 < w.heap.size ∧ ∀ (j : Nat) (a : A), cells[j]? = some a → w.frozen? ⟨(G.g i).1, (G.g i).2 + j, none⟩ = false ∧ ∃ v, w.cell? ⟨(G.g i).1, (G.g i).2 + j, none⟩ = some v ∧ v.oneCell' = true ∧ RA G a v
 | .root true e ts xs => G.sz i = (ts.length, xs.length) ∧ 0 < ts.length ∧ ∃ cells, w.ownsRow 0 e ts.length (G.sv i) xs.length cells ∧ (∀ u ∈ cells, u.oneCell' = true) ∧ (∀ k, (G.sv i).ownBlock = some k → k = (G.g i).1) ∧
   (∀ (j : Nat) (x : yB ts), xs[j]? = some x → RdE G.H ts x (fun k => cells[j * ts.length + k]?))
 | .root false e ts xs => G.sz i = (ts.length, xs.length) ∧ 0 < ts.length ∧ RdT G.H (.sl e ts) xs (G.sv i) ∧ (0 < xs.length → ∃ cap, G.sv i = .slice (some ⟨(G.g i).1, 0, none⟩) xs.length cap)
 | .deep fin tag e ts xs => G.sz i = (ts.length, xs.length) ∧ (∀ k, G.dp i k → k < w.heap.size) ∧ (0 < tag → G.sv i = G.pv (tag - 1)) ∧ (∀ k, (G.sv i).ownBlock = some k → k = (G.g i).1) ∧
   ∃ cells Bs, DpR w (G.dp i) e ts xs (G.sv i) cells Bs ∧ (fin = true → ∀ (m : Nat) (A : Option Addr) (n c : Nat), cells[m]? = some (.slice A n c) → G.hd i m = .slice A n c)
 | .gone => True
def yL (G : Gh) (i : Nat) : Ob → Nat → Prop
 | .box _, k => (G.g i).1 = k
 | .root true _ _ _, k => (G.sv i).ownBlock = some k
 | .root false _ _ _, _ => False
 | .deep _ _ _ _ _, k => G.dp i k
 | .gone, _ => False
structure Base where
 H : Hp
 pin : Nat → Option (Nat × Nat)
 ok : ∀ i b, pin i = some b → 900 ≤ i ∧ i < 950
 pv : Nat → Value
theorem Base.none (B : Base) {d : Nat} (h : d < 900 ∨ 950 ≤ d) : B.pin d = .none := by
 cases hp : B.pin d with
 | none => rfl
 | some b =>
  have := B.ok d b hp
  omega
structure Rel (P : Program) (w0 : World) (lent : Nat → Prop) (H0 : Base) (s : St) (a : Act) (w : World) (G : Gh) : Prop where
 os : w.os = w0.os
 tape : w.tape = w0.tape
 output : w.output = w0.output
 size : w0.heap.size ≤ w.heap.size
 old : ∀ k, k < w0.heap.size → ¬ lent k → w.heap[k]? = w0.heap[k]?
 inH : G.H.le (Z7 w)
 base : H0.H.le G.H
 pv : G.pv = H0.pv
 hnew : ∀ k ob, G.H k = some ob → H0.H k = some ob ∨ w0.heap.size ≤ k ∨ lent k
 defers : a.defers = []
 len : s.t.length ≤ a.tmps.size
 slots : ∀ (i : Nat) (x : A), s.t[i]? = some x → RA G x (a.tmps.getD i undef)
 objs : ∀ (i : Nat) (ob : Ob), yq s.o i = some ob → RO G w i ob
 away : ∀ (i : Nat) (ob : Ob) (k : Nat), yq s.o i = some ob → yL G i ob k → G.H k = none ∧ (w0.heap.size ≤ k ∨ lent k)
 apart : ∀ (i j : Nat) (oi oj : Ob) (k : Nat), yq s.o i = some oi → yq s.o j = some oj → yL G i oi k → yL G j oj k → i = j
 pin : ∀ (i : Nat) (ob : Ob) (b : Nat × Nat), yq s.o i = some ob → H0.pin i = some b → G.g i = b
end Go.Proofs.YtmapoakbdgpamaaGreat.R
