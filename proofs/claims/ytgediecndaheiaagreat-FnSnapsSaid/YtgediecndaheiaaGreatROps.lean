/- Each operation that changes nothing but a slot does what the evaluator says. Conditions: the types lie as the context says. -/
import Derived.Test.YtgediecndaheiaaGreatRGen
import Derived.Laws.StructEq
import Derived.DataElems
set_option linter.all false
namespace Go.Proofs.YtgediecndaheiaaGreat.R
open Go.RowKit
def y0B : Ty → Value
 | .int k => .int k 0
 | .bool => .bool false
 | .str => .string ⟨#[]⟩
 | .sl _ _ => .slice none 0 0
def y85 (C : Ctx) (P : Program) : TI → TypeDesc → Prop
 | .c (.int k) _, d => d = .int k
 | .c .bool _, d => d = .bool
 | .c .str _, d => d = .string
 | .c (.sl e ts) _, d => d = .slice e ∧ ∃ te, C.info e = some te ∧ te.ts = ts
 | .s fs ts _, d => ∃ F : Array Field, d = .struct F ∧ F.size = fs.length ∧ ∀ (f : Nat) (off t : Nat), fs[f]? = some (off, t) → ∃ fl, F[f]? = some fl ∧ fl.offset = off ∧ fl.type = t ∧ ∃ ti, C.info t = some ti ∧ off + ti.ts.length ≤ ts.length
def qC (C : Ctx) : List (Nat × Nat) → List Field → List Ty → Nat → Prop
 | [], [], ts, _ => ts = []
 | (off, t) :: fs, f :: F, ts, n => off = n ∧ f.offset = n ∧ f.type = t ∧ ∃ ti ts', C.info t = some ti ∧ ts = ti.ts ++ ts' ∧ qC C fs F ts' (n + ti.ts.length)
 | _, _, _, _ => False
def TEq (C : Ctx) (P : Program) : Prop := ∀ t fs ts b, C.info t = some (.s fs ts b) → P.stoodInHeld t = false ∧ P.eqGuardType P.depth t = false ∧ ∀ f ∈ (P.fieldsOf t).toList, f.name ≠ "_"
structure TOk (C : Ctx) (P : Program) : Prop where
 info : ∀ t ti, C.info t = some ti → ∃ i z, P.info? t = some i ∧ i.size = ti.ts.length ∧ i.bytes = ti.bytes ∧ i.zero = some z ∧ z.cells.toList = ti.ts.map y0B ∧ 0 < ti.ts.length ∧ 0 < ti.bytes
 und : ∀ t ti, C.info t = some ti → ∃ d, P.underlying t = some d ∧ y85 C P ti d
 flds : ∀ t fs ts b, C.info t = some (.s fs ts b) → ∃ F, P.underlying t = some (.struct F) ∧ qC C fs F.toList ts 0
 eqs : TEq C P
variable {P : Program} {C : Ctx} {w0 : World} {lent : Nat → Prop} {H0 : Base} {s : St} {a : Act} {w : World} {G : Gh} {o : Oper} {K : Act → World → Prop} {Q : Exit → Act → World → Prop}
theorem jo {v : Value} {w' : World} (h : (execOp a.eval o).run P w = .ok (.value v) w') (hK : K (a.put o.dst v) w') : o.wp P a w K Q := by
 simp only [Oper.wp, h, Oper.upon]
 exact hK
theorem wp_skip {w' : World} (h : (execOp a.eval o).run P w = .ok .skip w') (hK : K (a.put o.dst undef) w') : o.wp P a w K Q := by
 simp only [Oper.wp, h, Oper.upon]
 exact hK
theorem y1n (hT : TOk C P) {t : Nat} {ti : TI} (ht : C.info t = some ti) (w : World) : (isAgg t).run P w = .ok ti.isAgg w := by
 obtain ⟨d, hd, h⟩ := hT.und t ti ht
 cases ti with
 | c ty b => cases ty <;> simp only [y85] at h <;> first | (subst h; simp [isAgg, run_underlying hd, TI.isAgg]) | (obtain ⟨rfl, _⟩ := h; simp [isAgg, run_underlying hd, TI.isAgg])
 | s fs ts b =>
  obtain ⟨F, rfl, _⟩ := h
  simp [isAgg, run_underlying hd, TI.isAgg]
theorem Vm (hT : TOk C P) {t : Nat} {ti : TI} (ht : C.info t = some ti) (w : World) : (sizeOf t).run P w = .ok ti.ts.length w := by
 obtain ⟨i, z, hi, hs, _⟩ := hT.info t ti ht
 simp [sizeOf, typeInfo, hi, hs]
theorem y6c {H : Hp} : ∀ (ts : List Ty) (x : z8 ts) (f : Nat → Option Value), RdE H ts x f → ∀ (i : Nat) (c : A), (qX ts x)[i]? = some c → ∃ v, f i = some v ∧ v.oneCell' = true ∧ ∀ G : Gh, G.H = H → RA G c v
 | [], _, _, _, i, c, hc => by simp [qX] at hc
 | t :: [], x, f, ⟨v, hv, hr⟩, i, c, hc => by
  cases i with
  | zero =>
   have : A.val t x = c := by simpa [qX] using hc
   subst this
   exact ⟨v, hv, hr.one, fun G hG => by rw [← hG] at hr; exact hr⟩
  | succ i => simp [qX] at hc
 | t :: u :: r, x, f, ⟨⟨v, hv, hr⟩, hs⟩, i, c, hc => by
  cases i with
  | zero =>
   have : A.val t x.1 = c := by simpa [qX] using hc
   subst this
   exact ⟨v, hv, hr.one, fun G hG => by rw [← hG] at hr; exact hr⟩
  | succ i => exact y6c (u :: r) x.2 _ hs i c (by simpa [qX] using hc)
theorem v5 : ∀ (ts : List Ty) (x : z8 ts), (qX ts x).length = ts.length
 | [], _ => rfl
 | t :: [], _ => rfl
 | t :: u :: r, x => by simp [qX, v5 (u :: r) x.2]
theorem y1o {G : Gh} : ∀ (l : List A) (f : Nat → Option Value), (∀ (i : Nat) (c : A), l[i]? = some c → ∃ v, f i = some v ∧ v.oneCell' = true ∧ RA G c v) → ∃ vs : List Value, vs.length = l.length ∧ (∀ j v, vs[j]? = some v → f j = some v) ∧ (∀ v ∈ vs, v.oneCell' = true) ∧ RL G l vs
 | [], f, _ => ⟨[], rfl, fun j v hv => by simp at hv, fun v hv => by simp at hv, trivial⟩
 | c :: l, f, h => by
  obtain ⟨v, hv, h1, hr⟩ := h 0 c rfl
  obtain ⟨vs, hl, hf, h1', hrl⟩ := y1o l (fun i => f (i + 1)) (fun i c hc => h (i + 1) c (by simpa using hc))
  refine ⟨v :: vs, by simp [hl], fun j u hu => ?_, fun u hu => ?_, hr, hrl⟩
  ·cases j with
   | zero =>
    have : v = u := by simpa using hu
    subst this
    exact hv
   | succ j => exact hf j u (by simpa using hu)
  ·rcases List.mem_cons.1 hu with rfl | hu
   ·exact h1
   ·exact h1' u hu
theorem y9G {G : Gh} {b : Bool} {l : List A} {x : A} {vs : List Value} (h : mkA b l = some x) (hr : RL G l vs) : RA G x (if b then .agg vs.toArray else vs.headD undef) := by
 cases b with
 | true =>
  have : A.agg l = x := by simpa [mkA] using h
  subst this
  exact ⟨vs, rfl, hr⟩
 | false =>
  cases l with
  | nil => simp [mkA] at h
  | cons c l =>
   cases l with
   | nil =>
    have : c = x := by simpa [mkA] using h
    subst this
    cases vs with
    | nil => exact hr.elim
    | cons v vs => exact hr.1
   | cons _ _ => simp [mkA] at h
theorem y3H {G : Gh} : ∀ {x : A} {v : Value}, x.one = true → RA G x v → v.oneCell' = true ∧ v.cells = #[v]
 | .val t x, v, _, h => by
  have h1 := RdT.one h
  cases v <;> simp_all [Value.oneCell', Value.cells]
 | .nils, v, _, h => by rw [show v = _ from h]; exact ⟨rfl, rfl⟩
 | .nilp, v, _, h => by rw [show v = _ from h]; exact ⟨rfl, rfl⟩
 | .box b off, v, _, h => by rw [show v = _ from h]; exact ⟨rfl, rfl⟩
 | .rtp o i c, v, _, h => by rw [show v = _ from h.1]; exact ⟨rfl, rfl⟩
 | .fn f, v, _, h => by rw [show v = _ from h]; exact ⟨rfl, rfl⟩
 | .clo f b, v, _, h => by rw [show v = _ from h]; exact ⟨rfl, rfl⟩
 | .elp e ts xs i c, v, _, h => by
  obtain ⟨ad, rfl, _⟩ := h
  exact ⟨rfl, rfl⟩
 | .own o, v, _, h => by
  obtain ⟨_, A, n, c, rfl⟩ := h
  exact ⟨rfl, rfl⟩
 | .win o q, v, _, h => by
  obtain ⟨A, n, c, _, rfl, _⟩ := h
  exact ⟨rfl, rfl⟩
 | .tl o q, v, _, h => by
  obtain ⟨A, n, c, _, _, rfl⟩ := h
  exact ⟨rfl, rfl⟩
 | .top e ts xs, v, _, h => by
  obtain ⟨A, c, rfl, _⟩ := h
  exact ⟨rfl, rfl⟩
 | .dead, _, h, _ | .und, _, h, _ | .agg _, _, h, _ | .tup _, _, h, _ => by simp [A.one] at h
theorem yfL (hT : TOk C P) {t : Nat} {ti : TI} (ht : C.info t = some ti) (ad : Addr) (vs : List Value) (hl : vs.length = ti.ts.length) (hc : ∀ j v, vs[j]? = some v → w.cell? (ad.add j) = some v) :
  (Instr.loadAt t (.pointer (some ad))).run P w = .ok (if ti.isAgg then .agg vs.toArray else vs.headD undef) w := by
 have h1 := run_loadCells_list (P := P) w ad vs hc
 rw [hl] at h1
 cases hb : ti.isAgg with
 | true => simp [Instr.loadAt, Instr.sureAddr, loadVar, y1n hT ht, Vm hT ht, hb, h1]
 | false =>
  have hlen : 0 < vs.length := by
   rw [hl]
   obtain ⟨_, _, _, _, _, _, _, h, _⟩ := hT.info t ti ht
   exact h
  cases vs with
  | nil => simp at hlen
  | cons v vs =>
   have hv := hc 0 v rfl
   rw [show ad.add 0 = ad from rfl] at hv
   simp [Instr.loadAt, Instr.sureAddr, loadVar, y1n hT ht, hb, run_load, hv]
def y4T (lk : Lk) (s : St) : Prop := ∀ i ob, lk i = some ob → z4 s.o i = some ob
theorem kD {a b : Nat} (h : Nat.ble a b = true) : a ≤ b := Nat.le_of_ble_eq_true h
theorem qD {α : Type} {l : List α} {c n i : Nat} {x : α} (h : ((l.drop c).take n)[i]? = some x) : l[c + i]? = some x ∧ i < n := by
 rw [List.getElem?_take] at h
 split at h
 ·exact ⟨by rw [List.getElem?_drop] at h; exact h, by assumption⟩
 ·cases h
theorem RdE.ext {H : Hp} : ∀ (ts : List Ty) (x : z8 ts) (f f' : Nat → Option Value), (∀ i v, i < ts.length → f i = some v → f' i = some v) → RdE H ts x f → RdE H ts x f'
 | [], _, _, _, _, _ => trivial
 | t :: [], x, f, f', hf, ⟨v, hv, hr⟩ => ⟨v, hf 0 v (by simp) hv, hr⟩
 | t :: u :: r, x, f, f', hf, ⟨⟨v, hv, hr⟩, hs⟩ => ⟨⟨v, hf 0 v (by simp) hv, hr⟩, RdE.ext (u :: r) x.2 _ _ (fun i v hi hv => hf (i + 1) v (by simpa using hi) hv) hs⟩
theorem qE (h : Rel P w0 lent H0 s a w G) {i e : Nat} {own : Bool} {ts : List Ty} {xs : List (z8 ts)} (hi : z4 s.o i = some (.root own e ts xs)) :
  G.sz i = (ts.length, xs.length) ∧ 0 < ts.length ∧ (∃ A c, G.sv i = .slice A xs.length c ∧ xs.length ≤ c ∧ xs.length ≤ 9223372036854775807 ∧ (0 < xs.length → A = some ⟨(G.g i).1, 0, none⟩)) ∧
  ∀ (j : Nat) (x : z8 ts), xs[j]? = some x → RdE G.H ts x (fun k => if k < ts.length then w.cell? ⟨(G.g i).1, j * ts.length + k, none⟩ else none) := by
 have hro := h.objs i _ hi
 cases own with
 | true =>
  obtain ⟨h1, h2, cells, hown, h3, h4, h5⟩ := hro
  refine ⟨h1, h2, ?_, fun j x hx => RdE.ext ts x _ _ (fun k v hk hv => ?_) (h5 j x hx)⟩
  ·rcases hown.2 with ⟨hv, hn⟩ | ⟨g, cap, cur, hv, _, hh, hc, hm, _⟩
   ·exact ⟨none, 0, by rw [hv, hn], by omega, by omega, fun hp => by omega⟩
   ·have hg : g = (G.g i).1 := h4 g (by simp [hv, Value.ownBlock])
    refine ⟨_, cap, hv, hc, ?_, fun _ => by rw [hg]⟩
    simp only [maxLen] at hm
    omega
  ·rw [if_pos hk]
   cases hb : (G.sv i).ownBlock with
   | none =>
    rcases hown.2 with ⟨hv2, hn⟩ | ⟨g, cap, cur, hv2, _⟩
    ·have : xs = [] := List.length_eq_zero_iff.1 hn
     simp [this] at hx
    ·simp [hv2, Value.ownBlock] at hb
   | some g =>
    have := hown.cells hb _ v hv
    rw [Kw, h4 g hb] at this
    exact this
 | false =>
  obtain ⟨h1, h2, ⟨A, c, e1, hc, hm, hr⟩, h4⟩ := hro
  refine ⟨h1, h2, ⟨A, c, e1, hc, hm, fun hp => ?_⟩, fun j x hx => ?_⟩
  ·obtain ⟨cap, e2⟩ := h4 hp
   rw [e1] at e2
   injection e2
  ·have hp : 0 < xs.length := by
    have := (List.getElem?_eq_some_iff.1 hx).1
    omega
   obtain ⟨cap, e2⟩ := h4 hp
   obtain ⟨ad, ea, hrd⟩ := hr hp
   have had : ad = ⟨(G.g i).1, 0, none⟩ := by
    rw [e1] at e2
    injection e2 with e3
    rw [ea] at e3
    injection e3
   refine RdE.ext ts x _ _ (fun k v hk hv => ?_) (hrd j x hx)
   rw [if_pos hk]
   rw [had, Kw] at hv
   exact qB h.inH hv
theorem y5n (hT : TOk C P) (h : Rel P w0 lent H0 s a w G) {lk : Lk} (hlk : y4T lk s) {t : Nat} {ti : TI} (ht : C.info t = some ti) {p x : A} (hx : y3G lk ti p = some x) {v : Value} (hv : RA G p v) :
  ∃ u, (Instr.loadAt t v).run P w = .ok u w ∧ RA G x u := by
 have main : ∀ (ad : Addr) (l : List A), v = .pointer (some ad) → l.length = ti.ts.length → mkA ti.isAgg l = some x → (∀ (i : Nat) (c : A), l[i]? = some c → ∃ v, w.cell? (ad.add i) = some v ∧ v.oneCell' = true ∧ RA G c v) → ∃ u, (Instr.loadAt t v).run P w = .ok u w ∧ RA G x u := by
  intro ad l hv hl hm hc
  obtain ⟨vs, h1, h2, h3, h4⟩ := y1o (G := G) l (fun i => w.cell? (ad.add i)) hc
  exact ⟨_, by rw [hv]; exact yfL hT ht ad vs (h1.trans hl) h2, y9G hm h4⟩
 cases p with
 | box b off =>
  simp only [y3G] at hx
  cases hb : lk b with
  | none => simp [hb] at hx
  | some ob =>
   cases ob with
   | box cs =>
    simp only [hb] at hx
    cases hle : Nat.ble (off + ti.ts.length) cs.length with
    | false => simp [hle] at hx
    | true =>
     simp only [hle, cond_true] at hx
     have hro := (h.objs b _ (hlk b _ hb)).2
     refine main _ _ hv (by have := kD hle; simp; omega) hx fun i c hc => ?_
     obtain ⟨hc', hi⟩ := qD hc
     obtain ⟨_, v, h1, h2, h3⟩ := hro (off + i) c hc'
     exact ⟨v, by rw [ybi, Nat.add_assoc]; exact h1, h2, h3⟩
   | _ => simp [hb] at hx
 | elp e ts xs i c =>
  simp only [y3G] at hx
  cases hle : Nat.ble (c + ti.ts.length) ts.length with
  | false => simp [hle] at hx
  | true =>
   simp only [hle, cond_true] at hx
   obtain ⟨ad, rfl, hlt, hr⟩ := hv
   have hg : xs[i.toNat]? = some (rdE ts xs i) := by simp [rdE, hlt]
   have hrd := hr i.toNat _ hg
   refine main _ _ rfl (by have := kD hle; simp [v5]; omega) hx fun j d hd => ?_
   obtain ⟨hd', hj⟩ := qD hd
   obtain ⟨v, h1, h2, h3⟩ := y6c ts _ _ hrd (c + j) d hd'
   refine ⟨v, ?_, h2, h3 G rfl⟩
   rw [Addr.add_add, Nat.add_assoc]
   exact qB h.inH h1
 | rtp o i c =>
  simp only [y3G] at hx
  cases hb : lk o with
  | none => simp [hb] at hx
  | some ob =>
   cases ob with
   | root own e ts xs =>
    simp only [hb] at hx
    cases hle : Nat.ble (c + ti.ts.length) ts.length with
    | false => simp [hle] at hx
    | true =>
     simp only [hle, cond_true] at hx
     obtain ⟨hsz, hpos, _, hr⟩ := qE h (hlk o _ hb)
     obtain ⟨rfl, hlt⟩ := hv
     rw [hsz] at hlt
     have hg : xs[i.toNat]? = some (rdE ts xs i) := by simp [rdE, show i.toNat < xs.length from hlt]
     have hrd := hr i.toNat _ hg
     refine main _ _ rfl (by have := kD hle; simp [v5]; omega) hx fun j d hd => ?_
     obtain ⟨hd', hj⟩ := qD hd
     obtain ⟨v, h1, h2, h3⟩ := y6c ts _ _ hrd (c + j) d hd'
     refine ⟨v, ?_, h2, h3 G rfl⟩
     have := kD hle
     rw [if_pos (by omega)] at h1
     rw [hsz, ybi, Nat.add_assoc]
     exact h1
   | _ => simp [hb] at hx
 | _ => simp [y3G] at hx
theorem ydJ (op : BinOp) (t : Nat) (X Y : Operand) (k l : IntKind) (n m : Int) : (eqGuard op t X Y (.int k n) (.int l m)).run P w = .ok () w := by cases op <;> simp [eqGuard]
theorem ycG (op : BinOp) (t : Nat) (X Y : Operand) (n m : Bool) : (eqGuard op t X Y (.bool n) (.bool m)).run P w = .ok () w := by cases op <;> simp [eqGuard]
theorem ydK (op : BinOp) (t : Nat) (X Y : Operand) (n m : ByteArray) : (eqGuard op t X Y (.string n) (.string m)).run P w = .ok () w := by cases op <;> simp [eqGuard]
theorem y9H {op : BinOp} {k : IntKind} {n m : Int} {z : A} (h : y3F op k n m = some z) (t : Nat) (h1 : op ≠ .shl) (h2 : op ≠ .shr) : ∃ r, (binOp op t (.int k n) (.int k m) : Sem Value).run P w = .ok r w ∧ RA G z r := by
 have hkk : ¬ (k ≠ k) := fun h => h rfl
 cases op with
 | shl => exact absurd rfl h1
 | shr => exact absurd rfl h2
 | andNot => simp [y3F] at h
 | quo =>
  by_cases hm : m = 0
  ·simp [y3F, hm] at h
  ·simp only [y3F, hm, if_false, Option.some.injEq] at h
   subst h
   refine ⟨.int k (k.wrap (n.tdiv m)), by simp [binOp, Op.intDiv, hm], rfl⟩
 | rem =>
  by_cases hm : m = 0
  ·simp [y3F, hm] at h
  ·simp only [y3F, hm, if_false, Option.some.injEq] at h
   subst h
   refine ⟨.int k (n.tmod m), by simp [binOp, Op.intDiv, hm], rfl⟩
 | _ =>
  simp only [y3F, Option.some.injEq] at h
  subst h
  simp only [binOp, if_neg hkk]
  exact ⟨_, rfl, rfl⟩
theorem y5o {op : BinOp} {k l : IntKind} {n m : Int} {z : A} (h : ylG op k n m = some z) (t : Nat) (h1 : op = .shl ∨ op = .shr) : ∃ r, (binOp op t (.int k n) (.int l m) : Sem Value).run P w = .ok r w ∧ RA G z r := by
 by_cases hm : m < 0
 ·simp [ylG, hm] at h
 ·rcases h1 with rfl | rfl <;> simp only [ylG, if_neg hm, Option.some.injEq] at h <;> subst h <;> simp only [binOp, Op.shift, if_neg hm] <;> exact ⟨_, rfl, rfl⟩
theorem y9I {op : BinOp} {x y : ByteArray} {z : A} (h : y69 op x y = some z) (t : Nat) : ∃ r, (binOp op t (.string x) (.string y) : Sem Value).run P w = .ok r w ∧ RA G z r := by
 cases op with
 | add =>
  by_cases hm : x.size + y.size < 140737488355328
  ·simp only [y69, if_pos hm, Option.some.injEq] at h
   subst h
   have : ¬ ((x.size + y.size : Nat) : Int) > IntKind.i64.max := by simp [IntKind.max, IntKind.bits, IntKind.signed]; omega
   simp only [binOp, Op.stringOp, if_neg this]
   exact ⟨_, rfl, rfl⟩
  ·simp [y69, hm] at h
 | eql | neq | lss | leq | gtr | geq =>
  simp only [y69, Option.some.injEq] at h
  subst h
  simp only [binOp, Op.stringOp]
  exact ⟨_, rfl, rfl⟩
 | _ => simp [y69] at h
theorem y5p {t : Nat} (ht : P.underlying t = some .bool) (x y : Bool) : (Op.equal t (.bool x) (.bool y)).run P w = .ok (x == y) w := by
 show (Op.equalIn (9999 + 1) t (.bool x) (.bool y)).run P w = _
 rw [Op.equalIn]
 simp only [Sem.run_bind, run_underlying ht, Result.andThen_ok]
 rfl
theorem y86 (hT : TOk C P) {t b : Nat} (ht : C.info t = some (.c .bool b)) {op : BinOp} {x y : Bool} {z : A} (h : y2x op x y = some z) : ∃ r, (binOp op t (.bool x) (.bool y) : Sem Value).run P w = .ok r w ∧ RA G z r := by
 obtain ⟨d, hd, hdd⟩ := hT.und t _ ht
 simp only [y85] at hdd
 subst hdd
 cases op with
 | eql =>
  simp only [y2x, Option.some.injEq] at h
  subst h
  exact ⟨.bool (x == y), by simp only [binOp, Sem.run_bind, y5p hd, Result.andThen_ok]; rfl, rfl⟩
 | neq =>
  simp only [y2x, Option.some.injEq] at h
  subst h
  exact ⟨.bool (!(x == y)), by simp only [binOp, Sem.run_bind, y5p hd, Result.andThen_ok]; rfl, rfl⟩
 | _ => simp [y2x] at h
theorem yja {op : BinOp} {k l : IntKind} {n m : Int} {z : A} (hz : y9y op (.val (.int k) n) (.val (.int l) m) = some z) (t : Nat) (X Y : Operand) : ∃ r, (do eqGuard op t X Y (.int k n) (.int l m); binOp op t (.int k n) (.int l m) : Sem Value).run P w = .ok r w ∧ RA G z r := by
 simp only [Sem.run_bind, ydJ, Result.andThen_ok]
 by_cases h1 : op = .shl ∨ op = .shr
 ·rcases h1 with rfl | rfl
  ·exact y5o (by simpa [y9y] using hz) t (.inl rfl)
  ·exact y5o (by simpa [y9y] using hz) t (.inr rfl)
 ·have h2 : (if k = l then y3F op k n m else none) = some z := by
   cases op <;> simp_all [y9y]
  by_cases hk : k = l
  ·subst hk
   rw [if_pos rfl] at h2
   exact y9H h2 t (fun e => h1 (.inl e)) (fun e => h1 (.inr e))
  ·rw [if_neg hk] at h2
   cases h2
theorem yfM (hT : TOk C P) {t b : Nat} (ht : C.info t = some (.c .bool b)) {op : BinOp} {x y : Bool} {z : A} (h : y2x op x y = some z) (X Y : Operand) : ∃ r, (do eqGuard op t X Y (.bool x) (.bool y); binOp op t (.bool x) (.bool y) : Sem Value).run P w = .ok r w ∧ RA G z r := by
 simp only [Sem.run_bind, ycG, Result.andThen_ok]
 exact y86 hT ht h
theorem yjb {op : BinOp} {x y : ByteArray} {z : A} (h : y69 op x y = some z) (t : Nat) (X Y : Operand) : ∃ r, (do eqGuard op t X Y (.string x) (.string y); binOp op t (.string x) (.string y) : Sem Value).run P w = .ok r w ∧ RA G z r := by
 simp only [Sem.run_bind, ydK, Result.andThen_ok]
 exact y9I h t
theorem ydL (hT : TOk C P) {t : Nat} {ti : TI} (ht : C.info t = some ti) {op : BinOp} {x y z : A} {v u : Value} (hz : y9y op x y = some z) (hb : y82 ti x = true) (hx : RA G x v) (hy : RA G y u) (X Y : Operand) :
  ∃ r, (do eqGuard op t X Y v u; binOp op t v u : Sem Value).run P w = .ok r w ∧ RA G z r := by
 cases x with
 | val tx xv =>
  cases y with
  | val ty yv =>
   cases tx with
   | int k =>
    cases ty with
    | int l =>
     rw [show v = .int k xv from hx, show u = .int l yv from hy]
     exact yja (n := xv) (m := yv) hz t X Y
    | _ => simp [y9y] at hz
   | bool =>
    cases ty with
    | bool =>
     rw [show v = .bool xv from hx, show u = .bool yv from hy]
     cases ti with
     | c tt b =>
      cases tt with
      | bool => exact yfM (x := xv) (y := yv) hT ht hz X Y
      | _ => simp [y82] at hb
     | s _ _ _ => simp [y82] at hb
    | _ => simp [y9y] at hz
   | str =>
    cases ty with
    | str =>
     rw [show v = .string xv from hx, show u = .string yv from hy]
     exact yjb (x := xv) (y := yv) hz t X Y
    | _ => simp [y9y] at hz
   | sl e ts => simp [y9y] at hz
  | _ => cases tx <;> simp [y9y] at hz
 | _ => simp [y9y] at hz
theorem yfN {op : UnOp} {x z : A} {v : Value} (hz : unA op x = some z) (hx : RA G x v) : ∃ r, (Op.unary op v).run P w = .ok r w ∧ RA G z r := by
 cases x with
 | val tx xv =>
  cases tx with
  | bool =>
   rw [show v = .bool xv from hx]
   cases op <;> simp only [unA, Option.some.injEq, reduceCtorEq] at hz
   subst hz
   exact ⟨_, rfl, rfl⟩
  | int k =>
   rw [show v = .int k xv from hx]
   cases op <;> simp only [unA, Option.some.injEq, reduceCtorEq] at hz
   subst hz
   exact ⟨_, rfl, rfl⟩
  | _ => simp [unA] at hz
 | _ => simp [unA] at hz
end Go.Proofs.YtgediecndaheiaaGreat.R
