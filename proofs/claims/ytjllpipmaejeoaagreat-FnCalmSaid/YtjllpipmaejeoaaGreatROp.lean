/- One operation does what the evaluator says. Conditions: the types lie as the context says; calls do what the evaluator says. -/
import Derived.Test.YtjllpipmaejeoaaGreatRStore
import Derived.Test.YtjllpipmaejeoaaGreatREq
set_option linter.all false
namespace Go.Proofs.YtjllpipmaejeoaaGreat.R
open Go.RowKit
variable {P : Program} {C : Ctx} {w0 : World} {lent : Nat → Prop} {H0 : Base} {s : St} {a : Act} {w : World} {G : Gh} {o : Oper} {K : Act → World → Prop} {Q : Exit → Act → World → Prop} {R : Type} {k : Eff → Option R} {r : R} {lk : Lk} {call : C.Sem} {ct wn : Bool}
def Out (o : Oper) : Prop := ∀ d, o.dst = some d → d < 900 ∨ 950 ≤ d
def y3b (P : Program) (w0 : World) (lent : Nat → Prop) (H0 : Base) (s : St) (o : Oper) (k : Eff → Option R) (r : R) (K : Act → World → Prop) : Prop :=
 ∀ e a1 w1 G1, k e = some r → Rel P w0 lent H0 (s.apply o.dst e) a1 w1 G1 → K a1 w1
theorem Wr (h : Rel P w0 lent H0 s a w G) (hK : y3b P w0 lent H0 s o k r K) {x : A} {v : Value} (hk : k ⟨[], [], x⟩ = some r) (hrun : (execOp a.eval o).run P w = .ok (.value v) w) (hx : RA G x v) : o.wp P a w K Q :=
 jm hrun (hK _ _ _ G hk (h.put o.dst hx))
theorem yf9 (h : Rel P w0 lent H0 s a w G) (hK : y3b P w0 lent H0 s o k r K) {x : Operand} (hop : o.op = .move x ∨ o.op = .assign x) (he : jA C call ct wn o s.opd lk k = some r) : o.wp P a w K Q := by
 rcases hop with hop | hop <;> simp only [jA, hop] at he <;> exact Wr h hK he (by simp only [execOp, hop]; rfl) (h.opd x)
theorem yb8 (h : Rel P w0 lent H0 s a w G) (hK : y3b P w0 lent H0 s o k r K) {fn : Fn} {first captured : Array Operand} (hop : o.op = .makeFunc fn first captured) (he : jA C call ct wn o s.opd lk k = some r) : o.wp P a w K Q := by
 simp only [jA, hop] at he
 cases fn with
 | func f =>
  simp only at he
  cases hfi : first.toList with
  | cons _ _ => simp [hfi] at he
  | nil =>
   have hfa : first = #[] := by simpa using congrArg List.toArray hfi
   cases hca : captured.toList with
   | nil =>
    have hcc : captured = #[] := by simpa using congrArg List.toArray hca
    simp only [hfi, hca] at he
    exact Wr h hK he (v := .func (.func f) #[] #[]) (by simp [execOp, hop, hfa, hcc, Instr.makeFunc]) rfl
   | cons x l =>
    cases l with
    | cons _ _ => simp [hfi, hca] at he
    | nil =>
     have hcc : captured = #[x] := by simpa using congrArg List.toArray hca
     simp only [hfi, hca] at he
     have hx := h.opd x
     cases hxa : s.opd x with
     | box b off =>
      rw [hxa] at hx he
      simp only at he
      cases hb : Nat.beq off 0 with
      | false => simp [hb] at he
      | true =>
       simp only [hb, cond_true] at he
       have := Nat.eq_of_beq_eq_true hb
       subst this
       refine Wr h hK he (v := .func (.func f) #[] #[a.eval x]) (by simp [execOp, hop, hfa, hcc, Instr.makeFunc]) ?_
       rw [show a.eval x = _ from hx]
       rfl
     | _ => simp [hxa] at he
 | _ => simp at he
theorem ykv (hT : TOk C P) (h : Rel P w0 lent H0 s a w G) (hK : y3b P w0 lent H0 s o k r K) (hlk : y5D lk s) {t : Nat} {x : Operand} (hop : o.op = .load t x) (he : jA C call ct wn o s.opd lk k = some r) : o.wp P a w K Q := by
 simp only [jA, hop] at he
 cases ht : C.info t with
 | none => simp [ht] at he
 | some ti =>
  simp only [ht] at he
  cases hl : y4j lk ti (s.opd x) with
  | none => simp [hl] at he
  | some y =>
   simp only [hl] at he
   obtain ⟨u, hu, hr⟩ := y63 hT h hlk ht hl (h.opd x)
   exact Wr h hK he (by simp [execOp, hop, hu]) hr
theorem yb9 (h : Rel P w0 lent H0 s a w G) (hK : y3b P w0 lent H0 s o k r K) {x : Operand} (hop : o.op = .nilCheck x) (he : jA C call ct wn o s.opd lk k = some r) : o.wp P a w K Q := by
 have hx := h.opd x
 simp only [jA, hop] at he
 cases hxa : s.opd x with
 | box b off =>
  rw [hxa] at hx he
  exact Wr h hK he (v := a.eval x) (by simp only [execOp, hop]; rw [show a.eval x = _ from hx]; rfl) hx
 | rtp b i c =>
  rw [hxa] at hx he
  exact Wr h hK he (v := a.eval x) (by simp only [execOp, hop]; rw [show a.eval x = _ from hx.1]; rfl) hx
 | elp e ts xs i c =>
  rw [hxa] at hx he
  obtain ⟨ad, hv, _⟩ := id hx
  exact Wr h hK he (v := a.eval x) (by simp only [execOp, hop]; rw [hv]; rfl) hx
 | _ => simp [hxa] at he
theorem yhz (hT : TOk C P) (h : Rel P w0 lent H0 s a w G) (hK : y3b P w0 lent H0 s o k r K) {op : BinOp} {t ty : Nat} {x y : Operand} (hop : o.op = .binOp op t x y ty) (he : jA C call ct wn o s.opd lk k = some r) : o.wp P a w K Q := by
 simp only [jA, hop] at he
 cases ht : C.info t with
 | none => simp [ht] at he
 | some ti =>
  simp only [ht] at he
  cases hag : yb0 C op t ti (s.opd x) (s.opd y) with
  | some b =>
   simp only [hag] at he
   obtain ⟨u, hu, hr⟩ := yf8 (P := P) (w := w) hT ht hag (h.opd x) (h.opd y) x y
   refine Wr h hK he ?_ hr
   simp only [execOp, hop]
   rw [Sem.run_bind, hu]
   rfl
  | none =>
  simp only [hag] at he
  cases hbt : y96 ti (s.opd x) with
  | false => simp [hbt] at he
  | true =>
   simp only [hbt, cond_true, yeS] at he
   cases hb : yaT op (s.opd x) (s.opd y) with
   | none => simp [hb] at he
   | some z =>
    simp only [hb, Option.bind_some] at he
    obtain ⟨u, hu, hr⟩ := yf3 (P := P) (w := w) hT ht hb hbt (h.opd x) (h.opd y) x y
    refine Wr h hK he ?_ hr
    simp only [execOp, hop]
    rw [Sem.run_bind, hu]
    rfl
theorem ykw (h : Rel P w0 lent H0 s a w G) (hK : y3b P w0 lent H0 s o k r K) {op : UnOp} {t : Nat} {x : Operand} (hop : o.op = .unOp op t x) (he : jA C call ct wn o s.opd lk k = some r) : o.wp P a w K Q := by
 simp only [jA, hop] at he
 cases hb : unA op (s.opd x) with
 | none => simp [hb] at he
 | some z =>
  simp only [hb] at he
  obtain ⟨u, hu, hr⟩ := yhw (P := P) (w := w) hb (h.opd x)
  exact Wr h hK he (by simp [execOp, hop, hu]) hr
theorem ydX (h : Rel P w0 lent H0 s a w G) (hK : y3b P w0 lent H0 s o k r K) {x : Operand} {i : Nat} (hop : o.op = .extract x i) (he : jA C call ct wn o s.opd lk k = some r) : o.wp P a w K Q := by
 have hx := h.opd x
 simp only [jA, hop] at he
 cases hxa : s.opd x with
 | tup l =>
  rw [hxa] at hx he
  simp only at he
  cases hi : l[i]? with
  | none => simp [hi] at he
  | some y =>
   simp only [hi] at he
   obtain ⟨cs, hv, hr⟩ := hx
   obtain ⟨u, hu, hru⟩ := hr.get i y hi
   refine Wr h hK he (v := u) ?_ hru
   simp [execOp, hop, hv, Instr.extract, hu]
 | _ => simp [hxa] at he
theorem y9c (hT : TOk C P) (h : Rel P w0 lent H0 s a w G) (hK : y3b P w0 lent H0 s o k r K) {t f : Nat} {x : Operand} (hop : o.op = .fieldAddr t x f) (he : jA C call ct wn o s.opd lk k = some r) : o.wp P a w K Q := by
 have hx := h.opd x
 simp only [jA, hop] at he
 cases ht : C.info t with
 | none => simp [ht] at he
 | some ti =>
  cases ti with
  | c _ _ => simp [ht] at he
  | s fs ts b =>
   simp only [ht] at he
   cases hf : fs[f]? with
   | none => simp [hf] at he
   | some dt =>
    obtain ⟨d, t2⟩ := dt
    simp only [hf] at he
    cases hxa : s.opd x with
    | box b off =>
     rw [hxa] at hx he
     refine Wr h hK he (v := .pointer (some ⟨(G.g b).1, (G.g b).2 + (off + d), none⟩)) ?_ rfl
     have := y1t (P := P) (w := w) hT ht hf ⟨(G.g b).1, (G.g b).2 + off, none⟩
     rw [ycD] at this
     simp [execOp, hop, show a.eval x = _ from hx, this, Nat.add_assoc]
    | rtp b i c =>
     rw [hxa] at hx he
     refine Wr h hK he (v := .pointer (some ⟨(G.g b).1, i.toNat * (G.sz b).1 + (c + d), none⟩)) ?_ ⟨rfl, hx.2⟩
     have := y1t (P := P) (w := w) hT ht hf ⟨(G.g b).1, i.toNat * (G.sz b).1 + c, none⟩
     rw [ycD] at this
     simp [execOp, hop, show a.eval x = _ from hx.1, this, Nat.add_assoc]
    | elp e us xs i c =>
     rw [hxa] at hx he
     obtain ⟨ad, hv, hlt, hrd⟩ := hx
     refine Wr h hK he (v := .pointer (some (ad.add (i.toNat * us.length + (c + d))))) ?_ ⟨ad, rfl, hlt, hrd⟩
     have := y1t (P := P) (w := w) hT ht hf (ad.add (i.toNat * us.length + c))
     rw [Addr.add_add] at this
     simp [execOp, hop, hv, this, Nat.add_assoc]
    | _ => simp [hxa] at he
theorem yhA (hT : TOk C P) (h : Rel P w0 lent H0 s a w G) (hK : y3b P w0 lent H0 s o k r K) {t f : Nat} {x : Operand} (hop : o.op = .field t x f) (he : jA C call ct wn o s.opd lk k = some r) : o.wp P a w K Q := by
 have hx := h.opd x
 simp only [jA, hop] at he
 cases ht : C.info t with
 | none => simp [ht] at he
 | some ti =>
  cases ti with
  | c _ _ => simp [ht] at he
  | s fs ts b =>
   simp only [ht] at he
   cases hf : fs[f]? with
   | none => simp [hf] at he
   | some dt =>
    obtain ⟨d, t2⟩ := dt
    simp only [hf] at he
    cases ht2 : C.info t2 with
    | none => simp [ht2] at he
    | some ti =>
     simp only [ht2] at he
     cases hxa : s.opd x with
     | agg l =>
      rw [hxa] at hx he
      simp only at he
      cases hle : Nat.ble (d + ti.ts.length) l.length with
      | false => simp [hle] at he
      | true =>
       simp only [hle, cond_true] at he
       cases hm : mkA ti.isAgg ((l.drop d).take ti.ts.length) with
       | none => simp [hm] at he
       | some y =>
        simp only [hm] at he
        obtain ⟨u, hu, hr⟩ := yb7 (P := P) (w := w) hT ht hf ht2 hle hm hx
        exact Wr h hK he (by simp [execOp, hop, hu]) hr
     | _ => simp [hxa] at he
theorem yhB (hT : TOk C P) (h : Rel P w0 lent H0 s a w G) (hK : y3b P w0 lent H0 s o k r K) {t : Nat} {x i : Operand} (hop : o.op = .index t x i) (he : jA C call ct wn o s.opd lk k = some r) : o.wp P a w K Q := by
 have hx := h.opd x
 have hi := h.opd i
 simp only [jA, hop] at he
 split at he
 ·rename_i b xv kk n ht hxa hia
  rw [hxa] at hx
  rw [hia] at hi
  split at he
  ·rename_i h0
   split at he
   ·rename_i h1
    refine Wr h hK he (v := .int .u8 (ByteArray.get xv (Int.toNat n) h1).toNat) ?_ rfl
    simp only [execOp, hop]
    rw [show a.eval x = .string xv from hx, show a.eval i = .int kk n from hi, Sem.run_bind, yf4 hT ht xv kk n h0 h1]
    rfl
   ·cases he
  ·cases he
 ·cases he
theorem y9d (hT : TOk C P) (h : Rel P w0 lent H0 s a w G) (hK : y3b P w0 lent H0 s o k r K) (hlk : y5D lk s) {t : Nat} {x i : Operand} (hop : o.op = .indexAddr t x i) (he : jA C call ct wn o s.opd lk k = some r) : o.wp P a w K Q := by
 have hx := h.opd x
 have hi := h.opd i
 simp only [jA, hop] at he
 split at he
 ·rename_i e2 us b e ts xs kk n ht hxa hia
  rw [hxa] at hx
  rw [hia] at hi
  split at he
  ·rename_i h0
   split at he
   ·rename_i h1
    cases hb : Nat.beq us.length ts.length with
    | false => simp [hb] at he
    | true =>
     simp only [hb, cond_true] at he
     obtain ⟨A, c, hv, hc, hm, hrd⟩ := hx
     obtain ⟨ad, rfl, hrd2⟩ := hrd (by omega)
     refine Wr h hK he (v := .pointer (some (ad.add (Int.toNat n * ts.length + 0)))) ?_ ⟨ad, rfl, by show Int.toNat n < List.length xs; omega, hrd2⟩
     simp only [execOp, hop]
     rw [hv, show a.eval i = .int kk n from hi, Sem.run_bind, y4l hT ht ad _ c kk n h0 h1, Nat.eq_of_beq_eq_true hb]
     rfl
   ·cases he
  ·cases he
 ·rename_i e2 us b q kk n ht hxa hia
  rw [hxa] at hx
  rw [hia] at hi
  cases hq : lk q with
  | none => simp [hq] at he
  | some ob =>
   cases ob with
   | root own e ts xs =>
    simp only [hq] at he
    split at he
    ·rename_i h0
     split at he
     ·rename_i h1
      cases hb : Nat.beq us.length ts.length with
      | false => simp [hb] at he
      | true =>
       simp only [hb, cond_true] at he
       obtain ⟨hsz, hpos, ⟨A, c, hsv, hc, hm, hA⟩, _⟩ := qK h (hlk q _ hq)
       have hA' := hA (by omega)
       subst hA'
       refine Wr h hK he (v := .pointer (some ⟨(G.g q).1, Int.toNat n * (G.sz q).1 + 0, none⟩)) ?_ ⟨rfl, by rw [hsz]; show Int.toNat n < xs.length; omega⟩
       simp only [execOp, hop]
       rw [hx.1, hsv, show a.eval i = .int kk n from hi, Sem.run_bind, y4l hT ht _ _ c kk n h0 h1, Nat.eq_of_beq_eq_true hb, hsz, Kv]
       rfl
     ·cases he
    ·cases he
   | _ => simp [hq] at he
 ·cases he
theorem ynF (hT : TOk C P) (h : Rel P w0 lent H0 s a w G) (hK : y3b P w0 lent H0 s o k r K) (hout : Out o) {t : Nat} {x : Operand} (hop : o.op = .box t x) (he : jA C call ct wn o s.opd lk k = some r) : o.wp P a w K Q := by
 have hx := h.opd x
 simp only [jA, hop] at he
 split at he
 ·rename_i ti d ht hd
  cases hb : Nat.beq (s.opd x).cells.length ti.ts.length && Kt (s.opd x).cells with
  | false => simp [hb] at he
  | true =>
   simp only [hb, cond_true] at he
   simp only [Bool.and_eq_true] at hb
   have hl := Qz hb.2 hx
   obtain ⟨G', _, hrel, hra⟩ := h.newBox d t (H0.none (hout d hd)) hl (Qy hb.2 hl)
   refine jm (v := .pointer (some ⟨w.heap.size, 0, none⟩)) (w' := w.alloc (.cells (a.eval x).cells t)) ?_ (hK _ _ _ G' he ?_)
   ·simp [execOp, hop, Instr.box, newVar, newRow]
   ·have := hrel.put o.dst hra
    simpa [St.apply, St.makeAll, St.setAll] using this
 ·cases he
theorem yba {G : Gh} : ∀ ts : List Ty, RL G (ts.map ydN) (ts.map y10)
 | [] => trivial
 | t :: ts => ⟨by cases t <;> rfl, yba ts⟩
theorem yhC : ∀ ts : List Ty, ∀ v ∈ ts.map y10, v.oneCell' = true := by
 intro ts v hv
 obtain ⟨t, _, rfl⟩ := List.mem_map.1 hv
 cases t <;> rfl
theorem y4o (d : Nat) : ∀ ts : List Ty, zk d (ts.map ydN) = ts.map ydN
 | [] => rfl
 | t :: ts => by
  simp only [List.map_cons, zk, y4o d ts]
  cases t <;> rfl
theorem yhD (hT : TOk C P) (h : Rel P w0 lent H0 s a w G) (hK : y3b P w0 lent H0 s o k r K) (hout : Out o) {t : Nat} (hop : o.op = .alloc t) (he : jA C call ct wn o s.opd lk k = some r) : o.wp P a w K Q := by
 simp only [jA, hop] at he
 split at he
 ·rename_i ti d ht hd
  obtain ⟨i, z, hi, hs, hby, hz, hzc, hp, hbp⟩ := hT.info t ti ht
  obtain ⟨G', _, hrel, hra⟩ := h.newBox d t (H0.none (hout d hd)) (yba ti.ts) (yhC ti.ts)
  refine jm (v := .pointer (some ⟨w.heap.size, 0, none⟩)) (w' := w.alloc (.cells z.cells t)) ?_ (hK _ _ _ G' he ?_)
  ·simp [execOp, hop, Instr.alloc, zeroValue, typeInfo, hi, hz, newVar, newRow]
  ·have := hrel.put o.dst hra
   rw [y4o, ← hzc] at this
   simpa [St.apply, St.makeAll, St.setAll] using this
 ·cases he
theorem ynG (hT : TOk C P) (h : Rel P w0 lent H0 s a w G) (hK : y3b P w0 lent H0 s o k r K) (hlk : y5D lk s) {c : Call} {x : Operand} {t : Nat} {ts : List Nat} (hop : o.op = .call c) (hc : c.callee = .builtin .len) (hx : c.args.toList = [x]) (ht : c.argTypes.toList = t :: ts) (he : jA C call ct wn o s.opd lk k = some r) : o.wp P a w K Q := by
 simp only [jA, hop, hc, hx, ht] at he
 split at he
 ·rename_i n hn hty
  have := yf5 (P := P) (ty := o.type) hT h hlk hn hty (h.opd x)
  refine Wr h hK he (v := .int .i64 n) ?_ rfl
  have e1 : c.args = #[x] := by rw [← Array.toArray_toList (xs := c.args), hx]
  have e2 : c.argTypes = (t :: ts).toArray := by rw [← Array.toArray_toList (xs := c.argTypes), ht]
  have e3 : Builtin.len_ (t :: ts).toArray o.type #[a.eval x] = Builtin.len_ #[t] o.type #[a.eval x] := by simp [Builtin.len_]
  simp [execOp, hop, resolve, hc, invoke, builtin, e1, e2, e3, this]
 ·cases he
end Go.Proofs.YtjllpipmaejeoaaGreat.R
