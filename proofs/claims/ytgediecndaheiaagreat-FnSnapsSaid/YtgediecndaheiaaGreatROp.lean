/- One operation does what the evaluator says. Conditions: the types lie as the context says; calls do what the evaluator says. -/
import Derived.Test.YtgediecndaheiaaGreatRStore
import Derived.Test.YtgediecndaheiaaGreatREq
set_option linter.all false
namespace Go.Proofs.YtgediecndaheiaaGreat.R
open Go.RowKit
variable {P : Program} {C : Ctx} {w0 : World} {lent : Nat → Prop} {H0 : Base} {s : St} {a : Act} {w : World} {G : Gh} {o : Oper} {K : Act → World → Prop} {Q : Exit → Act → World → Prop} {R : Type} {k : Eff → Option R} {r : R} {lk : Lk} {call : C.Sem} {ct wn : Bool}
def Out (o : Oper) : Prop := ∀ d, o.dst = some d → d < 900 ∨ 950 ≤ d
def y2y (P : Program) (w0 : World) (lent : Nat → Prop) (H0 : Base) (s : St) (o : Oper) (k : Eff → Option R) (r : R) (K : Act → World → Prop) : Prop :=
 ∀ e a1 w1 G1, k e = some r → Rel P w0 lent H0 (s.apply o.dst e) a1 w1 G1 → K a1 w1
theorem Wm (h : Rel P w0 lent H0 s a w G) (hK : y2y P w0 lent H0 s o k r K) {x : A} {v : Value} (hk : k ⟨[], [], x⟩ = some r) (hrun : (execOp a.eval o).run P w = .ok (.value v) w) (hx : RA G x v) : o.wp P a w K Q :=
 jo hrun (hK _ _ _ G hk (h.put o.dst hx))
theorem ydR (h : Rel P w0 lent H0 s a w G) (hK : y2y P w0 lent H0 s o k r K) {x : Operand} (hop : o.op = .move x ∨ o.op = .assign x) (he : jG C call ct wn o s.opd lk k = some r) : o.wp P a w K Q := by
 rcases hop with hop | hop <;> simp only [jG, hop] at he <;> exact Wm h hK he (by simp only [execOp, hop]; rfl) (h.opd x)
theorem y9K (h : Rel P w0 lent H0 s a w G) (hK : y2y P w0 lent H0 s o k r K) {fn : Fn} {first captured : Array Operand} (hop : o.op = .makeFunc fn first captured) (he : jG C call ct wn o s.opd lk k = some r) : o.wp P a w K Q := by
 simp only [jG, hop] at he
 cases fn with
 | func f =>
  simp only at he
  cases hfi : first.toList with
  | cons _ _ => simp [hfi] at he
  | nil =>
   have hfa : first = #[] := by simpa using congrArg List.toArray hfi
   cases hca : captured.toList with
   | nil =>
    have hcc : captured = #[] := by simpa using congrArg List.toArray hca
    simp only [hfi, hca] at he
    exact Wm h hK he (v := .func (.func f) #[] #[]) (by simp [execOp, hop, hfa, hcc, Instr.makeFunc]) rfl
   | cons x l =>
    cases l with
    | cons _ _ => simp [hfi, hca] at he
    | nil =>
     have hcc : captured = #[x] := by simpa using congrArg List.toArray hca
     simp only [hfi, hca] at he
     have hx := h.opd x
     cases hxa : s.opd x with
     | box b off =>
      rw [hxa] at hx he
      simp only at he
      cases hb : Nat.beq off 0 with
      | false => simp [hb] at he
      | true =>
       simp only [hb, cond_true] at he
       have := Nat.eq_of_beq_eq_true hb
       subst this
       refine Wm h hK he (v := .func (.func f) #[] #[a.eval x]) (by simp [execOp, hop, hfa, hcc, Instr.makeFunc]) ?_
       rw [show a.eval x = _ from hx]
       rfl
     | _ => simp [hxa] at he
 | _ => simp at he
theorem yjc (hT : TOk C P) (h : Rel P w0 lent H0 s a w G) (hK : y2y P w0 lent H0 s o k r K) (hlk : y4T lk s) {t : Nat} {x : Operand} (hop : o.op = .load t x) (he : jG C call ct wn o s.opd lk k = some r) : o.wp P a w K Q := by
 simp only [jG, hop] at he
 cases ht : C.info t with
 | none => simp [ht] at he
 | some ti =>
  simp only [ht] at he
  cases hl : y3G lk ti (s.opd x) with
  | none => simp [hl] at he
  | some y =>
   simp only [hl] at he
   obtain ⟨u, hu, hr⟩ := y5n hT h hlk ht hl (h.opd x)
   exact Wm h hK he (by simp [execOp, hop, hu]) hr
theorem y9L (h : Rel P w0 lent H0 s a w G) (hK : y2y P w0 lent H0 s o k r K) {x : Operand} (hop : o.op = .nilCheck x) (he : jG C call ct wn o s.opd lk k = some r) : o.wp P a w K Q := by
 have hx := h.opd x
 simp only [jG, hop] at he
 cases hxa : s.opd x with
 | box b off =>
  rw [hxa] at hx he
  exact Wm h hK he (v := a.eval x) (by simp only [execOp, hop]; rw [show a.eval x = _ from hx]; rfl) hx
 | rtp b i c =>
  rw [hxa] at hx he
  exact Wm h hK he (v := a.eval x) (by simp only [execOp, hop]; rw [show a.eval x = _ from hx.1]; rfl) hx
 | elp e ts xs i c =>
  rw [hxa] at hx he
  obtain ⟨ad, hv, _⟩ := id hx
  exact Wm h hK he (v := a.eval x) (by simp only [execOp, hop]; rw [hv]; rfl) hx
 | _ => simp [hxa] at he
theorem yfQ (hT : TOk C P) (h : Rel P w0 lent H0 s a w G) (hK : y2y P w0 lent H0 s o k r K) {op : BinOp} {t ty : Nat} {x y : Operand} (hop : o.op = .binOp op t x y ty) (he : jG C call ct wn o s.opd lk k = some r) : o.wp P a w K Q := by
 simp only [jG, hop] at he
 cases ht : C.info t with
 | none => simp [ht] at he
 | some ti =>
  simp only [ht] at he
  cases hag : y9C C op t ti (s.opd x) (s.opd y) with
  | some b =>
   simp only [hag] at he
   obtain ⟨u, hu, hr⟩ := ydQ (P := P) (w := w) hT ht hag (h.opd x) (h.opd y) x y
   refine Wm h hK he ?_ hr
   simp only [execOp, hop]
   rw [Sem.run_bind, hu]
   rfl
  | none =>
  simp only [hag] at he
  cases hbt : y82 ti (s.opd x) with
  | false => simp [hbt] at he
  | true =>
   simp only [hbt, cond_true, ydA] at he
   cases hb : y9y op (s.opd x) (s.opd y) with
   | none => simp [hb] at he
   | some z =>
    simp only [hb, Option.bind_some] at he
    obtain ⟨u, hu, hr⟩ := ydL (P := P) (w := w) hT ht hb hbt (h.opd x) (h.opd y) x y
    refine Wm h hK he ?_ hr
    simp only [execOp, hop]
    rw [Sem.run_bind, hu]
    rfl
theorem yjd (h : Rel P w0 lent H0 s a w G) (hK : y2y P w0 lent H0 s o k r K) {op : UnOp} {t : Nat} {x : Operand} (hop : o.op = .unOp op t x) (he : jG C call ct wn o s.opd lk k = some r) : o.wp P a w K Q := by
 simp only [jG, hop] at he
 cases hb : unA op (s.opd x) with
 | none => simp [hb] at he
 | some z =>
  simp only [hb] at he
  obtain ⟨u, hu, hr⟩ := yfN (P := P) (w := w) hb (h.opd x)
  exact Wm h hK he (by simp [execOp, hop, hu]) hr
theorem ycJ (h : Rel P w0 lent H0 s a w G) (hK : y2y P w0 lent H0 s o k r K) {x : Operand} {i : Nat} (hop : o.op = .extract x i) (he : jG C call ct wn o s.opd lk k = some r) : o.wp P a w K Q := by
 have hx := h.opd x
 simp only [jG, hop] at he
 cases hxa : s.opd x with
 | tup l =>
  rw [hxa] at hx he
  simp only at he
  cases hi : l[i]? with
  | none => simp [hi] at he
  | some y =>
   simp only [hi] at he
   obtain ⟨cs, hv, hr⟩ := hx
   obtain ⟨u, hu, hru⟩ := hr.get i y hi
   refine Wm h hK he (v := u) ?_ hru
   simp [execOp, hop, hv, Instr.extract, hu]
 | _ => simp [hxa] at he
theorem y88 (hT : TOk C P) (h : Rel P w0 lent H0 s a w G) (hK : y2y P w0 lent H0 s o k r K) {t f : Nat} {x : Operand} (hop : o.op = .fieldAddr t x f) (he : jG C call ct wn o s.opd lk k = some r) : o.wp P a w K Q := by
 have hx := h.opd x
 simp only [jG, hop] at he
 cases ht : C.info t with
 | none => simp [ht] at he
 | some ti =>
  cases ti with
  | c _ _ => simp [ht] at he
  | s fs ts b =>
   simp only [ht] at he
   cases hf : fs[f]? with
   | none => simp [hf] at he
   | some dt =>
    obtain ⟨d, t2⟩ := dt
    simp only [hf] at he
    cases hxa : s.opd x with
    | box b off =>
     rw [hxa] at hx he
     refine Wm h hK he (v := .pointer (some ⟨(G.g b).1, (G.g b).2 + (off + d), none⟩)) ?_ rfl
     have := y0Y (P := P) (w := w) hT ht hf ⟨(G.g b).1, (G.g b).2 + off, none⟩
     rw [ybi] at this
     simp [execOp, hop, show a.eval x = _ from hx, this, Nat.add_assoc]
    | rtp b i c =>
     rw [hxa] at hx he
     refine Wm h hK he (v := .pointer (some ⟨(G.g b).1, i.toNat * (G.sz b).1 + (c + d), none⟩)) ?_ ⟨rfl, hx.2⟩
     have := y0Y (P := P) (w := w) hT ht hf ⟨(G.g b).1, i.toNat * (G.sz b).1 + c, none⟩
     rw [ybi] at this
     simp [execOp, hop, show a.eval x = _ from hx.1, this, Nat.add_assoc]
    | elp e us xs i c =>
     rw [hxa] at hx he
     obtain ⟨ad, hv, hlt, hrd⟩ := hx
     refine Wm h hK he (v := .pointer (some (ad.add (i.toNat * us.length + (c + d))))) ?_ ⟨ad, rfl, hlt, hrd⟩
     have := y0Y (P := P) (w := w) hT ht hf (ad.add (i.toNat * us.length + c))
     rw [Addr.add_add] at this
     simp [execOp, hop, hv, this, Nat.add_assoc]
    | _ => simp [hxa] at he
theorem yfR (hT : TOk C P) (h : Rel P w0 lent H0 s a w G) (hK : y2y P w0 lent H0 s o k r K) {t f : Nat} {x : Operand} (hop : o.op = .field t x f) (he : jG C call ct wn o s.opd lk k = some r) : o.wp P a w K Q := by
 have hx := h.opd x
 simp only [jG, hop] at he
 cases ht : C.info t with
 | none => simp [ht] at he
 | some ti =>
  cases ti with
  | c _ _ => simp [ht] at he
  | s fs ts b =>
   simp only [ht] at he
   cases hf : fs[f]? with
   | none => simp [hf] at he
   | some dt =>
    obtain ⟨d, t2⟩ := dt
    simp only [hf] at he
    cases ht2 : C.info t2 with
    | none => simp [ht2] at he
    | some ti =>
     simp only [ht2] at he
     cases hxa : s.opd x with
     | agg l =>
      rw [hxa] at hx he
      simp only at he
      cases hle : Nat.ble (d + ti.ts.length) l.length with
      | false => simp [hle] at he
      | true =>
       simp only [hle, cond_true] at he
       cases hm : mkA ti.isAgg ((l.drop d).take ti.ts.length) with
       | none => simp [hm] at he
       | some y =>
        simp only [hm] at he
        obtain ⟨u, hu, hr⟩ := y9J (P := P) (w := w) hT ht hf ht2 hle hm hx
        exact Wm h hK he (by simp [execOp, hop, hu]) hr
     | _ => simp [hxa] at he
theorem yfS (hT : TOk C P) (h : Rel P w0 lent H0 s a w G) (hK : y2y P w0 lent H0 s o k r K) {t : Nat} {x i : Operand} (hop : o.op = .index t x i) (he : jG C call ct wn o s.opd lk k = some r) : o.wp P a w K Q := by
 have hx := h.opd x
 have hi := h.opd i
 simp only [jG, hop] at he
 split at he
 ·rename_i b xv kk n ht hxa hia
  rw [hxa] at hx
  rw [hia] at hi
  split at he
  ·rename_i h0
   split at he
   ·rename_i h1
    refine Wm h hK he (v := .int .u8 (ByteArray.get xv (Int.toNat n) h1).toNat) ?_ rfl
    simp only [execOp, hop]
    rw [show a.eval x = .string xv from hx, show a.eval i = .int kk n from hi, Sem.run_bind, ydM hT ht xv kk n h0 h1]
    rfl
   ·cases he
  ·cases he
 ·cases he
theorem y89 (hT : TOk C P) (h : Rel P w0 lent H0 s a w G) (hK : y2y P w0 lent H0 s o k r K) (hlk : y4T lk s) {t : Nat} {x i : Operand} (hop : o.op = .indexAddr t x i) (he : jG C call ct wn o s.opd lk k = some r) : o.wp P a w K Q := by
 have hx := h.opd x
 have hi := h.opd i
 simp only [jG, hop] at he
 split at he
 ·rename_i e2 us b e ts xs kk n ht hxa hia
  rw [hxa] at hx
  rw [hia] at hi
  split at he
  ·rename_i h0
   split at he
   ·rename_i h1
    cases hb : Nat.beq us.length ts.length with
    | false => simp [hb] at he
    | true =>
     simp only [hb, cond_true] at he
     obtain ⟨A, c, hv, hc, hm, hrd⟩ := hx
     obtain ⟨ad, rfl, hrd2⟩ := hrd (by omega)
     refine Wm h hK he (v := .pointer (some (ad.add (Int.toNat n * ts.length + 0)))) ?_ ⟨ad, rfl, by show Int.toNat n < List.length xs; omega, hrd2⟩
     simp only [execOp, hop]
     rw [hv, show a.eval i = .int kk n from hi, Sem.run_bind, y3I hT ht ad _ c kk n h0 h1, Nat.eq_of_beq_eq_true hb]
     rfl
   ·cases he
  ·cases he
 ·rename_i e2 us b q kk n ht hxa hia
  rw [hxa] at hx
  rw [hia] at hi
  cases hq : lk q with
  | none => simp [hq] at he
  | some ob =>
   cases ob with
   | root own e ts xs =>
    simp only [hq] at he
    split at he
    ·rename_i h0
     split at he
     ·rename_i h1
      cases hb : Nat.beq us.length ts.length with
      | false => simp [hb] at he
      | true =>
       simp only [hb, cond_true] at he
       obtain ⟨hsz, hpos, ⟨A, c, hsv, hc, hm, hA⟩, _⟩ := qE h (hlk q _ hq)
       have hA' := hA (by omega)
       subst hA'
       refine Wm h hK he (v := .pointer (some ⟨(G.g q).1, Int.toNat n * (G.sz q).1 + 0, none⟩)) ?_ ⟨rfl, by rw [hsz]; show Int.toNat n < xs.length; omega⟩
       simp only [execOp, hop]
       rw [hx.1, hsv, show a.eval i = .int kk n from hi, Sem.run_bind, y3I hT ht _ _ c kk n h0 h1, Nat.eq_of_beq_eq_true hb, hsz, Kw]
       rfl
     ·cases he
    ·cases he
   | _ => simp [hq] at he
 ·cases he
theorem ylX (hT : TOk C P) (h : Rel P w0 lent H0 s a w G) (hK : y2y P w0 lent H0 s o k r K) (hout : Out o) {t : Nat} {x : Operand} (hop : o.op = .box t x) (he : jG C call ct wn o s.opd lk k = some r) : o.wp P a w K Q := by
 have hx := h.opd x
 simp only [jG, hop] at he
 split at he
 ·rename_i ti d ht hd
  cases hb : Nat.beq (s.opd x).cells.length ti.ts.length && Ku (s.opd x).cells with
  | false => simp [hb] at he
  | true =>
   simp only [hb, cond_true] at he
   simp only [Bool.and_eq_true] at hb
   have hl := Qn hb.2 hx
   obtain ⟨G', _, hrel, hra⟩ := h.newBox d t (H0.none (hout d hd)) hl (Qm hb.2 hl)
   refine jo (v := .pointer (some ⟨w.heap.size, 0, none⟩)) (w' := w.alloc (.cells (a.eval x).cells t)) ?_ (hK _ _ _ G' he ?_)
   ·simp [execOp, hop, Instr.box, newVar, newRow]
   ·have := hrel.put o.dst hra
    simpa [St.apply, St.makeAll, St.setAll] using this
 ·cases he
theorem y9M {G : Gh} : ∀ ts : List Ty, RL G (ts.map ycz) (ts.map y0B)
 | [] => trivial
 | t :: ts => ⟨by cases t <;> rfl, y9M ts⟩
theorem yfT : ∀ ts : List Ty, ∀ v ∈ ts.map y0B, v.oneCell' = true := by
 intro ts v hv
 obtain ⟨t, _, rfl⟩ := List.mem_map.1 hv
 cases t <;> rfl
theorem y3L (d : Nat) : ∀ ts : List Ty, za d (ts.map ycz) = ts.map ycz
 | [] => rfl
 | t :: ts => by
  simp only [List.map_cons, za, y3L d ts]
  cases t <;> rfl
theorem yfU (hT : TOk C P) (h : Rel P w0 lent H0 s a w G) (hK : y2y P w0 lent H0 s o k r K) (hout : Out o) {t : Nat} (hop : o.op = .alloc t) (he : jG C call ct wn o s.opd lk k = some r) : o.wp P a w K Q := by
 simp only [jG, hop] at he
 split at he
 ·rename_i ti d ht hd
  obtain ⟨i, z, hi, hs, hby, hz, hzc, hp, hbp⟩ := hT.info t ti ht
  obtain ⟨G', _, hrel, hra⟩ := h.newBox d t (H0.none (hout d hd)) (y9M ti.ts) (yfT ti.ts)
  refine jo (v := .pointer (some ⟨w.heap.size, 0, none⟩)) (w' := w.alloc (.cells z.cells t)) ?_ (hK _ _ _ G' he ?_)
  ·simp [execOp, hop, Instr.alloc, zeroValue, typeInfo, hi, hz, newVar, newRow]
  ·have := hrel.put o.dst hra
   rw [y3L, ← hzc] at this
   simpa [St.apply, St.makeAll, St.setAll] using this
 ·cases he
theorem ylY (hT : TOk C P) (h : Rel P w0 lent H0 s a w G) (hK : y2y P w0 lent H0 s o k r K) (hlk : y4T lk s) {c : Call} {x : Operand} {t : Nat} {ts : List Nat} (hop : o.op = .call c) (hc : c.callee = .builtin .len) (hx : c.args.toList = [x]) (ht : c.argTypes.toList = t :: ts) (he : jG C call ct wn o s.opd lk k = some r) : o.wp P a w K Q := by
 simp only [jG, hop, hc, hx, ht] at he
 split at he
 ·rename_i n hn hty
  have := ydN (P := P) (ty := o.type) hT h hlk hn hty (h.opd x)
  refine Wm h hK he (v := .int .i64 n) ?_ rfl
  have e1 : c.args = #[x] := by rw [← Array.toArray_toList (xs := c.args), hx]
  have e2 : c.argTypes = (t :: ts).toArray := by rw [← Array.toArray_toList (xs := c.argTypes), ht]
  have e3 : Builtin.len_ (t :: ts).toArray o.type #[a.eval x] = Builtin.len_ #[t] o.type #[a.eval x] := by simp [Builtin.len_]
  simp [execOp, hop, resolve, hc, invoke, builtin, e1, e2, e3, this]
 ·cases he
end Go.Proofs.YtgediecndaheiaaGreat.R
