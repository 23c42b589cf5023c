/- Structs are compared cell by cell. No condition. -/
import Derived.Test.YtgediecndaheiaaGreatROps2
import Derived.Laws.StructEq
set_option linter.all false
namespace Go.Proofs.YtgediecndaheiaaGreat.R
open Go.RowKit
variable {P : Program} {C : Ctx} {w : World} {G : Gh}
theorem Qo : ∀ (ts us : List Ty) (l m : List A) (r : Bool), Y4 (ts ++ us) l m = some r → ∃ r1 r2, Y4 ts (l.take ts.length) (m.take ts.length) = some r1 ∧ Y4 us (l.drop ts.length) (m.drop ts.length) = some r2 ∧ r = (r1 && r2) ∧ ts.length ≤ l.length ∧ ts.length ≤ m.length
 | [], us, l, m, r, h => ⟨true, r, by simp [Y4], by simpa using h, by simp, by simp, by simp⟩
 | t :: ts, us, a :: l, b :: m, r, h => by
  simp only [List.cons_append, Y4] at h
  cases hc : y0W t a b with
  | none => simp [hc] at h
  | some u =>
   simp only [hc] at h
   cases hr : Y4 (ts ++ us) l m with
   | none => simp [hr] at h
   | some v =>
    simp only [hr, Option.map_some, Option.some.injEq] at h
    obtain ⟨r1, r2, e1, e2, e3, e4, e5⟩ := Qo ts us l m v hr
    refine ⟨u && r1, r2, by simp [Y4, hc, e1], by simpa using e2, ?_, by simpa using e4, by simpa using e5⟩
    subst h e3
    cases u <;> simp
 | t :: ts, us, [], _, r, h => by simp [Y4] at h
 | t :: ts, us, _ :: _, [], r, h => by simp [Y4] at h
def yfP (ti : TI) (cs : List Value) : Value := if ti.isAgg then .agg cs.toArray else cs.headD undef
theorem ybk (hT : TOk C P) {t : Nat} {ti : TI} (ht : C.info t = some ti) (cs : List Value) (off : Nat) (h : off + ti.ts.length ≤ cs.length) : (part t cs.toArray off).run P w = .ok (yfP ti ((cs.drop off).take ti.ts.length)) w := by
 simp only [part, Sem.run_bind, y1n hT ht, Result.andThen_ok]
 unfold yfP
 cases hb : ti.isAgg with
 | true => simp [Vm hT ht, List.take_drop]
 | false =>
  have hone : ti.ts.length = 1 := by
   cases ti with
   | c _ _ => rfl
   | s _ _ _ => simp [TI.isAgg] at hb
  rw [hone] at h ⊢
  have hlt : off < cs.length := by omega
  simp [hlt, List.getElem?_eq_getElem hlt, List.take_one, List.head?_drop]
theorem ycI (hT : TOk C P) {t b : Nat} {ty : Ty} (ht : C.info t = some (.c ty b)) {x y : A} {v u : Value} {r : Bool} (h : y0W ty x y = some r) (hx : RA G x v) (hy : RA G y u) (d : Nat) : (Op.equalIn (d + 1) t v u).run P w = .ok r w := by
 obtain ⟨D, hD, hDD⟩ := hT.und t _ ht
 unfold y0W at h
 split at h
 ·rename_i k0 k1 x k2 y
  split at h
  ·rename_i hk
   injection h with h
   subst h
   subst hk
   rw [show v = .int _ x from hx, show u = .int _ y from hy]
   exact run_equalIn_int w d t _ _ _ _ (by rw [hD, show D = _ from hDD])
  ·cases h
 ·rename_i x y
  injection h with h
  subst h
  rw [show v = .bool x from hx, show u = .bool y from hy]
  exact run_equalIn_bool' w d t _ _ (by rw [hD, show D = _ from hDD])
 ·rename_i x y
  injection h with h
  subst h
  rw [show v = .string x from hx, show u = .string y from hy]
  exact run_equalIn_string w d t _ _ (by rw [hD, show D = _ from hDD])
 ·cases h
theorem y3K (hT : TOk C P) : ∀ (n t : Nat) (ti : TI) (l m : List A) (cs ds : List Value) (r : Bool) (d : Nat), y4W C n t = true → C.info t = some ti → Y4 ti.ts l m = some r → RL G l cs → RL G m ds → n ≤ d → (Op.equalIn d t (yfP ti cs) (yfP ti ds)).run P w = .ok r w
 | 0, t, ti, l, m, cs, ds, r, d, hr, _, _, _, _, _ => by simp [y4W] at hr
 | n + 1, t, ti, l, m, cs, ds, r, 0, hr, ht, he, hl, hm, hn => by omega
 | n + 1, t, .c ty b, l, m, cs, ds, r, d + 1, hr, ht, he, hl, hm, hn => by
  match l, m, cs, ds, he, hl, hm with
  | [x], [y], [v], [u], he, hl, hm =>
   simp only [TI.ts, Y4] at he
   cases hc : y0W ty x y with
   | none => simp [hc] at he
   | some q =>
    simp [hc] at he
    subst he
    exact ycI hT ht hc hl.1 hm.1 d
  | [], _, _, _, he, _, _ => simp [TI.ts, Y4] at he
  | [_], [], _, _, he, _, _ => simp [TI.ts, Y4] at he
  | [x], y :: _ :: _, _, _, he, _, _ => exfalso; simp only [TI.ts, Y4] at he; cases hq : y0W ty x y <;> simp [hq] at he
  | x :: _ :: _, [], _, _, he, _, _ => simp [TI.ts, Y4] at he
  | x :: _ :: _, y :: _, _, _, he, _, _ => exfalso; simp only [TI.ts, Y4] at he; cases hq : y0W ty x y <;> simp [hq] at he
  | [_], [_], [], _, _, hl, _ => exact hl.elim
  | [_], [_], _ :: _ :: _, _, _, hl, _ => exact hl.2.elim
  | [_], [_], [_], [], _, _, hm => exact hm.elim
  | [_], [_], [_], _ :: _ :: _, _, _, hm => exact hm.2.elim
 | n + 1, t, .s fs ts b, l, m, cs, ds, r, d + 1, hr, ht, he, hl, hm, hn => by
  obtain ⟨F, hF, hfo⟩ := hT.flds t fs ts b ht
  obtain ⟨e1, _, e3⟩ := hT.eqs t fs ts b ht
  have hfl : P.fieldsOf t = F := by simp [Program.fieldsOf, hF]
  simp only [y4W, ht, List.all_eq_true] at hr
  show (Op.equalIn (d + 1) t (.agg cs.toArray) (.agg ds.toArray)).run P w = _
  rw [run_equalIn_agg w d t _ _ (by rw [hfl]; exact hF) e1, hfl]
  rw [hfl] at e3
  have key : ∀ (fs : List (Nat × Nat)) (F : List Field) (ts : List Ty) (off : Nat) (r : Bool), qC C fs F ts off → (∀ p ∈ fs, y4W C n p.2 = true) → (∀ f ∈ F, f.name ≠ "_") → off ≤ l.length → off ≤ m.length → Y4 ts (l.drop off) (m.drop off) = some r → (Op.eqFields d cs.toArray ds.toArray F).run P w = .ok r w := by
   intro fs
   induction fs with
   | nil =>
    intro F ts off r hF _ _ _ _ h
    cases F with
    | nil =>
     have : ts = [] := hF
     subst this
     have : r = true := by
      unfold Y4 at h
      split at h <;> simp_all
     subst this
     simp [Op.eqFields]
    | cons _ _ => exact hF.elim
   | cons p fs ih =>
    intro F ts off r hF hrk hnm o1 o2 h
    obtain ⟨o, tt⟩ := p
    cases F with
    | nil => exact hF.elim
    | cons f F =>
     obtain ⟨rfl, q2, q3, ti, ts', q4, rfl, q5⟩ := hF
     obtain ⟨r1, r2, g1, g2, rfl, g4, g5⟩ := Qo ti.ts ts' _ _ r h
     simp only [List.length_drop] at g4 g5
     have hlen := hl.length
     have hlen2 := hm.length
     have hc := y3K hT n tt ti _ _ _ _ r1 d (hrk (o, tt) (by simp)) q4 g1 (RL.take ti.ts.length (RL.drop o hl)) (RL.take ti.ts.length (RL.drop o hm)) (by omega)
     subst q3
     simp only [Op.eqFields, if_pos (hnm f (by simp)), Sem.run_bind, q2, ybk hT q4 cs o (by omega), ybk hT q4 ds o (by omega), hc, Result.andThen_ok]
     rw [List.drop_drop, List.drop_drop] at g2
     have := ih F ts' (o + ti.ts.length) r2 q5 (fun p hp => hrk p (by simp [hp])) (fun f hf => hnm f (by simp [hf])) (by omega) (by omega) g2
     cases r1 with
     | true => simpa using this
     | false => simp
  exact key fs F.toList ts 0 r hfo hr e3 (by omega) (by omega) (by simpa [TI.ts] using he)
theorem ydQ (hT : TOk C P) {t : Nat} {ti : TI} (ht : C.info t = some ti) {op : BinOp} {x y : A} {b : Bool} {v u : Value} (hz : y9C C op t ti x y = some b) (hx : RA G x v) (hy : RA G y u) (X Y : Operand) :
  ∃ r, (do eqGuard op t X Y v u; binOp op t v u : Sem Value).run P w = .ok r w ∧ RA G (.val .bool b) r := by
 cases ti with
 | c _ _ => simp [y9C] at hz
 | s fs ts bb =>
  cases x <;> try (simp [y9C] at hz; done)
  cases y <;> try (simp [y9C] at hz; done)
  rename_i l m
  obtain ⟨cs, rfl, hl⟩ := hx
  obtain ⟨ds, rfl, hm⟩ := hy
  obtain ⟨_, e2, _⟩ := hT.eqs t fs ts bb ht
  have main : ∀ r, y4W C 8 t = true → Y4 ts l m = some r → (Op.equalIn 10000 t (.agg cs.toArray) (.agg ds.toArray)).run P w = .ok r w := fun r hr he => y3K hT 8 t (.s fs ts bb) l m cs ds r 10000 hr ht he hl hm (by omega)
  simp only [Sem.run_bind, run_eqGuard_agg w op t X Y _ _ e2, Result.andThen_ok]
  simp only [y9C] at hz
  cases op <;> try (simp at hz; done)
  ·cases hr : y4W C 8 t with
   | false => simp [hr] at hz
   | true =>
    simp only [hr, cond_true] at hz
    refine ⟨.bool b, ?_, rfl⟩
    rw [run_eql_struct, main b hr hz]
    rfl
  ·cases hr : y4W C 8 t with
   | false => simp [hr] at hz
   | true =>
    simp only [hr, cond_true] at hz
    cases hq : Y4 ts l m with
    | none => simp [hq] at hz
    | some q =>
     simp only [hq, Option.map_some, Option.some.injEq] at hz
     subst hz
     refine ⟨.bool (!q), ?_, rfl⟩
     rw [run_neq_struct, main q hr hq]
     rfl
end Go.Proofs.YtgediecndaheiaaGreat.R
