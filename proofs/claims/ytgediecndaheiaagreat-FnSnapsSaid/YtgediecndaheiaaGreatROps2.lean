/- More operations that change nothing but a slot. Conditions: the types lie as the context says. -/
import Derived.Test.YtgediecndaheiaaGreatROps
import Derived.Laws.Strings
set_option linter.all false
namespace Go.Proofs.YtgediecndaheiaaGreat.R
open Go.RowKit
variable {P : Program} {C : Ctx} {w0 : World} {lent : Nat → Prop} {H0 : Base} {s : St} {a : Act} {w : World} {G : Gh} {o : Oper} {K : Act → World → Prop} {Q : Exit → Act → World → Prop}
theorem y9J (hT : TOk C P) {t f d t2 b : Nat} {fs : List (Nat × Nat)} {ts : List Ty} {ti : TI} (ht : C.info t = some (.s fs ts b)) (hf : fs[f]? = some (d, t2)) (ht2 : C.info t2 = some ti)
  {l : List A} {x : A} (hle : Nat.ble (d + ti.ts.length) l.length = true) (hx : mkA ti.isAgg ((l.drop d).take ti.ts.length) = some x) {v : Value} (hv : RA G (.agg l) v) :
  ∃ u, (Instr.field t v f).run P w = .ok u w ∧ RA G x u := by
 obtain ⟨cs, rfl, hr⟩ := hv
 obtain ⟨D, hD, F, rfl, hsz, hF⟩ := hT.und t _ ht
 obtain ⟨fl, hfl, rfl, rfl, _⟩ := hF f d t2 hf
 have hr' := RL.take ti.ts.length (RL.drop fl.offset hr)
 have hlen := hr.length
 have h1 := kD hle
 have hm := y9G hx hr'
 refine ⟨_, ?_, hm⟩
 simp only [Instr.field, Sem.run_bind, run_underlying hD, Result.andThen_ok, hfl, part, y1n hT ht2, Vm hT ht2, asAgg]
 cases hb : ti.isAgg with
 | true =>
  simp [Vm hT ht2, List.take_drop]
 | false =>
  have hone : ti.ts.length = 1 := by
   cases ti with
   | c _ _ => rfl
   | s _ _ _ => simp [TI.isAgg] at hb
  rw [hone] at h1 ⊢
  have hlt : fl.offset < cs.length := by omega
  simp [hlt, List.getElem?_eq_getElem hlt, List.take_one, List.head?_drop]
theorem y0Y (hT : TOk C P) {t f d t2 b : Nat} {fs : List (Nat × Nat)} {ts : List Ty} (ht : C.info t = some (.s fs ts b)) (hf : fs[f]? = some (d, t2)) (ad : Addr) :
  (Instr.fieldAt t (.pointer (some ad)) f).run P w = .ok (.pointer (some (ad.add d))) w := by
 obtain ⟨D, hD, F, rfl, hsz, hF⟩ := hT.und t _ ht
 obtain ⟨fl, hfl, rfl, rfl, ti, hti, _⟩ := hF f d t2 hf
 have hpos : ¬ ti.ts.length = 0 := by
  obtain ⟨_, _, _, _, _, _, _, h, _⟩ := hT.info _ ti hti
  omega
 simp [Instr.fieldAt, run_underlying hD, hfl, Instr.sureAddr, fieldPlace, Vm hT hti, hpos]
theorem y3I (hT : TOk C P) {t e b : Nat} {us : List Ty} (ht : C.info t = some (.c (.sl e us) b)) (ad : Addr) (len cap : Nat) (k : IntKind) (n : Int) (h0 : 0 ≤ n) (h1 : n < len) :
  (Instr.indexAt t (.slice (some ad) len cap) (.int k n)).run P w = .ok (.pointer (some (ad.add (n.toNat * us.length)))) w := by
 obtain ⟨D, hD, rfl, te, hte, rfl⟩ := hT.und t _ ht
 simp [Instr.indexAt, run_underlying hD, asIntOf, h0, h1, Vm hT hte]
theorem ydM (hT : TOk C P) {t b : Nat} (ht : C.info t = some (.c .str b)) (x : ByteArray) (k : IntKind) (n : Int) (h0 : 0 ≤ n) (h1 : n.toNat < x.size) :
  (Instr.index t (.string x) (.int k n)).run P w = .ok (.int .u8 (x.get n.toNat h1).toNat) w := by
 obtain ⟨D, hD, hDD⟩ := hT.und t _ ht
 have hDs : P.underlying t = some .string := by rw [hD, show D = .string from hDD]
 rw [run_index_string w t x k n hDs]
 have hh : 0 ≤ n ∧ n < x.size := ⟨h0, by omega⟩
 rw [dif_pos hh]
 rfl
theorem ydN (hT : TOk C P) (h : Rel P w0 lent H0 s a w G) {lk : Lk} (hlk : y4T lk s) {t ty : Nat} {x : A} {n : Int} (hn : ycB lk x = some n) (hty : y4X C t x = true) {v : Value} (hv : RA G x v) :
  (Builtin.len_ #[t] ty #[v]).run P w = .ok (.int .i64 n) w := by
 cases hi : C.info t with
 | none => simp [y4X, hi] at hty
 | some ti =>
  obtain ⟨D, hD, hDD⟩ := hT.und t _ hi
  cases ti with
  | s _ _ _ => simp [y4X, hi] at hty
  | c ct b =>
   cases ct with
   | int _ => simp [y4X, hi] at hty
   | bool => simp [y4X, hi] at hty
   | str =>
    have hDs : P.underlying t = some .string := by rw [hD, show D = .string from hDD]
    cases x with
    | val tx xv =>
     cases tx with
     | str =>
      rw [show v = .string xv from hv]
      have hn' : ((ByteArray.size xv : Nat) : Int) = n := by simpa [ycB] using hn
      subst hn'
      simp [Builtin.len_, run_underlying hDs, goInt]
     | _ => simp [y4X, hi] at hty
    | _ => simp [y4X, hi] at hty
   | sl e ts =>
    obtain ⟨rfl, _⟩ := hDD
    have key : ∀ (A : Option Addr) (m c : Nat), v = .slice A m c → (m : Int) = n → (Builtin.len_ #[t] ty #[v]).run P w = .ok (.int .i64 n) w := by
     intro A m c hv hm
     subst hv hm
     simp [Builtin.len_, run_underlying hD, goInt]
    cases x with
    | nils => exact key none 0 0 hv (by simpa [ycB] using hn)
    | val tx xv =>
     cases tx with
     | sl e2 ts2 =>
      obtain ⟨A, c, hv, _⟩ := hv
      exact key A _ c hv (by simpa [ycB, y9x] using hn)
     | _ => simp [y4X, hi] at hty
    | own r =>
     cases hr : lk r with
     | none => simp [ycB, y9x, hr] at hn
     | some ob =>
      cases ob with
      | root own e2 ts2 xs =>
       obtain ⟨_, _, ⟨A, c, hsv, _⟩, _⟩ := qE h (hlk r _ hr)
       exact key A _ c (hv.1.trans hsv) (by simpa [ycB, y9x, hr] using hn)
      | _ => simp [ycB, y9x, hr] at hn
    | _ => simp [y4X, hi] at hty
theorem y3J {k : IntKind} {n : Int} {y : Nat} {cd : BoundsCode} (h0 : 0 ≤ n) (h1 : n ≤ y) : (Instr.sliceBound (.int k n) y cd).run P w = .ok n.toNat w := by
 simp [Instr.sliceBound, asIntOf, h0, h1]
def yrT (v : Option Value) (l : Int) : Prop := v = none ∧ l = 0 ∨ ∃ k, v = some (.int k l)
def yrU (v : Option Value) (h : Int) (len : Nat) : Prop := v = none ∧ h = len ∨ ∃ k, v = some (.int k h)
theorem y5q {b : Bool} {len cap : Nat} {lo hi : Option Value} {l h : Int} (hlo : yrT lo l) (hhi : yrU hi h len) (h0 : 0 ≤ l) (h1 : l ≤ h) (h2 : h ≤ len) (h3 : len ≤ cap) :
  (Instr.sliceBounds b len cap lo hi none).run P w = .ok (l.toNat, h.toNat, cap) w := by
 have hh : ∀ k cd, (Instr.sliceBound (.int k h) cap cd).run P w = .ok h.toNat w := fun k cd => y3J (by omega) (by omega)
 have hl : ∀ k cd, (Instr.sliceBound (.int k l) h.toNat cd).run P w = .ok l.toNat w := fun k cd => y3J h0 (by omega)
 rcases hlo with ⟨rfl, rfl⟩ | ⟨k, rfl⟩ <;> rcases hhi with ⟨rfl, rfl⟩ | ⟨k', rfl⟩
 ·simp [Instr.sliceBounds]
 ·simp [Instr.sliceBounds, hh]
 ·have hl' : ∀ k cd, (Instr.sliceBound (.int k l) len cd).run P w = .ok l.toNat w := fun k cd => y3J h0 (by omega)
  simp [Instr.sliceBounds, hl']
 ·simp [Instr.sliceBounds, hh, hl]
theorem ydO (hT : TOk C P) {t b : Nat} (ht : C.info t = some (.c .str b)) (x : ByteArray) {lo hi : Option Value} {l h : Int} (hlo : yrT lo l) (hhi : yrU hi h x.size) (h0 : 0 ≤ l) (h1 : l ≤ h) (h2 : h ≤ x.size) :
  (Instr.sliceAt t (.string x) lo hi none).run P w = .ok (.string (x.extract l.toNat h.toNat)) w := by
 obtain ⟨D, hD, hDD⟩ := hT.und t _ ht
 have hDs : P.underlying t = some .string := by rw [hD, show D = .string from hDD]
 simp [Instr.sliceAt, Instr.slice, run_underlying hDs, y5q hlo hhi h0 h1 h2 (Nat.le_refl _)]
theorem VW (hT : TOk C P) {t e b : Nat} {us : List Ty} (ht : C.info t = some (.c (.sl e us) b)) (A : Option Addr) (len cap : Nat) {lo hi : Option Value} {l h : Int} (hlo : yrT lo l) (hhi : yrU hi h len) (h0 : 0 ≤ l) (h1 : l ≤ h) (h2 : h ≤ len) (h3 : len ≤ cap) :
  (Instr.sliceAt t (.slice A len cap) lo hi none).run P w = .ok (.slice (if cap = l.toNat then A else A.map (·.add (l.toNat * us.length))) (h.toNat - l.toNat) (cap - l.toNat)) w := by
 obtain ⟨D, hD, rfl, te, hte, rfl⟩ := hT.und t _ ht
 simp [Instr.sliceAt, Instr.slice, run_underlying hD, y5q hlo hhi h0 h1 h2 h3, Vm hT hte]
theorem ydP {H Ht : Hp} {ts : List Ty} {xs : List (z8 ts)} {A : Option Addr} {len cap : Nat} (hr : RdR H Ht ts xs (.slice A len cap)) {l h : Nat} (h1 : l ≤ h) (h2 : h ≤ len) :
  RdR H Ht ts ((xs.take h).drop l) (.slice (if cap = l then A else A.map (·.add (l * ts.length))) (h - l) (cap - l)) := by
 obtain ⟨A', c', e1, hc, hm, hx⟩ := hr
 injection e1 with e1 e2 e3
 subst e1 e3
 have hlen : ((xs.take h).drop l).length = h - l := by simp; omega
 refine ⟨_, _, by rw [show List.length ((xs.take h).drop l) = h - l from hlen], by simp at hlen ⊢; omega, by simp at hlen ⊢; omega, fun hp => ?_⟩
 have hp' : l < h := by
  have : 0 < ((xs.take h).drop l).length := hp
  omega
 obtain ⟨ad, rfl, hrd⟩ := hx (by omega)
 have hne : cap ≠ l := by omega
 refine ⟨ad.add (l * ts.length), by simp [hne], fun j x hj => ?_⟩
 have hj' : xs[l + j]? = some x := by
  have : ((xs.take h).drop l)[j]? = some x := hj
  rw [List.getElem?_drop, List.getElem?_take] at this
  split at this
  ·exact this
  ·cases this
 have := hrd (l + j) x hj'
 refine RdE.mono (Hp.le.refl H) ts x _ _ (fun k v hv => ?_) this
 rw [Addr.add_add]
 rw [show l * ts.length + (j * ts.length + k) = (l + j) * ts.length + k by rw [Nat.add_mul]; omega]
 exact hv
theorem yhW {H : Hp} {e : Nat} {ts : List Ty} {xs : List (z8 ts)} {A : Option Addr} {len cap : Nat} (hr : RdT H (.sl e ts) xs (.slice A len cap)) {l h : Nat} (h1 : l ≤ h) (h2 : h ≤ len) :
  RdT H (.sl e ts) ((xs.take h).drop l) (.slice (if cap = l then A else A.map (·.add (l * ts.length))) (h - l) (cap - l)) := ydP (H := H) (Ht := H) hr h1 h2
end Go.Proofs.YtgediecndaheiaaGreat.R
