/- Arguments that read as data open to plain values. Conditions: the types lie as the context says. -/
import Derived.Test.YtgediecndaheiaaGreatRTab
import Derived.Deep.Slices
import Derived.ChangeArms
import Derived.ChangeShapes
import Derived.WideShapes
set_option linter.all false
namespace Go.Proofs.YtgediecndaheiaaGreat.R
open Go.RowKit
variable {P : Program} {C : Ctx}
mutual
def okT : (t : Ty) → El t → Prop
 | .int k, n => (Lit.int k n).wf = true
 | .bool, _ => True
 | .str, s => ByteArray.size s ≤ maxLen
 | .sl _ ts, xs => List.length xs ≤ maxLen ∧ ∀ x ∈ (show List (z8 ts) from xs), okE ts x
def okE : (ts : List Ty) → z8 ts → Prop
 | [], _ => True
 | t :: [], x => okT t x
 | t :: u :: r, x => okT t x.1 ∧ okE (u :: r) x.2
end
theorem ysA {α : Type} {n : Nat} {Q : Nat → α → Prop} (h : ∀ i, i < n → ∃ a, Q i a) : ∃ l : List α, l.length = n ∧ ∀ i a, l[i]? = some a → Q i a := by
 induction n with
 | zero => exact ⟨[], rfl, fun i a ha => by simp at ha⟩
 | succ n ih =>
  obtain ⟨l, hl, hq⟩ := ih (fun i hi => h i (by omega))
  obtain ⟨a, ha⟩ := h n (by omega)
  refine ⟨l ++ [a], by simp [hl], fun i b hb => ?_⟩
  by_cases hi : i < l.length
  ·rw [List.getElem?_append_left hi] at hb
   exact hq i b hb
  ·rw [List.getElem?_append_right (by omega)] at hb
   have h0 : i - l.length = 0 := by
    by_cases h0 : i - l.length = 0
    ·exact h0
    ·rw [List.getElem?_eq_none (by simp; omega)] at hb
     cases hb
   rw [h0] at hb
   have hb' : a = b := by simpa using hb
   subst hb'
   have : i = n := by omega
   subst this
   exact ha
theorem ygj {H : Hp} (t : Ty) (r : List Ty) (x : El t) (y : z8 r) (f : Nat → Option Value) {v : Value} (hv : f 0 = some v) (hx : RdT H t x v) (hy : RdE H r y (fun i => f (i + 1))) (okx : okT t x) (oky : okE r y) : ∃ z : z8 (t :: r), RdE H (t :: r) z f ∧ okE (t :: r) z := by
 cases r with
 | nil => exact ⟨x, ⟨v, hv, hx⟩, okx⟩
 | cons u r => exact ⟨(x, y), ⟨⟨v, hv, hx⟩, hy⟩, okx, oky⟩
theorem yd8 {H : Hp} (t : Ty) (r : List Ty) (z : z8 (t :: r)) (f : Nat → Option Value) (h : RdE H (t :: r) z f) (ok : okE (t :: r) z) : ∃ (x : El t) (y : z8 r) (v : Value), f 0 = some v ∧ RdT H t x v ∧ RdE H r y (fun i => f (i + 1)) ∧ okT t x ∧ okE r y := by
 cases r with
 | nil =>
  obtain ⟨v, hv, hx⟩ := h
  exact ⟨z, (), v, hv, hx, trivial, ok, trivial⟩
 | cons u r =>
  obtain ⟨⟨v, hv, hx⟩, hy⟩ := h
  exact ⟨z.1, z.2, v, hv, hx, hy, ok.1, ok.2⟩
theorem y5P {H : Hp} : ∀ (ts us : List Ty) (x : z8 ts) (y : z8 us) (f : Nat → Option Value), RdE H ts x f → RdE H us y (fun i => f (ts.length + i)) → okE ts x → okE us y → ∃ z : z8 (ts ++ us), RdE H (ts ++ us) z f ∧ okE (ts ++ us) z := by
 intro ts
 induction ts with
 | nil =>
  intro us x y f _ hy _ oky
  exact ⟨y, by simpa using hy, oky⟩
 | cons t ts ih =>
  intro us x y f hx hy okx oky
  obtain ⟨x0, x1, v, hv, h0, h1, ok0, ok1⟩ := yd8 t ts x f hx okx
  obtain ⟨z, hz, okz⟩ := ih us x1 y (fun i => f (i + 1)) h1 (by
   have e : (fun i => f (ts.length + i + 1)) = fun i => f ((t :: ts).length + i) := funext fun i => by
    rw [List.length_cons]
    congr 1
    omega
   show RdE H us y (fun i => f (ts.length + i + 1))
   rw [e]
   exact hy) ok1 oky
  exact ygj t (ts ++ us) x0 z f hv h0 hz ok0 okz
theorem y2e (hT : TOk C P) {t : Nat} {ti : TI} (ht : C.info t = some ti) : P.cellsOf t = ti.ts.length := by
 obtain ⟨i, z, hi, hs, _⟩ := hT.info t ti ht
 simp [Program.cellsOf, hi, hs]
theorem ysB (hT : TOk C P) {H : Type} (enc : TypeId × Value → H) (W : World) : ∀ (fuel : Nat) (t : Nat) (ti : TI) (cs : List Value) (x : DataW H × List MemPlace), C.info t = some ti → DataW.trod enc P W 0 (fun _ => true) true fuel t cs = some x →
  ∃ y : z8 ti.ts, RdE (ZQ W) ti.ts y (fun i => cs[i]?) ∧ okE ti.ts y ∧ cs.length = ti.ts.length := by
 intro fuel
 induction fuel with
 | zero => intro t ti cs x _ h; simp [DataW.trod] at h
 | succ fuel ih =>
  intro t ti cs x ht h
  obtain ⟨d, hd, hdesc⟩ := hT.und t ti ht
  cases ti with
  | c ty b =>
   cases ty with
   | int k =>
    have hdesc : d = .int k := hdesc
    subst hdesc
    obtain ⟨n, rfl, rfl, wf⟩ := DataW.trod_int hd h
    exact ⟨n, ⟨_, rfl, rfl⟩, wf, rfl⟩
   | bool =>
    have hdesc : d = .bool := hdesc
    subst hdesc
    obtain ⟨n, rfl, rfl⟩ := DataW.trod_bool hd h
    exact ⟨n, ⟨_, rfl, rfl⟩, trivial, rfl⟩
   | str =>
    have hdesc : d = .string := hdesc
    subst hdesc
    obtain ⟨s, rfl, rfl, hs⟩ := DataW.trod_string hd h
    exact ⟨s, ⟨_, rfl, rfl⟩, hs, rfl⟩
   | sl e ts =>
    obtain ⟨rfl, te, hte, rfl⟩ := hdesc
    rcases DataW.trod_slice hd h with ⟨rfl, rfl⟩ | ⟨a, len, cap, elems, rest, n, hn, rfl, rfl, _, hl, hm, hlen, hel, _, _⟩
    ·exact ⟨([] : List (z8 te.ts)), ⟨_, rfl, none, 0, rfl, Nat.le_refl _, by simp, fun hp => absurd hp (by simp)⟩, ⟨by simp [maxLen], fun x hx => by cases hx⟩, rfl⟩
    ·have hn' : fuel = n := by omega
     subst hn'
     have hce := y2e hT hte
     obtain ⟨l, hll, hq⟩ := ysA (n := len) (Q := fun i (y : z8 te.ts) => okE te.ts y ∧ ∃ c : List Value, RdE (ZQ W) te.ts y (fun j => c[j]?) ∧ c.length = te.ts.length ∧ ∀ j, j < P.cellsOf e → W.cell? ((a.add (i * P.cellsOf e)).add j) = c[j]?) (fun i hil => by
      have he := hel i hil
      rw [List.getElem?_eq_getElem (by omega)] at he
      obtain ⟨cs', hc, ht'⟩ := Option.bind_eq_some_iff.1 he
      obtain ⟨y, hr, hok, hlc⟩ := ih e te cs' _ hte ht'
      obtain ⟨_, _, hat⟩ := World.cells?_some hc
      exact ⟨y, hok, cs', hr, hlc, hat⟩)
     have h63 : cap ≤ 9223372036854775807 := by simpa [maxLen] using hm
     refine ⟨l, ⟨_, rfl, some a, cap, by rw [hll], by omega, by omega, fun _ => ⟨a, rfl, fun j x hj => ?_⟩⟩, ⟨by omega, fun x hx => ?_⟩, rfl⟩
     ·obtain ⟨_, c, hr, hlc, hat⟩ := hq j x hj
      refine RdE.ext te.ts x _ _ (fun i v hi hv => ?_) hr
      rw [ycF, ← Go.Deep.add_add, ← hce, hat i (by omega)]
      exact hv
     ·obtain ⟨i, hi', rfl⟩ := List.getElem_of_mem hx
      exact (hq i _ (List.getElem?_eq_getElem hi')).1
  | s fs ts b =>
   obtain ⟨F, hF, hfo⟩ := hT.flds t fs ts b ht
   obtain ⟨xs, n, hn, _, hl, hlx, hf⟩ := DataW.trod_struct hF h
   have hn' : fuel = n := by omega
   subst hn'
   have hce := y2e hT ht
   have key : ∀ (fs : List (Nat × Nat)) (F : List Field) (ts : List Ty) (n0 : Nat) (xs : List (DataW H × List MemPlace)), qC C fs F ts n0 → xs.length = F.length → n0 + ts.length = cs.length → (∀ (i : Nat) (f : Field), F[i]? = some f → DataW.trod enc P W 0 (fun _ => true) true fuel f.type ((cs.drop f.offset).take (P.cellsOf f.type)) = xs[i]?) →
     ∃ y : z8 ts, RdE (ZQ W) ts y (fun i => cs[n0 + i]?) ∧ okE ts y := by
    intro fs
    induction fs with
    | nil =>
     intro F ts n0 xs hfo _ _ _
     cases F with
     | nil =>
      have : ts = [] := hfo
      subst this
      exact ⟨(), trivial, trivial⟩
     | cons _ _ => exact hfo.elim
    | cons q fs ihf =>
     intro F ts n0 xs hfo hxl hlen hf
     obtain ⟨off, t1⟩ := q
     cases F with
     | nil => exact hfo.elim
     | cons f1 F =>
      obtain ⟨rfl, h2, h3, ti1, ts', h4, rfl, h5⟩ := hfo
      have h0 := hf 0 f1 rfl
      cases xs with
      | nil => simp at hxl
      | cons x1 xs =>
       rw [h2, h3] at h0
       have hce1 := y2e hT h4
       obtain ⟨y1, r1, ok1, l1⟩ := ih t1 ti1 _ x1 h4 h0
       simp only [List.length_append] at hlen
       obtain ⟨y2, r2, ok2⟩ := ihf F ts' (off + ti1.ts.length) xs h5 (by simpa using hxl) (by omega) (fun i f hi => by simpa using hf (i + 1) f (by simpa using hi))
       refine y5P ti1.ts ts' y1 y2 _ (RdE.ext _ _ _ _ (fun i v hi hv => ?_) r1) (by
        have e : (fun i => cs[off + ti1.ts.length + i]?) = fun i => cs[off + (ti1.ts.length + i)]? := funext fun i => by rw [Nat.add_assoc]
        show RdE (ZQ W) ts' y2 (fun i => cs[off + (ti1.ts.length + i)]?)
        rw [← e]
        exact r2) ok1 ok2
       rw [List.getElem?_take, if_pos (by omega), List.getElem?_drop] at hv
       exact hv
   obtain ⟨y, hr, hok⟩ := key fs F.toList ts 0 xs hfo (by rw [hlx, Array.length_toList]) (by rw [hl, hce]; simp [TI.ts]) (fun i f hi => hf i f (by simpa using hi))
   have hr' : RdE (ZQ W) ts y (fun i => cs[i]?) := by simpa using hr
   exact ⟨y, hr', hok, by rw [hl, hce]⟩
end Go.Proofs.YtgediecndaheiaaGreat.R
