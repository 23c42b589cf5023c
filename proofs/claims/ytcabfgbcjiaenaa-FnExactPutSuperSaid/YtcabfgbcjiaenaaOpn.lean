/- Arguments of a law opened to plain values, whatever their depth: ints, bools, strings, slices and structs of these. No condition. -/
import Derived.Test.YtcabfgbcjiaenaaWWords
import Derived.Test.YtcabfgbcjiaenaaWLast
import Derived.Test.YtcabfgbcjiaenaaWMore
import Derived.Deep.Slices
import Derived.ChangeArms
import Derived.ChangeShapes
import Derived.WideShapes
namespace Go.Proofs.Ytcabfgbcjiaenaa.Opn
open Go.RowKit Go.ChangeShapes Go.WideShapes Go.Deep Go.Proofs.YtcabfgbcjiaenaaW.PrintWords Go.Proofs.YtcabfgbcjiaenaaW.PrintLast

/-- A type's reading as data opens to a plain value of the kind d that meets ok. -/
def Opens (P : Program) (t : TypeId) {α : Type} (d : Kd α) (ok : α → Prop) : Prop :=
  ∀ {H : Type} (enc : TypeId × Value → H) (W : World) (fuel : Nat) (cs : List Value) (x : DataW H × List MemPlace),
    DataW.trod enc P W 0 (fun _ => true) true fuel t cs = some x → ∃ a : α, d.K W a cs ∧ ok a

def okI (k : IntKind) (n : Int) : Prop := (Lit.int k n).wf = true
def okB (_ : Bool) : Prop := True
def okT (s : ByteArray) : Prop := s.size ≤ maxLen
def okS {α : Type} (ok : α → Prop) (l : List α) : Prop := l.length ≤ maxLen ∧ ∀ x ∈ l, ok x
def okP {α β : Type} (p : α → Prop) (q : β → Prop) (x : α × β) : Prop := p x.1 ∧ q x.2

variable {P : Program} {t e : TypeId}
theorem opens_int {k : IntKind} (h : P.underlying t = some (.int k)) : Opens P t (Kd.int k) (okI k) := by
  intro H enc W fuel cs x hx
  obtain ⟨n, rfl, rfl, wf⟩ := DataW.trod_int h hx
  exact ⟨n, rfl, wf⟩
theorem opens_bool (h : P.underlying t = some .bool) : Opens P t Kd.bool okB := by
  intro H enc W fuel cs x hx
  obtain ⟨b, rfl, rfl⟩ := DataW.trod_bool h hx
  exact ⟨b, rfl, trivial⟩
theorem opens_string (h : P.underlying t = some .string) : Opens P t Kd.string okT := by
  intro H enc W fuel cs x hx
  obtain ⟨s, rfl, rfl, hs⟩ := DataW.trod_string h hx
  exact ⟨s, rfl, hs⟩
theorem pick {α : Type} {n : Nat} {Q : Nat → α → Prop} (h : ∀ i, i < n → ∃ a, Q i a) : ∃ l : List α, l.length = n ∧ ∀ i a, l[i]? = some a → Q i a := by
  induction n with
  | zero => exact ⟨[], rfl, fun i a ha => by simp at ha⟩
  | succ n ih =>
    obtain ⟨l, hl, hq⟩ := ih (fun i hi => h i (by omega))
    obtain ⟨a, ha⟩ := h n (by omega)
    refine ⟨l ++ [a], by simp [hl], fun i b hb => ?_⟩
    by_cases hi : i < l.length
    · rw [List.getElem?_append_left hi] at hb
      exact hq i b hb
    · rw [List.getElem?_append_right (by omega)] at hb
      have h0 : i - l.length = 0 := by
        by_cases h0 : i - l.length = 0
        · exact h0
        · rw [List.getElem?_eq_none (by simp; omega)] at hb
          cases hb
      rw [h0] at hb
      have hb' : a = b := by simpa using hb
      subst hb'
      have : i = n := by omega
      subst this
      exact ha
theorem opens_slice {α : Type} {d : Kd α} {ok : α → Prop} (h : P.underlying t = some (.slice e)) (hs : d.sz = P.cellsOf e) (ho : Opens P e d ok) : Opens P t (Kd.slice e d) (okS ok) := by
  intro H enc W fuel cs x hx
  rcases open_slice h hx with ⟨rfl, _⟩ | ⟨a, len, cap, m, n, D, Pl, rfl, hb, hl, hm, hmm, _, hi⟩
  · exact ⟨[], ⟨none, 0, rfl, Nat.le_refl _, rfl, by simp, fun hp => absurd hp (Nat.lt_irrefl 0)⟩, by simp [maxLen], fun x hx => by cases hx⟩
  · have hcm : m = cap := by simpa using hmm
    obtain ⟨l, hll, hq⟩ := pick (n := len) (Q := fun i y => ok y ∧ ∃ c, d.K W y c ∧ ∀ j, j < P.cellsOf e → W.cell? ((a.add (i * P.cellsOf e)).add j) = c[j]?) (fun i hil => by
      obtain ⟨cs', hc, ht⟩ := hi i (by omega)
      obtain ⟨y, hK, hok⟩ := ho enc W n cs' _ ht
      obtain ⟨_, _, hat⟩ := World.cells?_some hc
      exact ⟨y, hok, cs', hK, hat⟩)
    have h63 : cap ≤ 9223372036854775807 := by simpa [maxLen] using hm
    refine ⟨l, ⟨some a, cap, by rw [hll], by omega, rfl, by omega, fun _ => ⟨a, rfl, fun j p hj => ?_⟩⟩, by omega, fun x hx => ?_⟩
    · obtain ⟨_, c, hK, hat⟩ := hq j p hj
      refine ⟨c, d.K_len hK, hK, fun i u hu => ?_⟩
      have hlt : i < c.length := (List.getElem?_eq_some_iff.1 hu).1
      rw [d.K_len hK] at hlt
      rw [← Go.Deep.add_add, hs, hat i (by omega), hu]
    · obtain ⟨i, hi', rfl⟩ := List.getElem_of_mem hx
      exact (hq i _ (List.getElem?_eq_getElem hi')).1

/-- A struct's fields from one on, each behind the other. -/
def OpensF (P : Program) (off : Nat) (fs : List Field) {α : Type} (d : Kd α) (ok : α → Prop) : Prop :=
  ∀ {H : Type} (enc : TypeId × Value → H) (W : World) (n : Nat) (cs : List Value) (xs : List (DataW H × List MemPlace)), xs.length = fs.length → off + d.sz ≤ cs.length →
    (∀ (i : Nat) (f : Field), fs[i]? = some f → DataW.trod enc P W 0 (fun _ => true) true n f.type ((cs.drop f.offset).take (P.cellsOf f.type)) = xs[i]?) →
    ∃ a : α, d.K W a ((cs.drop off).take d.sz) ∧ ok a
theorem opensF_one {off : Nat} {f : Field} {α : Type} {d : Kd α} {ok : α → Prop} (ho : f.offset = off) (hs : d.sz = P.cellsOf f.type) (h : Opens P f.type d ok) : OpensF P off [f] d ok := by
  intro H enc W n cs xs hx _ hf
  match xs, hx with
  | [y], _ =>
    have h0 := hf 0 f rfl
    rw [ho, ← hs] at h0
    exact h enc W n _ y h0
theorem opensF_cons {off : Nat} {f g : Field} {r : List Field} {α β : Type} {d : Kd α} {dr : Kd β} {ok : α → Prop} {okr : β → Prop} (ho : f.offset = off) (hs : d.sz = P.cellsOf f.type) (h : Opens P f.type d ok)
    (hr : OpensF P (off + d.sz) (g :: r) dr okr) : OpensF P off (f :: g :: r) (Kd.pair d dr) (okP ok okr) := by
  intro H enc W n cs xs hx hlen hf
  match xs, hx with
  | y :: ys, hx =>
    have hlen' : off + (d.sz + dr.sz) ≤ cs.length := hlen
    have h0 := hf 0 f rfl
    rw [ho, ← hs] at h0
    obtain ⟨a, ha, oka⟩ := h enc W n _ y h0
    obtain ⟨b, hb, okb⟩ := hr enc W n cs ys (by simpa using hx) (by omega) (fun i f' hi => by simpa using hf (i + 1) f' (by simpa using hi))
    refine ⟨(a, b), ⟨_, _, ?_, ha, hb⟩, oka, okb⟩
    show (cs.drop off).take (d.sz + dr.sz) = _
    rw [List.take_add, List.drop_drop]
theorem opens_struct {fs : Array Field} {α β : Type} {d : Kd α} {ok : α → Prop} {f : β → α} (g : α → β) (hg : ∀ y, f (g y) = y) (h : P.underlying t = some (.struct fs)) (hs : d.sz = P.cellsOf t) (ho : OpensF P 0 fs.toList d ok) :
    Opens P t (Kd.iso d f) (fun x => ok (f x)) := by
  intro H enc W fuel cs x hx
  obtain ⟨xs, n, _, _, hl, hlx, hf⟩ := DataW.trod_struct h hx
  obtain ⟨a, ha, oka⟩ := ho enc W n cs xs (by rw [hlx, Array.length_toList]) (by omega) (fun i f hi => hf i f (by simpa using hi))
  refine ⟨g a, ?_, by simpa only [hg] using oka⟩
  show d.K W (f (g a)) cs
  rw [hg]
  simpa [hs, ← hl] using ha
/-- A parameter that is a struct by value: its cells. -/
theorem opens_agg {fs : Array Field} {α : Type} {d : Kd α} {ok : α → Prop} {H : Type} {enc : TypeId × Value → H} {W : World} {r : Reach} {b0 : Nat} {v : Value} {dt : DataW H} {p : List MemPlace}
    (h : P.underlying t = some (.struct fs)) (ho : Opens P t d ok) (hv : Value.okWide P W r b0 t v) (ht : DataW.Trod enc P W 0 (fun _ => true) true t v dt p) : ∃ (a : α) (cs : List Value), v = .agg cs.toArray ∧ d.K W a cs ∧ ok a := by
  obtain ⟨cs, rfl, _⟩ := okWide_struct h hv
  obtain ⟨fuel, hf⟩ := ht
  obtain ⟨a, ha, oka⟩ := ho enc W fuel _ _ hf
  exact ⟨a, cs.toList, rfl, ha, oka⟩
theorem opens_arg {α : Type} {d : Kd α} {ok : α → Prop} {H : Type} {enc : TypeId × Value → H} {W : World} {v : Value} {dt : DataW H} {p : List MemPlace}
    (ho : Opens P t d ok) (ht : DataW.Trod enc P W 0 (fun _ => true) true t v dt p) : ∃ a : α, d.K W a v.cells.toList ∧ ok a := by
  obtain ⟨fuel, hf⟩ := ht
  exact ho enc W fuel _ _ hf
end Go.Proofs.Ytcabfgbcjiaenaa.Opn
