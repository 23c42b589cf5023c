/- The types of the program lie as a table says: a check by evaluation. No condition. -/
import Derived.Test.YtgediecndaheiaaGreatRShape
set_option linter.all false
namespace Go.Proofs.YtgediecndaheiaaGreat.R
open Go.RowKit
variable {P : Program} {C : Ctx}
def y8D : Ty → Value → Bool
 | .int k, .int k' n => decide (k = k') && decide (n = 0)
 | .bool, .bool b => !b
 | .str, .string s => Nat.beq s.data.size 0
 | .sl _ _, .slice none n c => Nat.beq n 0 && Nat.beq c 0
 | _, _ => false
def y5N : List Ty → List Value → Bool
 | [], [] => true
 | t :: ts, v :: vs => y8D t v && y5N ts vs
 | _, _ => false
theorem ygi : ∀ (t : Ty) (v : Value), y8D t v = true → v = y0B t := by
 intro t v h
 cases t with
 | int k =>
  cases v <;> simp [y8D] at h
  obtain ⟨rfl, rfl⟩ := h
  rfl
 | bool =>
  cases v <;> simp [y8D] at h
  subst h
  rfl
 | str =>
  cases v <;> try (simp [y8D] at h; done)
  rename_i s
  have := Nat.eq_of_beq_eq_true h
  obtain ⟨d⟩ := s
  have : d = #[] := Array.eq_empty_of_size_eq_zero this
  subst this
  rfl
 | sl e ts =>
  cases v <;> try (simp [y8D] at h; done)
  rename_i a n c
  cases a with
  | some _ => simp [y8D] at h
  | none =>
   simp only [y8D, Bool.and_eq_true] at h
   rw [Nat.eq_of_beq_eq_true h.1, Nat.eq_of_beq_eq_true h.2]
   rfl
theorem y8E : ∀ (ts : List Ty) (vs : List Value), y5N ts vs = true → vs = ts.map y0B
 | [], [], _ => rfl
 | t :: ts, v :: vs, h => by
  simp only [y5N, Bool.and_eq_true] at h
  rw [ygi t v h.1, y8E ts vs h.2]
  rfl
 | [], _ :: _, h => by simp [y5N] at h
 | _ :: _, [], h => by simp [y5N] at h
def y47 : List Ty → List Ty → Option (List Ty)
 | [], l => some l
 | t :: r, u :: l => bif Ty.eqb t u then y47 r l else none
 | _ :: _, [] => none
theorem y5O : ∀ (p l l' : List Ty), y47 p l = some l' → l = p ++ l'
 | [], l, l', h => by injection h
 | t :: r, u :: l, l', h => by
  rw [y47] at h
  cases hb : Ty.eqb t u with
  | false => simp [hb] at h
  | true =>
   rw [hb, cond_true] at h
   rw [Ty.eqb_eq _ _ hb, y5O r l l' h]
   rfl
 | _ :: _, [], _, h => by simp [y47] at h
def yjp (C : Ctx) : List (Nat × Nat) → List Field → List Ty → Nat → Bool
 | [], [], ts, _ => KZ ts
 | (off, t) :: fs, f :: F, ts, n => Nat.beq off n && Nat.beq f.offset n && Nat.beq f.type t && match C.info t with
  | some ti => (match y47 ti.ts ts with
   | some ts' => yjp C fs F ts' (n + ti.ts.length)
   | none => false)
  | none => false
 | _, _, _, _ => false
theorem yef : ∀ (fs : List (Nat × Nat)) (F : List Field) (ts : List Ty) (n : Nat), yjp C fs F ts n = true → qC C fs F ts n
 | [], [], ts, n, h => by
  cases ts with
  | nil => rfl
  | cons _ _ => simp [yjp, KZ] at h
 | (off, t) :: fs, f :: F, ts, n, h => by
  simp only [yjp, Bool.and_eq_true] at h
  obtain ⟨⟨⟨h1, h2⟩, h3⟩, h4⟩ := h
  split at h4
  ·rename_i ti hti
   split at h4
   ·rename_i ts' hd
    exact ⟨Nat.eq_of_beq_eq_true h1, Nat.eq_of_beq_eq_true h2, Nat.eq_of_beq_eq_true h3, ti, ts', hti, y5O _ _ _ hd, yef fs F ts' _ h4⟩
   ·cases h4
  ·cases h4
 | [], _ :: _, _, _, h => by simp [yjp] at h
 | _ :: _, [], _, _, h => by simp [yjp] at h
theorem y8F : ∀ (fs : List (Nat × Nat)) (F : List Field) (ts : List Ty) (n : Nat), qC C fs F ts n → F.length = fs.length ∧ ∀ (f off t : Nat), fs[f]? = some (off, t) → ∃ fl, F[f]? = some fl ∧ fl.offset = off ∧ fl.type = t ∧ ∃ ti, C.info t = some ti ∧ off + ti.ts.length ≤ n + ts.length
 | [], [], ts, n, h => ⟨rfl, fun f off t hf => by simp at hf⟩
 | (o1, t1) :: fs, f1 :: F, ts, n, h => by
  obtain ⟨rfl, h2, h3, ti, ts', h4, rfl, h5⟩ := h
  obtain ⟨i1, i2⟩ := y8F fs F ts' _ h5
  refine ⟨by simp [i1], fun f off t hf => ?_⟩
  cases f with
  | zero =>
   simp only [List.getElem?_cons_zero, Option.some.injEq, Prod.mk.injEq] at hf
   obtain ⟨rfl, rfl⟩ := hf
   exact ⟨f1, rfl, h2, h3, ti, h4, by simp⟩
  | succ f =>
   obtain ⟨fl, j1, j2, j3, ti', j4, j5⟩ := i2 f off t (by simpa using hf)
   refine ⟨fl, by simpa using j1, j2, j3, ti', j4, ?_⟩
   simp only [List.length_append]
   omega
 | [], _ :: _, _, _, h => h.elim
 | _ :: _, [], _, _, h => h.elim
def y6r (C : Ctx) : TI → TypeDesc → Bool
 | .c (.int k) _, .int k' => decide (k' = k)
 | .c .bool _, .bool => true
 | .c .str _, .string => true
 | .c (.sl e ts) _, .slice e' => Nat.beq e' e && match C.info e with
  | some te => Ty.eqbs te.ts ts
  | none => false
 | .s fs ts _, .struct F => yjp C fs F.toList ts 0
 | _, _ => false
theorem ybE {ti : TI} {d : TypeDesc} (h : y6r C ti d = true) : y85 C P ti d ∧ ∀ fs ts b, ti = .s fs ts b → ∃ F, d = .struct F ∧ qC C fs F.toList ts 0 := by
 cases ti with
 | c t b =>
  refine ⟨?_, fun fs ts b h => by cases h⟩
  cases t with
  | int k =>
   cases d <;> simp [y6r] at h
   subst h
   rfl
  | bool => cases d <;> simp [y6r] at h; rfl
  | str => cases d <;> simp [y6r] at h; rfl
  | sl e ts =>
   cases d <;> try (simp [y6r] at h; done)
   rename_i e'
   simp only [y6r, Bool.and_eq_true] at h
   have he := Nat.eq_of_beq_eq_true h.1
   have h2 := h.2
   split at h2
   ·rename_i te hte
    exact ⟨by rw [he], te, hte, Ty.eqbs_eq _ _ h2⟩
   ·cases h2
 | s fs ts b =>
  cases d <;> try (simp [y6r] at h; done)
  rename_i F
  have hf := yef fs F.toList ts 0 h
  obtain ⟨h1, h2⟩ := y8F fs F.toList ts 0 hf
  refine ⟨⟨F, rfl, by simpa using h1, fun f off t hft => ?_⟩, fun fs' ts' b' h => by
   injection h with e1 e2 e3
   subst e1 e2
   exact ⟨F, rfl, hf⟩⟩
  obtain ⟨fl, j1, j2, j3, ti, j4, j5⟩ := h2 f off t hft
  exact ⟨fl, by simpa using j1, j2, j3, ti, j4, by simpa using j5⟩
def eqB (P : Program) (t : Nat) : TI → Bool
 | .c _ _ => true
 | .s _ _ _ => !P.stoodInHeld t && !P.eqGuardType P.depth t && (P.fieldsOf t).toList.all fun f => f.name != "_"
def tiB (P : Program) (C : Ctx) (t : Nat) (ti : TI) : Bool := match P.info? t, P.underlying t with
 | some i, some d => Nat.beq i.size ti.ts.length && Nat.beq i.bytes ti.bytes && (match i.zero with
  | some z => y5N ti.ts z.cells.toList
  | none => false) && Nat.blt 0 ti.ts.length && Nat.blt 0 ti.bytes && y6r C ti d && eqB P t ti
 | _, _ => false
def ysz (P : Program) (C : Ctx) : List (Nat × TI) → Bool
 | [] => true
 | (t, ti) :: r => tiB P C t ti && ysz P C r
theorem y8G {α : Type} {p : Nat → α → Bool} : ∀ (l : List (Nat × α)), (∀ q ∈ l, p q.1 q.2 = true) → ∀ i x, y9B l i = some x → p i x = true
 | (j, y) :: r, h, i, x, hx => by
  rw [y9B] at hx
  by_cases hj : j = i
  ·subst hj
   rw [yw, cond_true] at hx
   injection hx with hx
   subst hx
   exact h (j, y) (by simp)
  ·rw [yF hj, cond_false] at hx
   exact y8G r (fun q hq => h q (by simp [hq])) i x hx
theorem ym8 {l : List (Nat × TI)} (hC : C.info = y9B l) (h : ysz P C l = true) : TOk C P := by
 have hall : ∀ t ti, C.info t = some ti → tiB P C t ti = true := by
  rw [hC]
  refine y8G (p := tiB P C) l ?_
  clear hC
  induction l with
  | nil => intro q hq; simp at hq
  | cons q l ih =>
   obtain ⟨t, ti⟩ := q
   simp only [ysz, Bool.and_eq_true] at h
   intro p hp
   rcases List.mem_cons.1 hp with rfl | hp
   ·exact h.1
   ·exact ih h.2 p hp
 have main : ∀ t ti, C.info t = some ti → ∃ i z d, P.info? t = some i ∧ P.underlying t = some d ∧ i.size = ti.ts.length ∧ i.bytes = ti.bytes ∧ i.zero = some z ∧ z.cells.toList = ti.ts.map y0B ∧ 0 < ti.ts.length ∧ 0 < ti.bytes ∧ y6r C ti d = true ∧ eqB P t ti = true := fun t ti ht => by
  have hb := hall t ti ht
  unfold tiB at hb
  split at hb
  ·rename_i i d hi hd
   simp only [Bool.and_eq_true] at hb
   obtain ⟨⟨⟨⟨⟨⟨h1, h2⟩, h3⟩, h4⟩, h5⟩, h6⟩, h7⟩ := hb
   split at h3
   ·rename_i z hz
    exact ⟨i, z, d, hi, hd, Nat.eq_of_beq_eq_true h1, Nat.eq_of_beq_eq_true h2, hz, y8E _ _ h3, kD h4, kD h5, h6, h7⟩
   ·cases h3
  ·cases hb
 refine ⟨fun t ti ht => ?_, fun t ti ht => ?_, fun t fs ts b ht => ?_, fun t fs ts b ht => ?_⟩
 ·obtain ⟨i, z, d, a1, a2, a3, a4, a5, a6, a7, a8, a9, a10⟩ := main t ti ht
  exact ⟨i, z, a1, a3, a4, a5, a6, a7, a8⟩
 ·obtain ⟨i, z, d, a1, a2, a3, a4, a5, a6, a7, a8, a9, a10⟩ := main t ti ht
  exact ⟨d, a2, (ybE a9).1⟩
 ·obtain ⟨i, z, d, a1, a2, a3, a4, a5, a6, a7, a8, a9, a10⟩ := main t _ ht
  obtain ⟨F, rfl, hF⟩ := (ybE (P := P) a9).2 fs ts b rfl
  exact ⟨F, a2, hF⟩
 ·obtain ⟨i, z, d, a1, a2, a3, a4, a5, a6, a7, a8, a9, a10⟩ := main t _ ht
  simp only [eqB, Bool.and_eq_true, Bool.not_eq_true', List.all_eq_true, bne_iff_ne] at a10
  exact ⟨a10.1.1, a10.1.2, a10.2⟩
end Go.Proofs.YtgediecndaheiaaGreat.R
