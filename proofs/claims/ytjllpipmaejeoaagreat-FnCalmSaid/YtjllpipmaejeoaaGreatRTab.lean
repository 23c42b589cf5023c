/- The types of the program lie as a table says: a check by evaluation. No condition. -/
import Derived.Test.YtjllpipmaejeoaaGreatRShape
set_option linter.all false
namespace Go.Proofs.YtjllpipmaejeoaaGreat.R
open Go.RowKit
variable {P : Program} {C : Ctx}
def y9G : Ty → Value → Bool
 | .int k, .int k' n => decide (k = k') && decide (n = 0)
 | .bool, .bool b => !b
 | .str, .string s => Nat.beq s.data.size 0
 | .sl _ _, .slice none n c => Nat.beq n 0 && Nat.beq c 0
 | _, _ => false
def y6t : List Ty → List Value → Bool
 | [], [] => true
 | t :: ts, v :: vs => y9G t v && y6t ts vs
 | _, _ => false
theorem yi1 : ∀ (t : Ty) (v : Value), y9G t v = true → v = y10 t := by
 intro t v h
 cases t with
 | int k =>
  cases v <;> simp [y9G] at h
  obtain ⟨rfl, rfl⟩ := h
  rfl
 | bool =>
  cases v <;> simp [y9G] at h
  subst h
  rfl
 | str =>
  cases v <;> try (simp [y9G] at h; done)
  rename_i s
  have := Nat.eq_of_beq_eq_true h
  obtain ⟨d⟩ := s
  have : d = #[] := Array.eq_empty_of_size_eq_zero this
  subst this
  rfl
 | sl e ts =>
  cases v <;> try (simp [y9G] at h; done)
  rename_i a n c
  cases a with
  | some _ => simp [y9G] at h
  | none =>
   simp only [y9G, Bool.and_eq_true] at h
   rw [Nat.eq_of_beq_eq_true h.1, Nat.eq_of_beq_eq_true h.2]
   rfl
theorem y9H : ∀ (ts : List Ty) (vs : List Value), y6t ts vs = true → vs = ts.map y10
 | [], [], _ => rfl
 | t :: ts, v :: vs, h => by
  simp only [y6t, Bool.and_eq_true] at h
  rw [yi1 t v h.1, y9H ts vs h.2]
  rfl
 | [], _ :: _, h => by simp [y6t] at h
 | _ :: _, [], h => by simp [y6t] at h
def y4L : List Ty → List Ty → Option (List Ty)
 | [], l => some l
 | t :: r, u :: l => bif Ty.eqb t u then y4L r l else none
 | _ :: _, [] => none
theorem y6u : ∀ (p l l' : List Ty), y4L p l = some l' → l = p ++ l'
 | [], l, l', h => by injection h
 | t :: r, u :: l, l', h => by
  rw [y4L] at h
  cases hb : Ty.eqb t u with
  | false => simp [hb] at h
  | true =>
   rw [hb, cond_true] at h
   rw [Ty.eqb_eq _ _ hb, y6u r l l' h]
   rfl
 | _ :: _, [], _, h => by simp [y4L] at h
def ykI (C : Ctx) : List (Nat × Nat) → List Field → List Ty → Nat → Bool
 | [], [], ts, _ => vc ts
 | (off, t) :: fs, f :: F, ts, n => Nat.beq off n && Nat.beq f.offset n && Nat.beq f.type t && match C.info t with
  | some ti => (match y4L ti.ts ts with
   | some ts' => ykI C fs F ts' (n + ti.ts.length)
   | none => false)
  | none => false
 | _, _, _, _ => false
theorem yfy : ∀ (fs : List (Nat × Nat)) (F : List Field) (ts : List Ty) (n : Nat), ykI C fs F ts n = true → qI C fs F ts n
 | [], [], ts, n, h => by
  cases ts with
  | nil => rfl
  | cons _ _ => simp [ykI, vc] at h
 | (off, t) :: fs, f :: F, ts, n, h => by
  simp only [ykI, Bool.and_eq_true] at h
  obtain ⟨⟨⟨h1, h2⟩, h3⟩, h4⟩ := h
  split at h4
  ·rename_i ti hti
   split at h4
   ·rename_i ts' hd
    exact ⟨Nat.eq_of_beq_eq_true h1, Nat.eq_of_beq_eq_true h2, Nat.eq_of_beq_eq_true h3, ti, ts', hti, y6u _ _ _ hd, yfy fs F ts' _ h4⟩
   ·cases h4
  ·cases h4
 | [], _ :: _, _, _, h => by simp [ykI] at h
 | _ :: _, [], _, _, h => by simp [ykI] at h
theorem y9I : ∀ (fs : List (Nat × Nat)) (F : List Field) (ts : List Ty) (n : Nat), qI C fs F ts n → F.length = fs.length ∧ ∀ (f off t : Nat), fs[f]? = some (off, t) → ∃ fl, F[f]? = some fl ∧ fl.offset = off ∧ fl.type = t ∧ ∃ ti, C.info t = some ti ∧ off + ti.ts.length ≤ n + ts.length
 | [], [], ts, n, h => ⟨rfl, fun f off t hf => by simp at hf⟩
 | (o1, t1) :: fs, f1 :: F, ts, n, h => by
  obtain ⟨rfl, h2, h3, ti, ts', h4, rfl, h5⟩ := h
  obtain ⟨i1, i2⟩ := y9I fs F ts' _ h5
  refine ⟨by simp [i1], fun f off t hf => ?_⟩
  cases f with
  | zero =>
   simp only [List.getElem?_cons_zero, Option.some.injEq, Prod.mk.injEq] at hf
   obtain ⟨rfl, rfl⟩ := hf
   exact ⟨f1, rfl, h2, h3, ti, h4, by simp⟩
  | succ f =>
   obtain ⟨fl, j1, j2, j3, ti', j4, j5⟩ := i2 f off t (by simpa using hf)
   refine ⟨fl, by simpa using j1, j2, j3, ti', j4, ?_⟩
   simp only [List.length_append]
   omega
 | [], _ :: _, _, _, h => h.elim
 | _ :: _, [], _, _, h => h.elim
def y7e (C : Ctx) : TI → TypeDesc → Bool
 | .c (.int k) _, .int k' => decide (k' = k)
 | .c .bool _, .bool => true
 | .c .str _, .string => true
 | .c (.sl e ts) _, .slice e' => Nat.beq e' e && match C.info e with
  | some te => Ty.eqbs te.ts ts
  | none => false
 | .s fs ts _, .struct F => ykI C fs F.toList ts 0
 | _, _ => false
theorem ycZ {ti : TI} {d : TypeDesc} (h : y7e C ti d = true) : y99 C P ti d ∧ ∀ fs ts b, ti = .s fs ts b → ∃ F, d = .struct F ∧ qI C fs F.toList ts 0 := by
 cases ti with
 | c t b =>
  refine ⟨?_, fun fs ts b h => by cases h⟩
  cases t with
  | int k =>
   cases d <;> simp [y7e] at h
   subst h
   rfl
  | bool => cases d <;> simp [y7e] at h; rfl
  | str => cases d <;> simp [y7e] at h; rfl
  | sl e ts =>
   cases d <;> try (simp [y7e] at h; done)
   rename_i e'
   simp only [y7e, Bool.and_eq_true] at h
   have he := Nat.eq_of_beq_eq_true h.1
   have h2 := h.2
   split at h2
   ·rename_i te hte
    exact ⟨by rw [he], te, hte, Ty.eqbs_eq _ _ h2⟩
   ·cases h2
 | s fs ts b =>
  cases d <;> try (simp [y7e] at h; done)
  rename_i F
  have hf := yfy fs F.toList ts 0 h
  obtain ⟨h1, h2⟩ := y9I fs F.toList ts 0 hf
  refine ⟨⟨F, rfl, by simpa using h1, fun f off t hft => ?_⟩, fun fs' ts' b' h => by
   injection h with e1 e2 e3
   subst e1 e2
   exact ⟨F, rfl, hf⟩⟩
  obtain ⟨fl, j1, j2, j3, ti, j4, j5⟩ := h2 f off t hft
  exact ⟨fl, by simpa using j1, j2, j3, ti, j4, by simpa using j5⟩
def eqB (P : Program) (t : Nat) : TI → Bool
 | .c _ _ => true
 | .s _ _ _ => !P.stoodInHeld t && !P.eqGuardType P.depth t && (P.fieldsOf t).toList.all fun f => f.name != "_"
def tiB (P : Program) (C : Ctx) (t : Nat) (ti : TI) : Bool := match P.info? t, P.underlying t with
 | some i, some d => Nat.beq i.size ti.ts.length && Nat.beq i.bytes ti.bytes && (match i.zero with
  | some z => y6t ti.ts z.cells.toList
  | none => false) && Nat.blt 0 ti.ts.length && Nat.blt 0 ti.bytes && y7e C ti d && eqB P t ti
 | _, _ => false
def yuH (P : Program) (C : Ctx) : List (Nat × TI) → Bool
 | [] => true
 | (t, ti) :: r => tiB P C t ti && yuH P C r
theorem y9J {α : Type} {p : Nat → α → Bool} : ∀ (l : List (Nat × α)), (∀ q ∈ l, p q.1 q.2 = true) → ∀ i x, yaZ l i = some x → p i x = true
 | (j, y) :: r, h, i, x, hx => by
  rw [yaZ] at hx
  by_cases hj : j = i
  ·subst hj
   rw [yu, cond_true] at hx
   injection hx with hx
   subst hx
   exact h (j, y) (by simp)
  ·rw [yJ hj, cond_false] at hx
   exact y9J r (fun q hq => h q (by simp [hq])) i x hx
theorem ynQ {l : List (Nat × TI)} (hC : C.info = yaZ l) (h : yuH P C l = true) : TOk C P := by
 have hall : ∀ t ti, C.info t = some ti → tiB P C t ti = true := by
  rw [hC]
  refine y9J (p := tiB P C) l ?_
  clear hC
  induction l with
  | nil => intro q hq; simp at hq
  | cons q l ih =>
   obtain ⟨t, ti⟩ := q
   simp only [yuH, Bool.and_eq_true] at h
   intro p hp
   rcases List.mem_cons.1 hp with rfl | hp
   ·exact h.1
   ·exact ih h.2 p hp
 have main : ∀ t ti, C.info t = some ti → ∃ i z d, P.info? t = some i ∧ P.underlying t = some d ∧ i.size = ti.ts.length ∧ i.bytes = ti.bytes ∧ i.zero = some z ∧ z.cells.toList = ti.ts.map y10 ∧ 0 < ti.ts.length ∧ 0 < ti.bytes ∧ y7e C ti d = true ∧ eqB P t ti = true := fun t ti ht => by
  have hb := hall t ti ht
  unfold tiB at hb
  split at hb
  ·rename_i i d hi hd
   simp only [Bool.and_eq_true] at hb
   obtain ⟨⟨⟨⟨⟨⟨h1, h2⟩, h3⟩, h4⟩, h5⟩, h6⟩, h7⟩ := hb
   split at h3
   ·rename_i z hz
    exact ⟨i, z, d, hi, hd, Nat.eq_of_beq_eq_true h1, Nat.eq_of_beq_eq_true h2, hz, y9H _ _ h3, kC h4, kC h5, h6, h7⟩
   ·cases h3
  ·cases hb
 refine ⟨fun t ti ht => ?_, fun t ti ht => ?_, fun t fs ts b ht => ?_, fun t fs ts b ht => ?_⟩
 ·obtain ⟨i, z, d, a1, a2, a3, a4, a5, a6, a7, a8, a9, a10⟩ := main t ti ht
  exact ⟨i, z, a1, a3, a4, a5, a6, a7, a8⟩
 ·obtain ⟨i, z, d, a1, a2, a3, a4, a5, a6, a7, a8, a9, a10⟩ := main t ti ht
  exact ⟨d, a2, (ycZ a9).1⟩
 ·obtain ⟨i, z, d, a1, a2, a3, a4, a5, a6, a7, a8, a9, a10⟩ := main t _ ht
  obtain ⟨F, rfl, hF⟩ := (ycZ (P := P) a9).2 fs ts b rfl
  exact ⟨F, a2, hF⟩
 ·obtain ⟨i, z, d, a1, a2, a3, a4, a5, a6, a7, a8, a9, a10⟩ := main t _ ht
  simp only [eqB, Bool.and_eq_true, Bool.not_eq_true', List.all_eq_true, bne_iff_ne] at a10
  exact ⟨a10.1.1, a10.1.2, a10.2⟩
end Go.Proofs.YtjllpipmaejeoaaGreat.R
