/- EntDraw, GetEnt, GetEnt2, GetEnt3, PutEnt, MarkB. No condition. -/
import Derived.Test.YtmanmgafjbnakaaPPut4
/- What is drawn: operations, entries. No condition. -/
namespace Go.Proofs.Ytmanmgafjbnakaa.Pl
open Go.Proofs.Ytmanmgafjbnakaa.R Go.Proofs.Ytmanmgafjbnakaa.XE
set_option linter.unusedVariables false
set_option linter.unusedSimpArgs false

/-- A step that gives an operation. -/
def givesO (o : Option (Int × ByteArray × ByteArray × Int × Int × List Int × Int × Int)) (c : List Int) : Prop := ∃ k n t a b p s, o = some (k, n, t, a, b, c, p, s) ∧ curOk c p ∧ ByteArray.size n ≤ 60 ∧ ByteArray.size t ≤ 60
theorem leaf0 {c : List Int} {p s k a b : Int} {n t : ByteArray} (h : curOk c p) (hn : n.size ≤ 60) (ht : t.size ≤ 60) : givesO (some (k, n, t, a, b, c, p, s)) c := ⟨_, _, _, _, _, _, _, rfl, h, hn, ht⟩
theorem size0 : (⟨#[]⟩ : ByteArray).size ≤ 60 := by decide
theorem cond_split {A : Type} {P : A → Prop} (b : Bool) {x y : A} (hx : P x) (hy : P y) : P (bif b then x else y) := by cases b <;> assumption
end Go.Proofs.Ytmanmgafjbnakaa.Pl

/- An entry out of bytes, both sides. No condition. -/
namespace Go.Proofs.Ytmanmgafjbnakaa.Pl
open Go.Proofs.Ytmanmgafjbnakaa.R Go.Proofs.Ytmanmgafjbnakaa.XE
set_option linter.unusedVariables false
set_option linter.unusedSimpArgs false

/-! ### An operation out of bytes -/
def oT1 (l : List Int) (i : Int) := getT l (i + 1)
def oT2 (l : List Int) (i : Int) := getT l (oT1 l i).2.1
def oW1 (l : List Int) (i : Int) := getW l (oT2 l i).2.1
def oW2 (l : List Int) (i : Int) := getW l (oW1 l i).2.1
def opv (l : List Int) (i : Int) : Int × ByteArray × ByteArray × Int × Int × Int := (by_ l i, (oT1 l i).1, (oT2 l i).1, (oW1 l i).1, (oW2 l i).1, (oW2 l i).2.1)
def opv0 : Int × ByteArray × ByteArray × Int × Int × Int := (0, noB, noB, 0, 0, 0)
def opk (l : List Int) (i : Int) : Bool :=
  decide (i < l.length) && (oT1 l i).2.2 && (oT2 l i).2.2 && (oW1 l i).2.2 && (oW2 l i).2.2 && opOk (by_ l i) (oT1 l i).1 (oT2 l i).1 (oW1 l i).1 (oW2 l i).1
theorem getW_next (l : List Int) (i : Int) : 0 ≤ (getW l i).2.1 ∧ (getW l i).2.1 ≤ l.length := by
  unfold getW
  split
  · rename_i h
    exact ⟨by simp only; omega, h.2⟩
  · simp only
    omega
theorem size60 {s : ByteArray} (h : s.size ≤ 60) : s.size ≤ maxLen := by
  simp only [maxLen]
  omega
def opBad (l : List Int) (a : Int) : Int × ByteArray × ByteArray × Int × Int × List Int × Int × Bool := (0, noB, noB, 0, 0, l, a, true)
end Go.Proofs.Ytmanmgafjbnakaa.Pl

/- An entry out of bytes: a shorter list. No condition. -/
namespace Go.Proofs.Ytmanmgafjbnakaa.Pl
open Go.Proofs.Ytmanmgafjbnakaa.R Go.Proofs.Ytmanmgafjbnakaa.XE
set_option linter.unusedVariables false
set_option linter.unusedSimpArgs false

/-! ### A shorter list -/
theorem w2_take {l : List Int} {n : Nat} {i : Int} (h0 : 0 ≤ i) (hi : i + 2 ≤ n) : w2 (l.take n) i = w2 l i := by
  unfold w2
  rw [by_take (by omega), by_take (by omega)]
theorem getW_take {l : List Int} {n : Nat} (hn : n ≤ l.length) (i : Int) : ((getW (l.take n) i).2.2 = true → getW l i = getW (l.take n) i ∧ (getW (l.take n) i).2.1 ≤ n) ∧ ((getW l i).2.2 = true → (getW l i).2.1 ≤ n → getW (l.take n) i = getW l i) := by
  have hlen : (l.take n).length = n := by simp; omega
  constructor
  · intro h
    by_cases hc : 0 ≤ i ∧ i + 2 ≤ (l.take n).length
    · have e1 : getW (l.take n) i = (w2 (l.take n) i, i + 2, true) := if_pos hc
      rw [hlen] at hc
      have e2 : getW l i = (w2 l i, i + 2, true) := if_pos ⟨hc.1, by omega⟩
      rw [e1, e2, w2_take hc.1 hc.2]
      exact ⟨rfl, hc.2⟩
    · have e1 : getW (l.take n) i = (0, 0, false) := if_neg hc
      rw [e1] at h
      exact absurd h (by simp)
  · intro h hle
    by_cases hc : 0 ≤ i ∧ i + 2 ≤ l.length
    · have e2 : getW l i = (w2 l i, i + 2, true) := if_pos hc
      rw [e2] at hle
      simp only at hle
      have e1 : getW (l.take n) i = (w2 (l.take n) i, i + 2, true) := if_pos ⟨hc.1, by rw [hlen]; exact hle⟩
      rw [e1, e2, w2_take hc.1 hle]
    · have e2 : getW l i = (0, 0, false) := if_neg hc
      rw [e2] at h
      exact absurd h (by simp)
theorem getT_take {l : List Int} {n : Nat} (hb : isBytes l) (hn : n ≤ l.length) (i : Int) : ((getT (l.take n) i).2.2 = true → getT l i = getT (l.take n) i ∧ (getT (l.take n) i).2.1 ≤ n) ∧ ((getT l i).2.2 = true → (getT l i).2.1 ≤ n → getT (l.take n) i = getT l i) := by
  have hlen : (l.take n).length = n := by simp; omega
  have hr := w2_range hb i
  have same : 0 ≤ i → i + 2 + w2 l i ≤ n → (l.take n).take (i + 2 + w2 l i).toNat = l.take (i + 2 + w2 l i).toNat := by
    intro h0 h
    rw [List.take_take, Nat.min_eq_left (by omega)]
  constructor
  · intro h
    by_cases hc : 0 ≤ i ∧ i + 2 ≤ (l.take n).length ∧ w2 (l.take n) i ≤ 60 ∧ i + 2 + w2 (l.take n) i ≤ (l.take n).length
    · have e1 : getT (l.take n) i = (textOf (((l.take n).take (i + 2 + w2 (l.take n) i).toNat).drop (i + 2).toNat), i + 2 + w2 (l.take n) i, true) := if_pos hc
      rw [hlen] at hc
      have ew : w2 (l.take n) i = w2 l i := w2_take hc.1 hc.2.1
      rw [ew] at hc e1
      have e2 : getT l i = (textOf ((l.take (i + 2 + w2 l i).toNat).drop (i + 2).toNat), i + 2 + w2 l i, true) := if_pos ⟨hc.1, by omega, hc.2.2.1, by omega⟩
      rw [e1, e2, same hc.1 hc.2.2.2]
      exact ⟨rfl, hc.2.2.2⟩
    · have e1 : getT (l.take n) i = (noB, 0, false) := if_neg hc
      rw [e1] at h
      exact absurd h (by simp)
  · intro h hle
    by_cases hc : 0 ≤ i ∧ i + 2 ≤ l.length ∧ w2 l i ≤ 60 ∧ i + 2 + w2 l i ≤ l.length
    · have e2 : getT l i = (textOf ((l.take (i + 2 + w2 l i).toNat).drop (i + 2).toNat), i + 2 + w2 l i, true) := if_pos hc
      rw [e2] at hle
      simp only at hle
      have ew : w2 (l.take n) i = w2 l i := w2_take hc.1 (by omega)
      have e1 : getT (l.take n) i = (textOf (((l.take n).take (i + 2 + w2 (l.take n) i).toNat).drop (i + 2).toNat), i + 2 + w2 (l.take n) i, true) := if_pos ⟨hc.1, by rw [hlen]; omega, by rw [ew]; exact hc.2.2.1, by rw [hlen, ew]; omega⟩
      rw [e1, e2, ew, same hc.1 hle]
    · have e2 : getT l i = (noB, 0, false) := if_neg hc
      rw [e2] at h
      exact absurd h (by simp)
theorem op_next {l : List Int} (hb : isBytes l) {i : Int} (hk : opk l i = true) : (oT1 l i).2.1 ≤ (oT2 l i).2.1 ∧ (oT2 l i).2.1 ≤ (oW1 l i).2.1 ∧ (oW1 l i).2.1 ≤ (oW2 l i).2.1 ∧ i < (oT1 l i).2.1 := by
  have tn : ∀ j, (getT l j).2.2 = true → j + 2 ≤ (getT l j).2.1 := by
    intro j h
    have := w2_range hb j
    by_cases hc : 0 ≤ j ∧ j + 2 ≤ l.length ∧ w2 l j ≤ 60 ∧ j + 2 + w2 l j ≤ l.length
    · have e2 : getT l j = (textOf ((l.take (j + 2 + w2 l j).toNat).drop (j + 2).toNat), j + 2 + w2 l j, true) := if_pos hc
      rw [e2]
      simp only
      omega
    · have e2 : getT l j = (noB, 0, false) := if_neg hc
      rw [e2] at h
      exact absurd h (by simp)
  have wn : ∀ j, (getW l j).2.2 = true → j + 2 ≤ (getW l j).2.1 := by
    intro j h
    by_cases hc : 0 ≤ j ∧ j + 2 ≤ l.length
    · have e2 : getW l j = (w2 l j, j + 2, true) := if_pos hc
      rw [e2]
      exact Int.le_refl _
    · have e2 : getW l j = (0, 0, false) := if_neg hc
      rw [e2] at h
      exact absurd h (by simp)
  unfold opk at hk
  simp only [Bool.and_eq_true, decide_eq_true_eq] at hk
  obtain ⟨⟨⟨⟨⟨_, k1⟩, k2⟩, k3⟩, k4⟩, _⟩ := hk
  have a1 : i + 1 + 2 ≤ (oT1 l i).2.1 := tn _ k1
  have a2 : (oT1 l i).2.1 + 2 ≤ (oT2 l i).2.1 := tn _ k2
  have a3 : (oT2 l i).2.1 + 2 ≤ (oW1 l i).2.1 := wn _ k3
  have a4 : (oW1 l i).2.1 + 2 ≤ (oW2 l i).2.1 := wn _ k4
  omega
theorem op_take {l : List Int} {n : Nat} (hb : isBytes l) (hn : n ≤ l.length) {i : Int} (h0 : 0 ≤ i) :
    (opk (l.take n) i = true ∧ (opv (l.take n) i).2.2.2.2.2 = n ↔ opk l i = true ∧ (opv l i).2.2.2.2.2 = n) ∧ (opk l i = true → (opv l i).2.2.2.2.2 = n → opv (l.take n) i = opv l i) := by
  have hlen : (l.take n).length = n := by simp; omega
  have core : opk l i = true → (opv l i).2.2.2.2.2 ≤ n → opk (l.take n) i = true ∧ opv (l.take n) i = opv l i := by
    intro hk hv
    have hnx := op_next hb hk
    have hk' := hk
    unfold opk at hk
    simp only [Bool.and_eq_true, decide_eq_true_eq] at hk
    obtain ⟨⟨⟨⟨⟨ki, k1⟩, k2⟩, k3⟩, k4⟩, k5⟩ := hk
    have hv' : (oW2 l i).2.1 ≤ n := hv
    have e1 : oT1 (l.take n) i = oT1 l i := (getT_take hb hn (i + 1)).2 k1 (by show (oT1 l i).2.1 ≤ n; omega)
    have e2 : oT2 (l.take n) i = oT2 l i := by
      unfold oT2
      rw [e1]
      exact (getT_take hb hn _).2 k2 (by show (oT2 l i).2.1 ≤ n; omega)
    have e3 : oW1 (l.take n) i = oW1 l i := by
      unfold oW1
      rw [e2]
      exact (getW_take hn _).2 k3 (by show (oW1 l i).2.1 ≤ n; omega)
    have e4 : oW2 (l.take n) i = oW2 l i := by
      unfold oW2
      rw [e3]
      exact (getW_take hn _).2 k4 (by show (oW2 l i).2.1 ≤ n; omega)
    have e0 : by_ (l.take n) i = by_ l i := by_take (by omega)
    unfold opk opv
    rw [e0, e1, e2, e3, e4, hlen]
    refine ⟨?_, rfl⟩
    simp only [Bool.and_eq_true, decide_eq_true_eq]
    exact ⟨⟨⟨⟨⟨by omega, k1⟩, k2⟩, k3⟩, k4⟩, k5⟩
  have back : opk (l.take n) i = true → opk l i = true ∧ opv (l.take n) i = opv l i := by
    intro hk
    unfold opk at hk
    simp only [Bool.and_eq_true, decide_eq_true_eq] at hk
    obtain ⟨⟨⟨⟨⟨ki, k1⟩, k2⟩, k3⟩, k4⟩, k5⟩ := hk
    rw [hlen] at ki
    have e1 : oT1 l i = oT1 (l.take n) i := ((getT_take hb hn (i + 1)).1 k1).1
    have e2 : oT2 l i = oT2 (l.take n) i := by
      unfold oT2
      rw [e1]
      exact ((getT_take hb hn _).1 k2).1
    have e3 : oW1 l i = oW1 (l.take n) i := by
      unfold oW1
      rw [e2]
      exact ((getW_take hn _).1 k3).1
    have e4 : oW2 l i = oW2 (l.take n) i := by
      unfold oW2
      rw [e3]
      exact ((getW_take hn _).1 k4).1
    have e0 : by_ (l.take n) i = by_ l i := by_take (by omega)
    unfold opk opv
    rw [e1, e2, e3, e4, ← e0]
    refine ⟨?_, rfl⟩
    simp only [Bool.and_eq_true, decide_eq_true_eq]
    exact ⟨⟨⟨⟨⟨by omega, k1⟩, k2⟩, k3⟩, k4⟩, k5⟩
  refine ⟨⟨fun h => ?_, fun h => ?_⟩, fun hk hv => (core hk (by omega)).2⟩
  · have := back h.1
    rw [← this.2]
    exact ⟨this.1, h.2⟩
  · have := core h.1 (by omega)
    rw [this.2]
    exact ⟨this.1, h.2⟩
end Go.Proofs.Ytmanmgafjbnakaa.Pl

/- An entry out of bytes: the two answers, and the law. No condition. -/
namespace Go.Proofs.Ytmanmgafjbnakaa.Pl
open Go.Proofs.Ytmanmgafjbnakaa.R Go.Proofs.Ytmanmgafjbnakaa.XE
set_option linter.unusedVariables false
set_option linter.unusedSimpArgs false

def entC (l : List Int) : Prop := 6 ≤ l.length ∧ get4 l ((l.length : Int) - 4) = crc (l.take (l.length - 4)) ∧ (opk l 2 = true ∧ (opv l 2).2.2.2.2.2 = (l.length - 4 : Nat)) ∧ entOk (w2 l 0) (opv l 2).1 (opv l 2).2.1 (opv l 2).2.2.1 (opv l 2).2.2.2.1 (opv l 2).2.2.2.2.1 = true
noncomputable instance (l : List Int) : Decidable (entC l) := Classical.propDecidable _
noncomputable def entR (l : List Int) : Int × Int × ByteArray × ByteArray × Int × Int × Bool :=
  if entC l then (w2 l 0, (opv l 2).1, (opv l 2).2.1, (opv l 2).2.2.1, (opv l 2).2.2.2.1, (opv l 2).2.2.2.2.1, true) else (0, 0, noB, noB, 0, 0, false)
theorem opv_sizes (l : List Int) (i : Int) (hb : isBytes l) : (opv l i).2.1.size ≤ maxLen ∧ (opv l i).2.2.1.size ≤ maxLen :=
  ⟨size60 (getT_size l (i + 1) hb), size60 (getT_size l _ hb)⟩
theorem noB_lit : ({ data := #[] } : ByteArray) = noB := rfl
theorem zeros_lit : ((0 : Int), (0 : Int), ({ data := #[] } : ByteArray), ({ data := #[] } : ByteArray), (0 : Int), (0 : Int), false) = (0, 0, noB, noB, 0, 0, false) := rfl
end Go.Proofs.Ytmanmgafjbnakaa.Pl

/- An entry as bytes: both sides; there and back. No condition. -/
namespace Go.Proofs.Ytmanmgafjbnakaa.Pl
open Go.Proofs.Ytmanmgafjbnakaa.R Go.Proofs.Ytmanmgafjbnakaa.XE
set_option linter.unusedVariables false
set_option linter.unusedSimpArgs false

/-! ### Texts as bytes -/
theorem bytesL_len (s : ByteArray) : (bytesL s).length = s.size := by
  unfold bytesL
  rw [List.length_map, Array.length_toList]
  rfl
theorem bytesL_bytes (s : ByteArray) : isBytes (bytesL s) := by
  intro x hx
  unfold bytesL at hx
  obtain ⟨b, _, rfl⟩ := List.mem_map.1 hx
  have := b.toNat_lt
  omega
theorem textOf_bytesL (s : ByteArray) : textOf (bytesL s) = s := by
  unfold textOf bytesL
  rw [List.map_map]
  have : (List.map ((fun n : Int => UInt8.ofNat n.toNat) ∘ fun b : UInt8 => (b.toNat : Int)) s.data.toList) = s.data.toList := by
    conv => rhs; rw [← List.map_id s.data.toList]
    refine List.map_congr_left fun b _ => ?_
    simp
  rw [this]
theorem bytesL_textOf (l : List Int) (hb : isBytes l) : bytesL (textOf l) = l := by
  unfold textOf bytesL
  simp only [List.map_map]
  conv => rhs; rw [← List.map_id l]
  refine List.map_congr_left fun x hx => ?_
  have := hb x hx
  simp only [Function.comp, id]
  rw [UInt8.toNat_ofNat']
  omega
theorem two_bytes (x : Int) : isBytes (two x) := by
  intro y hy
  simp only [two, List.mem_cons, List.mem_nil_iff, or_false] at hy
  rcases hy with h | h <;> subst h <;> omega
def tx (s : ByteArray) : List Int := two (s.size : Int) ++ bytesL s
theorem tx_len (s : ByteArray) : (tx s).length = 2 + s.size := by
  unfold tx
  rw [List.length_append, bytesL_len]
  rfl
theorem tx_bytes (s : ByteArray) : isBytes (tx s) := isBytes_append (two_bytes _) (bytesL_bytes s)
theorem spec_PutText_eq (l : List Int) (s : ByteArray) (hl : l.length ≤ 1000000) (hs : s.size ≤ 60) : F_spec_PutText (l, s) = some (l ++ tx s) := by
  unfold F_spec_PutText
  simp only
  rw [show decide (((ByteArray.size s : Nat) : Int) > (60 : Int)) = false from decide_eq_false (by omega), cond_false, spec_PutW_eq l _ (by omega)]
  simp only [Option.bind_some]
  have h2 : (l ++ two (s.size : Int)).length = l.length + 2 := by rw [List.length_append]; rfl
  rw [if_pos (by rw [show List.length (bytesL s) = s.size from bytesL_len s]; omega), List.append_assoc]
  rfl
theorem impl_PutText_eq (l : List Int) (s : ByteArray) (hl : l.length ≤ 1000000) (hs : s.size ≤ 60) : F_impl_PutText (l, s) = some (l ++ tx s) := by
  unfold F_impl_PutText
  simp only
  rw [show decide (((ByteArray.size s : Nat) : Int) > (60 : Int)) = false from decide_eq_false (by omega), cond_false, impl_PutW_eq l _ (by omega)]
  simp only [Option.bind_some]
  have h2 : (l ++ two (s.size : Int)).length = l.length + 2 := by rw [List.length_append]; rfl
  rw [if_pos (by omega), joined2 _ _ (by rw [show List.length (bytesL s) = s.size from bytesL_len s]; omega)]
  simp only [Option.bind_some, List.append_assoc]
  rfl
def body (q k : Int) (n t : ByteArray) (a b : Int) : List Int := two q ++ ([k % 256] ++ (tx n ++ (tx t ++ (two a ++ two b))))
def encE (q k : Int) (n t : ByteArray) (a b : Int) : List Int := body q k n t a b ++ four (crc (body q k n t a b))
theorem body_bytes (q k : Int) (n t : ByteArray) (a b : Int) : isBytes (body q k n t a b) := by
  refine isBytes_append (two_bytes _) (isBytes_append ?_ (isBytes_append (tx_bytes _) (isBytes_append (tx_bytes _) (isBytes_append (two_bytes _) (two_bytes _)))))
  intro y hy
  simp only [List.mem_cons, List.mem_nil_iff, or_false] at hy
  subst hy
  omega
theorem body_len (q k : Int) (n t : ByteArray) (a b : Int) : (body q k n t a b).length = 11 + n.size + t.size := by
  unfold body
  simp only [List.length_append, tx_len, two, List.length_cons, List.length_nil]
  omega
theorem encE_bytes (q k : Int) (n t : ByteArray) (a b : Int) : isBytes (encE q k n t a b) := isBytes_append (body_bytes _ _ _ _ _ _) (four_bytes _)
theorem encE_len (q k : Int) (n t : ByteArray) (a b : Int) : (encE q k n t a b).length = 15 + n.size + t.size := by
  unfold encE
  rw [List.length_append, body_len]
  simp only [four, List.length_cons, List.length_nil]
  omega
theorem impl_PutEnt_eq (q k : Int) (n t : ByteArray) (a b : Int) (hn : n.size ≤ 60) (ht : t.size ≤ 60) : F_impl_PutEnt (q, k, n, t, a, b) = some (if entOk q k n t a b = true then encE q k n t a b else []) := by
  unfold F_impl_PutEnt
  simp only [impl_EntOk_eq q k n t a b (size60 hn) (size60 ht), Option.bind_some]
  cases he : entOk q k n t a b with
  | false => rfl
  | true =>
    have ho : opOk k n t a b = true := by
      unfold entOk at he
      simp only [Bool.and_eq_true] at he
      exact he.2
    simp only [Bool.not_true, cond_false, if_true]
    rw [impl_PutW_eq [] q (by simp)]
    simp only [Option.bind_some, List.nil_append]
    have hO : F_impl_PutOp (two q, k, n, t, a, b) = some (body q k n t a b) := by
      unfold F_impl_PutOp
      simp only [impl_OpOk_eq k n t a b (size60 hn) (size60 ht), ho, Option.bind_some, Bool.not_true, cond_false, wrap_u8]
      rw [joined2 _ _ (by simp [two])]
      simp only [Option.bind_some]
      rw [impl_PutText_eq _ n (by simp [two]) hn]
      simp only [Option.bind_some]
      rw [impl_PutText_eq _ t (by simp [two, tx_len]; omega) ht]
      simp only [Option.bind_some]
      rw [impl_PutW_eq _ a (by simp [two, tx_len]; omega)]
      simp only [Option.bind_some]
      rw [impl_PutW_eq _ b (by simp [two, tx_len]; omega)]
      simp only [Option.bind_some, List.append_assoc]
      rfl
    rw [hO]
    simp only [Option.bind_some]
    rw [impl_Crc_eq _ (body_bytes _ _ _ _ _ _) (by rw [body_len]; omega)]
    simp only [Option.bind_some]
    rw [put4_eq _ _ (by rw [body_len]; omega)]
    rfl
theorem spec_PutEnt_eq (q k : Int) (n t : ByteArray) (a b : Int) (hn : n.size ≤ 60) (ht : t.size ≤ 60) : F_spec_PutEnt (q, k, n, t, a, b) = some (if entOk q k n t a b = true then encE q k n t a b else []) := by
  unfold F_spec_PutEnt
  simp only [spec_EntOk_eq q k n t a b (size60 hn) (size60 ht), Option.bind_some]
  cases he : entOk q k n t a b with
  | false => rfl
  | true =>
    have ho : opOk k n t a b = true := by
      unfold entOk at he
      simp only [Bool.and_eq_true] at he
      exact he.2
    simp only [Bool.not_true, cond_false, if_true]
    rw [spec_PutW_eq [] q (by simp)]
    simp only [Option.bind_some, List.nil_append]
    have hO : F_spec_PutOp (two q, k, n, t, a, b) = some (body q k n t a b) := by
      unfold F_spec_PutOp
      simp only [spec_OpOk_eq k n t a b (size60 hn) (size60 ht), ho, Option.bind_some, Bool.not_true, cond_false, wrap_u8, List.nil_append]
      rw [if_pos (by simp [two]), if_pos (by simp [two]), spec_PutText_eq _ n (by simp [two]) hn]
      simp only [Option.bind_some]
      rw [spec_PutText_eq _ t (by simp [two, tx_len]; omega) ht]
      simp only [Option.bind_some]
      rw [spec_PutW_eq _ a (by simp [two, tx_len]; omega)]
      simp only [Option.bind_some]
      rw [spec_PutW_eq _ b (by simp [two, tx_len]; omega)]
      simp only [Option.bind_some, List.append_assoc]
      rfl
    rw [hO]
    simp only [Option.bind_some]
    rw [spec_Crc_eq _ (body_bytes _ _ _ _ _ _) (by rw [body_len]; omega)]
    simp only [Option.bind_some]
    rw [l17Four_eq _ _ (by rw [body_len]; omega)]
    rfl
/-! ### What lies where -/
theorem by_app (l m : List Int) (i : Int) (h : (l.length : Int) ≤ i) : by_ (l ++ m) i = by_ m (i - l.length) := by
  unfold by_
  rw [List.getD_eq_getElem?_getD, List.getD_eq_getElem?_getD, List.getElem?_append_right (by omega)]
  congr 2
  omega
theorem w2_app (l m : List Int) (i : Int) (h : (l.length : Int) ≤ i) : w2 (l ++ m) i = w2 m (i - l.length) := by
  unfold w2
  rw [by_app l m i h, by_app l m (i + 1) (by omega), show i + 1 - (l.length : Int) = i - l.length + 1 by omega]
theorem w2_two (x : Int) (m : List Int) (h0 : 0 ≤ x) (h1 : x < 65536) : w2 (two x ++ m) 0 = x := by
  show x / 256 % 256 * 256 + x % 256 = x
  omega
theorem getW_app (l m : List Int) (x : Int) (h0 : 0 ≤ x) (h1 : x < 65536) : getW (l ++ (two x ++ m)) (l.length : Int) = (x, (l.length : Int) + 2, true) := by
  have hl : (l ++ (two x ++ m)).length = l.length + (2 + m.length) := by
    simp only [List.length_append, two, List.length_cons, List.length_nil]
  unfold getW
  rw [if_pos ⟨by omega, by omega⟩, w2_app l _ _ (Int.le_refl _), Int.sub_self, w2_two x m h0 h1]
theorem getT_app (l m : List Int) (s : ByteArray) (hs : s.size ≤ 60) : getT (l ++ (tx s ++ m)) (l.length : Int) = (s, (l.length : Int) + 2 + s.size, true) := by
  have hl : (l ++ (tx s ++ m)).length = l.length + (2 + s.size + m.length) := by
    simp only [List.length_append, tx_len]
  have hw : w2 (l ++ (tx s ++ m)) (l.length : Int) = (s.size : Int) := by
    rw [w2_app l _ _ (Int.le_refl _), Int.sub_self]
    unfold tx
    rw [List.append_assoc]
    exact w2_two _ _ (by omega) (by omega)
  unfold getT
  rw [hw, if_pos ⟨by omega, by omega, by omega, by omega⟩]
  have e1 : ((l.length : Int) + 2 + (s.size : Int)).toNat = l.length + (2 + s.size) := by omega
  have e2 : ((l.length : Int) + 2).toNat = l.length + 2 := by omega
  have hcut : (List.take (l.length + (2 + s.size)) (l ++ (tx s ++ m))).drop (l.length + 2) = bytesL s := by
    rw [List.take_append, List.take_of_length_le (by omega), show l.length + (2 + s.size) - l.length = (tx s).length by rw [tx_len]; omega, List.take_left, List.drop_append, List.drop_of_length_le (by omega), List.nil_append, show l.length + 2 - l.length = (two (s.size : Int)).length by simp only [two, List.length_cons, List.length_nil]; omega]
    unfold tx
    exact List.drop_left
  rw [e1, e2, hcut, textOf_bytesL]
theorem dec_encE (q k : Int) (n t : ByteArray) (a b : Int) (hn : n.size ≤ 60) (ht : t.size ≤ 60) (h : entOk q k n t a b = true) : entC (encE q k n t a b) ∧ entR (encE q k n t a b) = (q, k, n, t, a, b, true) := by
  have h' := h
  unfold entOk opOk at h'
  simp only [Bool.and_eq_true, inR_iff, isW] at h'
  obtain ⟨⟨q0, q1⟩, ⟨⟨⟨⟨⟨⟨k0, k1⟩, _⟩, _⟩, ⟨a0, a1⟩⟩, ⟨b0, b1⟩⟩, _⟩⟩ := h'
  generalize hF : four (crc (body q k n t a b)) = F
  have hFl : F.length = 4 := by rw [← hF]; rfl
  have e0 : encE q k n t a b = two q ++ ([k % 256] ++ (tx n ++ (tx t ++ (two a ++ (two b ++ F))))) := by
    unfold encE
    rw [hF]
    unfold body
    simp only [List.append_assoc]
  have hlen := encE_len q k n t a b
  have w0 : w2 (encE q k n t a b) 0 = q := by rw [e0]; exact w2_two q _ (by omega) (by omega)
  have yk : by_ (encE q k n t a b) 2 = k := by
    rw [e0]
    show k % 256 = k
    omega
  have t1 : oT1 (encE q k n t a b) 2 = (n, (3 : Int) + 2 + (n.size : Int), true) := by
    have := getT_app (two q ++ [k % 256]) (tx t ++ (two a ++ (two b ++ F))) n hn
    rw [List.append_assoc, ← e0] at this
    exact this
  have t2 : oT2 (encE q k n t a b) 2 = (t, (3 : Int) + 2 + (n.size : Int) + 2 + (t.size : Int), true) := by
    unfold oT2
    rw [t1]
    have := getT_app (two q ++ ([k % 256] ++ tx n)) (two a ++ (two b ++ F)) t ht
    simp only [List.append_assoc] at this
    rw [← e0] at this
    have hl : (((two q ++ ([k % 256] ++ tx n)).length : Nat) : Int) = 3 + 2 + (n.size : Int) := by
      simp only [List.length_append, tx_len, two, List.length_cons, List.length_nil]
      omega
    rw [hl] at this
    exact this
  have w1 : oW1 (encE q k n t a b) 2 = (a, (3 : Int) + 2 + (n.size : Int) + 2 + (t.size : Int) + 2, true) := by
    unfold oW1
    rw [t2]
    have := getW_app (two q ++ ([k % 256] ++ (tx n ++ tx t))) (two b ++ F) a a0 (by omega)
    simp only [List.append_assoc] at this
    rw [← e0] at this
    have hl : (((two q ++ ([k % 256] ++ (tx n ++ tx t))).length : Nat) : Int) = 3 + 2 + (n.size : Int) + 2 + t.size := by
      simp only [List.length_append, tx_len, two, List.length_cons, List.length_nil]
      omega
    rw [hl] at this
    exact this
  have w2' : oW2 (encE q k n t a b) 2 = (b, (3 : Int) + 2 + (n.size : Int) + 2 + (t.size : Int) + 2 + 2, true) := by
    unfold oW2
    rw [w1]
    have := getW_app (two q ++ ([k % 256] ++ (tx n ++ (tx t ++ two a)))) F b b0 (by omega)
    simp only [List.append_assoc] at this
    rw [← e0] at this
    have hl : (((two q ++ ([k % 256] ++ (tx n ++ (tx t ++ two a)))).length : Nat) : Int) = 3 + 2 + (n.size : Int) + 2 + t.size + 2 := by
      simp only [List.length_append, tx_len, two, List.length_cons, List.length_nil]
      omega
    rw [hl] at this
    exact this
  have hv : opv (encE q k n t a b) 2 = (k, n, t, a, b, (3 : Int) + 2 + (n.size : Int) + 2 + (t.size : Int) + 2 + 2) := by
    unfold opv
    rw [t1, t2, w1, w2', yk]
  have ho : opOk k n t a b = true := by
    unfold entOk at h
    simp only [Bool.and_eq_true] at h
    exact h.2
  have hk : opk (encE q k n t a b) 2 = true := by
    unfold opk
    rw [t1, t2, w1, w2', yk]
    simp only [ho, Bool.and_true, decide_eq_true_eq]
    omega
  have hr := crc_range _ (body_bytes q k n t a b)
  have hbl := body_len q k n t a b
  have htake : (encE q k n t a b).take ((encE q k n t a b).length - 4) = body q k n t a b := by
    rw [hlen, show 15 + n.size + t.size - 4 = (body q k n t a b).length by rw [hbl]; omega]
    exact List.take_left
  have hg : get4 (encE q k n t a b) (((encE q k n t a b).length : Int) - 4) = crc (body q k n t a b) := by
    have hp : (((encE q k n t a b).length : Nat) : Int) - 4 = ((body q k n t a b).length : Int) := by rw [hlen, hbl]; omega
    rw [hp]
    unfold get4 encE
    rw [by_app _ _ _ (Int.le_refl _), by_app _ _ ((body q k n t a b).length + 1) (by omega), by_app _ _ ((body q k n t a b).length + 2) (by omega), by_app _ _ ((body q k n t a b).length + 3) (by omega),
      Int.sub_self, show ((body q k n t a b).length : Int) + 1 - (body q k n t a b).length = 1 by omega, show ((body q k n t a b).length : Int) + 2 - (body q k n t a b).length = 2 by omega, show ((body q k n t a b).length : Int) + 3 - (body q k n t a b).length = 3 by omega]
    show crc (body q k n t a b) / 16777216 % 256 * 16777216 + crc (body q k n t a b) / 65536 % 256 * 65536 + crc (body q k n t a b) / 256 % 256 * 256 + crc (body q k n t a b) % 256 = crc (body q k n t a b)
    omega
  have hC : entC (encE q k n t a b) := by
    refine ⟨by omega, by rw [hg, htake], ⟨hk, ?_⟩, ?_⟩
    · rw [hv, hlen]
      simp only
      omega
    · rw [hv, w0]
      exact h
  refine ⟨hC, ?_⟩
  unfold entR
  rw [if_pos hC, hv, w0]
end Go.Proofs.Ytmanmgafjbnakaa.Pl

/- Marked bytes are held; the law of PutEnt. No condition. -/
namespace Go.Proofs.Ytmanmgafjbnakaa.Pl
open Go.Proofs.Ytmanmgafjbnakaa.R Go.Proofs.Ytmanmgafjbnakaa.XE
set_option linter.unusedVariables false
set_option linter.unusedSimpArgs false

/-- What marking leaves: n bytes from k on. -/
def mkB (k : Int) (n : Nat) : List Int := (List.range n).map fun (j : Nat) => Go.IntKind.wrap .u8 (k + (j : Int))
theorem mkB_len (k : Int) (n : Nat) : (mkB k n).length = n := by simp [mkB]
theorem mkB_succ (k : Int) (n : Nat) : mkB k (n + 1) = Go.IntKind.wrap .u8 k :: mkB (k + 1) n := by
  unfold mkB
  rw [List.range_succ_eq_map, List.map_cons, List.map_map]
  congr 1
  · simp
  · refine List.map_congr_left fun j _ => ?_
    simp only [Function.comp]
    congr 1
    omega
theorem mkB_get (k : Int) (n j : Nat) (h : j < n) : (mkB k n).getD j 0 = Go.IntKind.wrap .u8 (k + j) := by
  unfold mkB
  rw [List.getD_eq_getElem?_getD, List.getElem?_map, List.getElem?_range h]
  rfl
theorem markByteS_eq (l : List Int) (k : Int) (h0 : 0 ≤ k) (hk : k ≤ 1099511627776) (hl : l.length ≤ 1099511627776) : F_laws_markByteS (l, k) = some (k + l.length, mkB k l.length) := by
  unfold F_laws_markByteS L_laws_markByteS_2
  rw [loop_fuel (fun t : Int × Int × List Int => l.length - t.2.1.toNat) (fun t => t.1 = k + t.2.1 ∧ 0 ≤ t.2.1 ∧ t.2.1 ≤ l.length ∧ t.2.2.length = l.length) (fun t => some (k + l.length, t.2.2.take t.2.1.toNat ++ mkB t.1 (l.length - t.2.1.toNat))) ?_ (k, 0, l) ⟨by simp, by simp, by simp, rfl⟩ (by simp; omega)]
  · simp
  · rintro again ⟨k', i, o⟩ ⟨h1, h2, h3, h4⟩ hag
    simp only at h1 h2 h3 h4 ⊢
    subst h1
    unfold S_laws_markByteS_2
    simp only [Bool.cond_eq_ite, decide_eq_true_eq]
    by_cases hi : i < (List.length o : Int)
    · have hn : i.toNat < o.length := by omega
      rw [if_pos hi, if_pos h2, if_pos hi, w64 (n := i + 1) (by omega) (by omega), w64 (n := k + i + 1) (by omega) (by omega), hag (k + i + 1, i + 1, o.set i.toNat (Go.IntKind.wrap .u8 (k + i))) ⟨by simp only; omega, by simp only; omega, by simp only; omega, by simpa using h4⟩ (by simp only; omega)]
      simp only
      have e1 : (i + 1).toNat = i.toNat + 1 := by omega
      rw [e1, List.take_succ_eq_append_getElem (by simpa using hn), List.take_set_of_le (Nat.le_refl _), show l.length - i.toNat = (l.length - (i.toNat + 1)) + 1 by omega, mkB_succ]
      simp
    · rw [if_neg hi]
      have e1 : i.toNat = o.length := by omega
      have e2 : i = (l.length : Int) := by omega
      rw [List.take_of_length_le (by omega), show l.length - i.toNat = 0 by omega, e2]
      simp [mkB]
theorem heldByteS_eq (k : Int) (n : Nat) (h0 : 0 ≤ k) (hk : k ≤ 1099511627776) (hl : n ≤ 1099511627776) : F_laws_heldByteS (mkB k n, k) = some (k + n) := by
  unfold F_laws_heldByteS L_laws_heldByteS_2
  rw [loop_fuel (fun t : List Int × Int × Int => n - t.2.2.toNat) (fun t => t.1 = mkB k n ∧ t.2.1 = k + t.2.2 ∧ 0 ≤ t.2.2 ∧ t.2.2 ≤ n) (fun t => some (k + n)) ?_ (mkB k n, k, 0) ⟨rfl, by simp, by simp, by simp⟩ (by simp; omega)]
  rintro again ⟨o, k', i⟩ ⟨h1, h2, h3, h4⟩ hag
  simp only at h1 h2 h3 h4 ⊢
  subst h1 h2
  unfold S_laws_heldByteS_2
  simp only [Bool.cond_eq_ite, decide_eq_true_eq]
  have hlen : ((List.length (mkB k n) : Nat) : Int) = n := by rw [mkB_len]
  by_cases hi : i < (n : Int)
  · have hget : rd_u8 (mkB k n) i = Go.IntKind.wrap .u8 (k + i) := by
      show (mkB k n).getD i.toNat 0 = _
      rw [mkB_get k n i.toNat (by omega), show ((i.toNat : Nat) : Int) = i by omega]
    rw [hlen, if_pos hi, if_pos h3, if_pos hi, hget, if_neg (by simp), w64 (n := i + 1) (by omega) (by omega), w64 (n := k + i + 1) (by omega) (by omega), hag (mkB k n, k + i + 1, i + 1) ⟨rfl, by simp only; omega, by simp only; omega, by simp only; omega⟩ (by simp only; omega)]
  · rw [hlen, if_neg hi]
    congr 1
    omega
theorem empty_size {s : ByteArray} (h : noText s = true) : s.size = 0 := by
  unfold noText at h
  rw [ByteArray.toList_eq] at h
  have h' : s.data.toList = [] := by simpa using h
  rw [show s.size = s.data.toList.length from (Array.length_toList).symm, h']
  rfl
theorem name_size {s : ByteArray} (h : nameOk s = true) : s.size ≤ 60 := by
  unfold nameOk at h
  simp only [Bool.and_eq_true] at h
  have := (inR_iff.1 h.2).2
  omega
theorem ent_size {q k : Int} {n t : ByteArray} {a b : Int} (h : entOk q k n t a b = true) : n.size ≤ 60 ∧ t.size ≤ 60 := by
  unfold entOk opOk at h
  simp only [Bool.and_eq_true] at h
  obtain ⟨_, ⟨⟨⟨⟨_, h1⟩, h2⟩, _⟩, _⟩, _⟩ := h
  refine ⟨?_, ?_⟩
  · split at h1
    · rw [empty_size h1]
      omega
    · exact name_size h1
  · split at h2
    · exact name_size h2
    · rw [empty_size h2]
      omega
theorem putEnt_both (q k : Int) (n t : ByteArray) (a b : Int) (hn : n.size ≤ maxLen) (ht : t.size ≤ maxLen) : ∃ l : List Int, l.length ≤ 1000 ∧ F_impl_PutEnt (q, k, n, t, a, b) = some l ∧ F_spec_PutEnt (q, k, n, t, a, b) = some l := by
  cases he : entOk q k n t a b with
  | true =>
    obtain ⟨h1, h2⟩ := ent_size he
    refine ⟨encE q k n t a b, by rw [encE_len]; omega, ?_, ?_⟩
    · rw [impl_PutEnt_eq q k n t a b h1 h2, if_pos he]
    · rw [spec_PutEnt_eq q k n t a b h1 h2, if_pos he]
  | false =>
    refine ⟨[], by simp, ?_, ?_⟩
    · unfold F_impl_PutEnt
      simp only [impl_EntOk_eq q k n t a b hn ht, he, Option.bind_some]
      rfl
    · unfold F_spec_PutEnt
      simp only [spec_EntOk_eq q k n t a b hn ht, he, Option.bind_some]
      rfl
theorem szEnt_some (q k : Int) (n t : ByteArray) (a b l : Int) : ∃ r, F_laws_szEnt (q, k, n, t, a, b, l) = some r := by
  unfold F_laws_szEnt F_laws_szOp
  simp only [Bool.cond_eq_ite]
  (repeat' split) <;> simp only [Option.bind_some] <;> (repeat' split) <;> exact ⟨_, rfl⟩
theorem toEnt_eq (q k : Int) (n t : ByteArray) (a b : Int) : F_laws_toEnt (q, k, n, t, a, b) = some (q, k, n, t, a, b) := rfl
theorem law_PutEnt (q k : Int) (n t : ByteArray) (a b : Int) (hn : n.size ≤ maxLen) (ht : t.size ≤ maxLen) : F_laws_FnExactPutEnt (q, k, n, t, a, b) = some true := by
  obtain ⟨r, hr⟩ := szEnt_some q k n t a b 1048576
  obtain ⟨l, hl, h1, h2⟩ := putEnt_both q k n t a b hn ht
  unfold F_laws_FnExactPutEnt
  simp only [hr, toEnt_eq, h1, h2, Option.bind_some, eqByteS_refl l (by omega), markByteS_eq l 1 (by omega) (by omega) (by omega), heldByteS_eq 1 l.length (by omega) (by omega) (by omega)]
  have hp : decide ((1 : Int) + (l.length : Int) < 0) = false := decide_eq_false (by omega)
  cases decide (r < (0 : Int)) <;> simp [hp]
end Go.Proofs.Ytmanmgafjbnakaa.Pl

