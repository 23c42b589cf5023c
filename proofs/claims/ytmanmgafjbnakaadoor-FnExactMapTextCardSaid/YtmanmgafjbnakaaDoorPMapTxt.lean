/- The texts of maps: there, and alike on both sides. No condition. -/
import Derived.Test.YtmanmgafjbnakaaDoorPKeyTxt
import Derived.Test.YtmanmgafjbnakaaDoorPPool
namespace Go.Proofs.YtmanmgafjbnakaaDoor.Pl
open Go.Proofs.YtmanmgafjbnakaaDoor.R Go.Proofs.YtmanmgafjbnakaaDoor.XN
set_option linter.unusedVariables false
set_option linter.unusedSimpArgs false

def bb (l : List UInt8) : ByteArray := ⟨l.toArray⟩
theorem bb_app (a b : List UInt8) : bb a ++ bb b = bb (a ++ b) := by
  apply ByteArray.ext
  rw [ByteArray.data_append]
  apply Array.ext'
  simp [bb]
theorem bb_size (a : List UInt8) : (bb a).size = a.length := by simp [bb, ByteArray.size]
theorem bb_nil (s : ByteArray) : s ++ bb [] = s := by
  apply ByteArray.ext
  rw [ByteArray.data_append]
  simp [bb]
/-- What is still to come from element i on. -/
def restB (l : List Int) (i : Nat) : List UInt8 := if i = 0 then Lib.join (l.map Lib.itoa) [44] else Lib.joinTail [44] ((l.drop i).map Lib.itoa)
theorem restB_step (l : List Int) (i : Nat) (h : i < l.length) : restB l i = (if i = 0 then [] else [44]) ++ Lib.itoa l[i] ++ restB l (i + 1) := by
  unfold restB
  rw [if_neg (show ¬ i + 1 = 0 by omega)]
  by_cases hi : i = 0
  · subst hi
    cases l with
    | nil => simp at h
    | cons x r => simp [Lib.join_cons]
  · rw [if_neg hi, if_neg hi, List.drop_eq_getElem_cons h]
    simp only [Lib.joinTail, List.map_cons, List.flatten_cons, List.append_assoc]
theorem restB_end (l : List Int) : restB l l.length = [] := by
  unfold restB
  split
  · rename_i h
    have : l = [] := List.length_eq_zero_iff.1 h
    subst this
    rfl
  · simp [Lib.joinTail]
theorem itoa_len (x : Int) (h : i64r x) : (Lib.itoa x).length ≤ 21 := Lib.itoa_length_le x h.1 h.2
theorem rest_len (l : List Int) (hl : ∀ x ∈ l, i64r x) : ∀ (n i : Nat), i + n = l.length → (restB l i).length ≤ 22 * n
  | 0, i, h => by
    have : i = l.length := by omega
    rw [this, restB_end]
    simp
  | n + 1, i, h => by
    rw [restB_step l i (by omega)]
    have h1 := rest_len l hl n (i + 1) (by omega)
    have h2 := itoa_len l[i] (hl _ (List.getElem_mem _))
    simp only [List.length_append]
    split <;> simp <;> omega
theorem spec_loop (k : ByteArray → Option ByteArray) (nm : ByteArray) (fx : Bool) (l : List Int) (hl : l.length ≤ 1048576) (hr : ∀ x ∈ l, i64r x) (s : ByteArray) (hs : s.size ≤ 1048600) : L_spec_MapText_6 k (s, 0, nm, fx, l) = k (s ++ bb (restB l 0)) := by
  have l44 : (ByteArray.mk #[44]).size = 1 := rfl
  unfold L_spec_MapText_6
  rw [loop_fuel (fun t : ByteArray × Int × ByteArray × Bool × List Int => t.2.2.2.2.length - t.2.1.toNat) (fun t => t.2.2.2.2 = l ∧ 0 ≤ t.2.1 ∧ t.2.1 ≤ l.length ∧ (t.1.size : Int) ≤ 1048600 + 22 * t.2.1) (fun t => k (t.1 ++ bb (restB l t.2.1.toNat))) ?_ (s, 0, nm, fx, l) ⟨rfl, by simp, by simp, by simp only; omega⟩ (by simp only; omega)]
  · rfl
  · rintro again ⟨s, i, nm, fx, l'⟩ ⟨rfl, h0, h1, h2⟩ hag
    simp only at h0 h1 h2 hl hr ⊢
    unfold S_spec_MapText_6
    simp only [Bool.cond_eq_ite, decide_eq_true_eq]
    by_cases hi : i < (l'.length : Int)
    · have hn : i.toNat < l'.length := by omega
      have e : rd_i64 l' i = l'[i.toNat] := getD_get _ l' i h0 hi
      have hx := hr _ (List.getElem_mem hn)
      have hz := itoaB_size _ hx.1 hx.2
      have hw : Go.IntKind.wrap .i64 (i + 1) = i + 1 := w64 (by omega) (by omega)
      have hit : itoaB l'[i.toNat] = bb (Lib.itoa l'[i.toNat]) := rfl
      have e1 : (i + 1).toNat = i.toNat + 1 := by omega
      rw [if_pos hi]
      by_cases hp : 0 < i
      · rw [if_pos hp, if_pos (show s.size + (ByteArray.mk #[44]).size < 140737488355328 by omega), if_pos h0, if_pos hi, e, NumText_eq _ hx.1 hx.2, Option.bind_some, if_pos (by rw [ByteArray.size_append]; omega), hw]
        refine (hag (s ++ ByteArray.mk #[44] ++ itoaB l'[i.toNat], i + 1, nm, fx, l') ⟨rfl, by simp only; omega, by simp only; omega, by simp only [ByteArray.size_append]; omega⟩ (by simp only; omega)).trans ?_
        simp only [e1]
        rw [restB_step l' i.toNat hn, if_neg (by omega), hit, ByteArray.append_assoc, ByteArray.append_assoc, ← bb_app, ← bb_app, ByteArray.append_assoc]
        rfl
      · rw [if_neg hp, if_pos h0, if_pos hi, e, NumText_eq _ hx.1 hx.2, Option.bind_some, if_pos (by omega), hw]
        refine (hag (s ++ itoaB l'[i.toNat], i + 1, nm, fx, l') ⟨rfl, by simp only; omega, by simp only; omega, by simp only [ByteArray.size_append]; omega⟩ (by simp only; omega)).trans ?_
        simp only [e1]
        rw [restB_step l' i.toNat hn, if_pos (by omega), hit, ByteArray.append_assoc, List.nil_append, ← bb_app]
    · rw [if_neg hi, show i.toNat = l'.length by omega, restB_end, bb_nil]
theorem impl_loop (k : ByteArray × List ByteArray → Option ByteArray) (nm : ByteArray) (l : List Int) (hl : l.length ≤ 1048576) (hr : ∀ x ∈ l, i64r x) : L_impl_MapText_6 k (nm, l, (l.length : Int), 0, []) = k (nm, l.map itoaB) := by
  unfold L_impl_MapText_6
  rw [loop_fuel (fun t : ByteArray × List Int × Int × Int × List ByteArray => t.2.1.length - t.2.2.2.1.toNat) (fun t => t.1 = nm ∧ t.2.1 = l ∧ t.2.2.1 = (l.length : Int) ∧ 0 ≤ t.2.2.2.1 ∧ t.2.2.2.1 ≤ l.length ∧ t.2.2.2.2.length = t.2.2.2.1.toNat) (fun t => k (nm, t.2.2.2.2 ++ (l.drop t.2.2.2.1.toNat).map itoaB)) ?_ (nm, l, (l.length : Int), 0, []) ⟨rfl, rfl, rfl, by simp, by simp, rfl⟩ (by simp only; omega)]
  · simp
  · rintro again ⟨nm', l', n, i, o⟩ ⟨rfl, rfl, hn, h0, h1, h2⟩ hag
    simp only at hn h0 h1 h2 hl hr ⊢
    subst hn
    unfold S_impl_MapText_6
    simp only [Bool.cond_eq_ite, decide_eq_true_eq]
    by_cases hi : i < (l'.length : Int)
    · have hn : i.toNat < l'.length := by omega
      have e : rd_i64 l' i = l'[i.toNat] := getD_get _ l' i h0 hi
      have hx := hr _ (List.getElem_mem hn)
      have hw : Go.IntKind.wrap .i64 (i + 1) = i + 1 := w64 (by omega) (by omega)
      have e1 : (i + 1).toNat = i.toNat + 1 := by omega
      rw [if_pos hi, if_pos h0, if_pos hi, e, implNum_eq _ hx.1 hx.2, Option.bind_some, if_pos (by simp only [List.length_cons, List.length_nil]; omega), hw]
      refine (hag (nm', l', (l'.length : Int), i + 1, o ++ [itoaB l'[i.toNat]]) ⟨rfl, rfl, rfl, by simp only; omega, by simp only; omega, by simp only [List.length_append, List.length_cons, List.length_nil]; omega⟩ (by simp only; omega)).trans ?_
      simp only [e1]
      rw [List.drop_eq_getElem_cons hn, List.map_cons, List.append_assoc, List.singleton_append]
    · rw [if_neg hi, List.drop_of_length_le (by omega)]
      simp
theorem join_map (l : List Int) : joinB (l.map itoaB) ⟨#[44]⟩ = bb (restB l 0) := by
  unfold joinB restB bb
  rw [if_pos rfl]
  congr 3
  rw [List.map_map]
  rfl
theorem MapText_ok (nm : ByteArray) (fx : Bool) (l : List Int) (hn : nm.size ≤ 1048576) (hl : l.length ≤ 1048576) (hr : ∀ x ∈ l, i64r x) : ∃ s, F_spec_MapText (nm, fx, l) = some s ∧ F_impl_MapText (nm, fx, l) = some s := by
  have l33 : (ByteArray.mk #[33]).size = 1 := rfl
  have l58 : (ByteArray.mk #[58]).size = 1 := rfl
  have hb := rest_len l hr l.length 0 (by omega)
  have hj : ∀ t : ByteArray, t.size ≤ 1048580 → (if ByteArray.size t + ByteArray.size (ByteArray.mk #[58]) < 140737488355328 then Option.bind (F_strings_Join (l.map itoaB, ⟨#[44]⟩)) fun r3 => if ByteArray.size (t ++ ByteArray.mk #[58]) + ByteArray.size r3 < 140737488355328 then some ((t ++ ByteArray.mk #[58]) ++ r3) else none else none) = some ((t ++ ByteArray.mk #[58]) ++ bb (restB l 0)) := by
    intro t ht
    have : F_strings_Join (l.map itoaB, ⟨#[44]⟩) = some (bb (restB l 0)) := by
      unfold F_strings_Join
      simp only
      by_cases h0 : (l.map itoaB).length = 0
      · rw [if_pos h0]
        have : l = [] := by simpa using h0
        subst this
        rfl
      · rw [if_neg h0, if_pos (by simp; omega), join_map, if_pos (by rw [bb_size]; omega)]
    rw [if_pos (by omega), this, Option.bind_some, if_pos (by rw [bb_size, ByteArray.size_append]; omega)]
  unfold F_spec_MapText F_impl_MapText
  simp only [Bool.cond_eq_ite]
  cases fx with
  | true =>
    rw [if_pos rfl, if_pos rfl, if_pos (by omega), if_pos (by rw [ByteArray.size_append]; omega), if_pos (by omega), spec_loop _ nm true l hl hr _ (by simp only [ByteArray.size_append]; omega), impl_loop _ _ l hl hr]
    exact ⟨_, rfl, hj _ (by rw [ByteArray.size_append]; omega)⟩
  | false =>
    simp only [Bool.false_eq_true, if_false]
    rw [if_pos (by omega), spec_loop _ nm false l hl hr _ (by simp only [ByteArray.size_append]; omega), impl_loop _ _ l hl hr]
    exact ⟨_, rfl, hj nm (by omega)⟩
end Go.Proofs.YtmanmgafjbnakaaDoor.Pl
