/- FnExactPutSuper: the pure statement behind the law: what each function comes to, then the law. -/
import Derived.Test.YtcabfgbcjiaenaaKFnExactPutSuper
import Derived.Test.YtcabfgbcjiaenaaCln
namespace Go.Proofs.Ytcabfgbcjiaenaa.Pure
open Go.RowKit Go.Proofs.Ytcabfgbcjiaenaa.PFnExactPutSuper Go.Proofs.Ytcabfgbcjiaenaa.Opn Go.Proofs.Ytcabfgbcjiaenaa.Cln Go.Proofs.YtcabfgbcjiaenaaW.PrintWords Go.Proofs.YtcabfgbcjiaenaaW.PrintLast
set_option linter.unusedSimpArgs false
set_option linter.unusedVariables false
theorem l1In_eq (x a b : Int) : spec_l1In.f x a b = some (inR x a b) := inR_ite x a b
theorem spec_SuperOk_eq (a b c d e : Int) : spec_SuperOk.f a b c d e = some (superOk a b c d e) := by
  unfold spec_SuperOk.f superOk
  simp only [l1In_eq, Option.bind_some]
  cases inR a 1 60000 <;> cases inR b 0 1 <;> cases inR c 0 1680 <;> cases inR d 0 4294967295 <;> cases inR e 1 60000 <;> rfl
theorem spec_PutW_eq (l : List Int) (n : Int) (h : l.length < 1048576) : spec_PutW.f l n = some (putW l n) := by
  unfold spec_PutW.f putW
  simp only [Option.bind_some, List.nil_append, List.length_nil, Nat.zero_add, List.length_cons, if_pos (show l.length < 140737488355328 by omega), if_pos (show l.length + (0 + 1 + 1) < 140737488355328 by omega)]
theorem spec_l17Four_eq (l : List Int) (n : Int) (h : l.length < 1048576) : spec_l17Four.f l n = some (put4 l n) := by
  unfold spec_l17Four.f
  simp only [Option.bind_some, List.nil_append, List.length_nil, Nat.zero_add, List.length_cons, if_pos (show l.length < 140737488355328 by omega), if_pos (show l.length + (0 + 1 + 1 + 1 + 1) < 140737488355328 by omega)]
  rw [put4_bytes]
theorem spec_Crc_ev (l : List Int) (hb : isBytes l) (hl : l.length < 1048576) : Ev (fun k => spec_Crc.f k l) (crc l) := by
  have inner : ∀ (d : Nat) (x : Int) (i : Int) (j : Nat) (r : Int), j + d = 8 → Ev (fun k => spec_Crc.l0 k l (crcBits d x) (wrap64 (i + 1))) r → Ev (fun k => spec_Crc.l1 k l x i (j : Int)) r := by
    intro d
    induction d with
    | zero =>
      intro x i j r hj h
      refine Ev_up ?_; simp only [spec_Crc.l1]
      rw [show j = 8 by omega]
      simpa [crcBits] using h
    | succ d ih =>
      intro x i j r hj h
      refine Ev_up ?_; simp only [spec_Crc.l1]
      have h1 : (j : Int) < 8 := by omega
      have h2 : wrap64 ((j : Int) + 1) = ((j + 1 : Nat) : Int) := by rw [w64 (by omega) (by omega)]; omega
      simp only [h1, if_true, h2, and1]
      by_cases c : x % 2 = 1
      · simp only [c, if_true]
        exact ih _ i (j + 1) r (by omega) (by simpa [crcBits, crcBit, c] using h)
      · simp only [c, if_false]
        exact ih _ i (j + 1) r (by omega) (by simpa [crcBits, crcBit, c] using h)
  have outer : ∀ (d : Nat) (x : Int) (i : Nat), i + d = l.length → Ev (fun k => spec_Crc.l0 k l x (i : Int)) (bits .xor .i64 ((l.drop i).foldl crcStep x) 4294967295) := by
    intro d
    induction d with
    | zero =>
      intro x i hi
      refine Ev_up ?_; simp only [spec_Crc.l0]
      simp only [List.drop_of_length_le (show l.length ≤ i by omega), if_neg (show ¬ (i : Int) < (l.length : Int) by omega)]
      exact Ev.now _
    | succ d ih =>
      intro x i hi
      have hlt : i < l.length := by omega
      refine Ev_up ?_; simp only [spec_Crc.l0]
      have h2 : wrap64 ((i : Int) + 1) = ((i + 1 : Nat) : Int) := by rw [w64 (by omega) (by omega)]; omega
      simp only [if_pos (show (i : Int) < (l.length : Int) by omega), if_pos (show (0 : Int) ≤ (i : Int) by omega)]
      have hr : wrap64 (rd l (i : Int)) = l[i] := by
        rw [rd_get l i hlt]
        have := hb l[i] (List.getElem_mem hlt)
        exact w64 (by omega) (by omega)
      rw [List.drop_eq_getElem_cons hlt, List.foldl_cons]
      simp only [hr]
      refine inner 8 _ _ 0 _ rfl ?_
      rw [h2]
      exact ih _ (i + 1) (by omega)
  unfold spec_Crc.f crc
  simpa using outer l.length 4294967295 0 (by omega)
theorem spec_PutSuper_ev (a b c d e : Int) : Ev (fun k => spec_PutSuper.f k a b c d e) (putSuper a b c d e) := by
  unfold spec_PutSuper.f putSuper
  simp only [spec_SuperOk_eq, Option.bind_some]
  by_cases h : superOk a b c d e = true
  · simp only [h, if_true, Option.bind_some]
    simp only [spec_PutW_eq [] a (by simp), Option.bind_some, if_pos (show (putW [] a).length + [b % 256].length < 140737488355328 by simp [putW_length])]
    simp only [spec_PutW_eq (putW [] a ++ [b % 256]) c (by simp [putW_length]), Option.bind_some]
    simp only [spec_l17Four_eq (putW (putW [] a ++ [b % 256]) c) d (by simp [putW_length]), Option.bind_some]
    simp only [spec_PutW_eq (put4 (putW (putW [] a ++ [b % 256]) c) d) e (by simp [putW_length, put4_length]), Option.bind_some]
    refine Ev.bind (spec_Crc_ev _ (superBody_bytes a b c d e) (by simp [putW_length, put4_length])) ?_
    simp only [spec_l17Four_eq (putW (put4 (putW (putW [] a ++ [b % 256]) c) d) e) _ (by simp [putW_length, put4_length])]
    exact Ev.now _
  · simp only [h, if_false, Bool.false_eq_true]
    exact Ev.now _
theorem within_eq (x a b : Int) : impl_within.f x a b = some (inR x a b) := inR_ite x a b
theorem impl_SuperOk_eq (a b c d e : Int) : impl_SuperOk.f a b c d e = some (superOk a b c d e) := by
  unfold impl_SuperOk.f superOk
  simp only [within_eq, Option.bind_some]
  cases inR a 1 60000 <;> cases inR b 0 1 <;> cases inR c 0 1680 <;> cases inR d 0 4294967295 <;> cases inR e 1 60000 <;> rfl
theorem impl_joined_two (a b : List Int) (ha : a.length < 1048576) (hb : b.length < 1048576) : Ev (fun k => impl_joined.f k [a, b]) (a ++ b) := by
  unfold impl_joined.f
  refine Ev_up (Ev_up (Ev_up ?_))
  have h2 : wrap64 (1 + 1) = 2 := w64 (by omega) (by omega)
  have h1 : wrap64 (0 + 1) = 1 := w64 (by omega) (by omega)
  simp only [impl_joined.l0, List.length_cons, List.length_nil, h1, h2]
  have e0 : rd_L1 [a, b] 0 = a := rfl
  have e1 : rd_L1 [a, b] 1 = b := rfl
  simp only [e0, e1, List.nil_append]
  simp [if_pos (show a.length < 140737488355328 by omega), if_pos (show a.length + b.length < 140737488355328 by omega)]
  exact Ev.now _
theorem impl_PutW_ev (l : List Int) (n : Int) (h : l.length < 1048576) : Ev (fun k => impl_PutW.f k l n) (putW l n) := by
  unfold impl_PutW.f putW
  simp only [and255, Int.emod_emod_of_dvd _ (Int.dvd_refl 256)]
  exact Ev.bind (impl_joined_two l _ h (by simp)) (Ev.now _)
theorem impl_put4_ev (l : List Int) (n : Int) (h : l.length < 1048574) : Ev (fun k => impl_put4.f k l n) (put4 l n) := by
  unfold impl_put4.f put4
  exact Ev.bind (impl_PutW_ev l _ (by omega)) (Ev.bind (impl_PutW_ev _ _ (by rw [putW_length]; omega)) (Ev.now _))
theorem impl_Crc_ev (l : List Int) (hb : isBytes l) (hl : l.length < 1048576) : Ev (fun k => impl_Crc.f k l) (crc l) := by
  have inner : ∀ (d : Nat) (x : Int) (i : Int) (j : Nat) (r : Int), j + d = 8 → 0 ≤ x → x < 4294967296 → Ev (fun k => impl_Crc.l0 k (crcBits d x) l (l.length : Int) (wrap64 (i + 1))) r → Ev (fun k => impl_Crc.l1 k x l (l.length : Int) i (j : Int)) r := by
    intro d
    induction d with
    | zero =>
      intro x i j r hj _ _ h
      refine Ev_up ?_; simp only [impl_Crc.l1]
      rw [show j = 8 by omega]
      simpa [crcBits] using h
    | succ d ih =>
      intro x i j r hj hx0 hx1 h
      refine Ev_up ?_; simp only [impl_Crc.l1]
      have h1 : (j : Int) < 8 := by omega
      have h2 : wrap64 ((j : Int) + 1) = ((j + 1 : Nat) : Int) := by rw [w64 (by omega) (by omega)]; omega
      have h3 : Int.tmod x 2 = x % 2 := Int.tmod_eq_emod_of_nonneg hx0
      have h4 : wrap64 (Int.tdiv x 2) = x / 2 := by rw [Int.tdiv_eq_ediv_of_nonneg hx0]; exact w64 (by omega) (by omega)
      have h5 := crcBit_range x hx0 hx1
      simp only [h1, if_true, h2, h3, h4]
      by_cases c : x % 2 = 1
      · have e : crcBit x = bits .xor .i64 (x / 2) 2197175160 := by simp [crcBit, c]
        simp only [c, if_true]
        rw [e] at h5
        exact ih _ i (j + 1) r (by omega) h5.1 h5.2 (by simpa [crcBits, e] using h)
      · have e : crcBit x = x / 2 := by simp [crcBit, c]
        simp only [c, if_false]
        rw [e] at h5
        exact ih _ i (j + 1) r (by omega) h5.1 h5.2 (by simpa [crcBits, e] using h)
  have outer : ∀ (d : Nat) (x : Int) (i : Nat), i + d = l.length → 0 ≤ x → x < 4294967296 → Ev (fun k => impl_Crc.l0 k x l (l.length : Int) (i : Int)) (bits .xor .i64 ((l.drop i).foldl crcStep x) 4294967295) := by
    intro d
    induction d with
    | zero =>
      intro x i hi _ _
      refine Ev_up ?_; simp only [impl_Crc.l0]
      simp only [List.drop_of_length_le (show l.length ≤ i by omega), if_neg (show ¬ (i : Int) < (l.length : Int) by omega)]
      exact Ev.now _
    | succ d ih =>
      intro x i hi hx0 hx1
      have hlt : i < l.length := by omega
      refine Ev_up ?_; simp only [impl_Crc.l0]
      have h2 : wrap64 ((i : Int) + 1) = ((i + 1 : Nat) : Int) := by rw [w64 (by omega) (by omega)]; omega
      simp only [if_pos (show (i : Int) < (l.length : Int) by omega), if_pos (show (0 : Int) ≤ (i : Int) by omega)]
      have hbi := hb l[i] (List.getElem_mem hlt)
      have hr : wrap64 (rd l (i : Int)) = l[i] := by
        rw [rd_get l i hlt]
        exact w64 (by omega) (by omega)
      rw [List.drop_eq_getElem_cons hlt, List.foldl_cons]
      simp only [hr]
      have hxb := xor_range x l[i] hx0 hx1 (by omega) (by omega)
      have h6 := crcBits_range 8 _ hxb.1 hxb.2
      refine inner 8 _ _ 0 _ rfl hxb.1 hxb.2 ?_
      rw [h2]
      exact ih _ (i + 1) (by omega) h6.1 h6.2
  unfold impl_Crc.f crc
  simpa using outer l.length 4294967295 0 (by omega) (by omega) (by omega)
theorem impl_PutSuper_ev (a b c d e : Int) : Ev (fun k => impl_PutSuper.f k a b c d e) (putSuper a b c d e) := by
  unfold impl_PutSuper.f putSuper
  simp only [impl_SuperOk_eq, Option.bind_some]
  by_cases h : superOk a b c d e = true
  · simp only [h, if_true, Option.bind_some]
    refine Ev.bind (impl_PutW_ev _ _ (by simp)) ?_
    simp only [if_pos (show (putW [] a).length + [b % 256].length < 140737488355328 by simp [putW_length])]
    refine Ev.bind (impl_PutW_ev _ _ (by simp [putW_length])) ?_
    refine Ev.bind (impl_put4_ev _ _ (by simp [putW_length])) ?_
    refine Ev.bind (impl_PutW_ev _ _ (by simp [putW_length, put4_length])) ?_
    refine Ev.bind (impl_Crc_ev _ (superBody_bytes a b c d e) (by simp [putW_length, put4_length])) ?_
    refine Ev.bind (impl_put4_ev _ _ (by simp [putW_length, put4_length])) ?_
    exact Ev.now _
  · simp only [h, if_false, Bool.false_eq_true]
    exact Ev.now _
theorem laws_eqByteS_ev (a b : List Int) (ha : a.length < 281474976710656) : Ev (fun k => laws_eqByteS.f k a b) (decide (a = b)) := by
  unfold laws_eqByteS.f
  by_cases hl : a.length = b.length
  · simp only [if_pos (show (a.length : Int) = (b.length : Int) by omega)]
    have loop : ∀ (d i : Nat), i + d = a.length → Ev (fun k => laws_eqByteS.l0 k a b (i : Int)) (decide (a.drop i = b.drop i)) := by
      intro d
      induction d with
      | zero =>
        intro i hi
        refine Ev_up ?_; simp only [laws_eqByteS.l0]
        simp only [List.drop_of_length_le (show a.length ≤ i by omega), List.drop_of_length_le (show b.length ≤ i by omega), if_neg (show ¬ (i : Int) < (a.length : Int) by omega)]
        exact Ev.now _
      | succ d ih =>
        intro i hi
        refine Ev_up ?_; simp only [laws_eqByteS.l0]
        have h2 : wrap64 ((i : Int) + 1) = ((i + 1 : Nat) : Int) := by rw [w64 (by omega) (by omega)]; omega
        have ha' : i < a.length := by omega
        have hb' : i < b.length := by omega
        simp only [if_pos (show (i : Int) < (a.length : Int) by omega), if_pos (show (0 : Int) ≤ (i : Int) by omega), if_pos (show (i : Int) < (b.length : Int) by omega), rd_get a i ha', rd_get b i hb', h2]
        have e : (a.drop i = b.drop i) ↔ (a[i] = b[i] ∧ a.drop (i + 1) = b.drop (i + 1)) := by
          rw [List.drop_eq_getElem_cons ha', List.drop_eq_getElem_cons hb', List.cons.injEq]
        by_cases c : a[i] = b[i]
        · simp only [c, if_true, e, true_and]
          exact ih (i + 1) (by omega)
        · simp only [c, if_false, e, false_and, decide_false]
          exact Ev.now _
    simpa using loop a.length 0 (by omega)
  · simp only [if_neg (show ¬ (a.length : Int) = (b.length : Int) by omega)]
    have : ¬ a = b := fun h => hl (by rw [h])
    simp [this]
    exact Ev.now _
theorem laws_markByteS_ev (l : List Int) (n : Int) (hl : l.length < 1048576) (h0 : 0 ≤ n) (h1 : n < 281474976710656) : Ev (fun k => laws_markByteS.f k l n) (n + l.length, marks 256 l.length n) := by
  have loop : ∀ (d i : Nat) (x : List Int) (m : Int), i + d = x.length → x.length < 1048576 → 0 ≤ m → m + d < 281474977759232 → Ev (fun k => laws_markByteS.l0 k x m (i : Int)) (m + d, x.take i ++ marks 256 d m) := by
    intro d
    induction d with
    | zero =>
      intro i x m hi _ _ _
      refine Ev_up ?_; simp only [laws_markByteS.l0]
      simp only [if_neg (show ¬ (i : Int) < (x.length : Int) by omega), List.take_of_length_le (show x.length ≤ i by omega)]
      simp [marks]
      exact Ev.now _
    | succ d ih =>
      intro i x m hi hx hm0 hm1
      refine Ev_up ?_; simp only [laws_markByteS.l0]
      have h2 : wrap64 ((i : Int) + 1) = ((i + 1 : Nat) : Int) := by rw [w64 (by omega) (by omega)]; omega
      have h3 : wrap64 (m + 1) = m + 1 := w64 (by omega) (by omega)
      simp only [if_pos (show (i : Int) < (x.length : Int) by omega), if_pos (show (0 : Int) ≤ (i : Int) by omega), h2, h3, Int.toNat_natCast]
      have h := ih (i + 1) (x.set i (m % 256)) (m + 1) (by simp; omega) (by simpa using hx) (by omega) (by omega)
      have e : (x.set i (m % 256)).take (i + 1) = x.take i ++ [m % 256] := by
        rw [List.take_succ_eq_append_getElem (by simp; omega)]
        rw [List.take_set, List.set_eq_of_length_le (by simp; omega)]
        simp
      rw [e] at h
      have e2 : m + ((d + 1 : Nat) : Int) = m + 1 + (d : Int) := by omega
      rw [e2]
      simpa [marks] using h
  unfold laws_markByteS.f
  simpa using loop l.length 0 l n (by omega) hl h0 (by omega)
theorem laws_heldByteS_ev (len : Nat) (n : Int) (hl : len < 1048576) (h0 : 0 ≤ n) (h1 : n < 281474976710656) : Ev (fun k => laws_heldByteS.f k (marks 256 len n) n) (n + len) := by
  have loop : ∀ (d i : Nat) (x : List Int) (m : Int), i + d = x.length → x.length < 1048576 → 0 ≤ m → m + d < 281474977759232 → x.drop i = marks 256 d m → Ev (fun k => laws_heldByteS.l0 k x m (i : Int)) (m + d) := by
    intro d
    induction d with
    | zero =>
      intro i x m hi _ _ _ _
      refine Ev_up ?_; simp only [laws_heldByteS.l0]
      simp only [if_neg (show ¬ (i : Int) < (x.length : Int) by omega)]
      simp
      exact Ev.now _
    | succ d ih =>
      intro i x m hi hx hm0 hm1 hd
      refine Ev_up ?_; simp only [laws_heldByteS.l0]
      have h2 : wrap64 ((i : Int) + 1) = ((i + 1 : Nat) : Int) := by rw [w64 (by omega) (by omega)]; omega
      have h3 : wrap64 (m + 1) = m + 1 := w64 (by omega) (by omega)
      have hix : i < x.length := by omega
      rw [List.drop_eq_getElem_cons hix, marks] at hd
      injection hd with e1 e2
      simp only [if_pos (show (i : Int) < (x.length : Int) by omega), if_pos (show (0 : Int) ≤ (i : Int) by omega), h2, h3, rd_get x i hix, e1, if_true]
      have e3 : m + ((d + 1 : Nat) : Int) = m + 1 + (d : Int) := by omega
      rw [e3]
      exact ih (i + 1) x (m + 1) (by omega) hx (by omega) (by omega) e2
  unfold laws_heldByteS.f
  simpa using loop len 0 (marks 256 len n) n (by simp [marks_length]) (by simpa [marks_length] using hl) h0 (by omega) rfl
/-- The pure statement. -/
theorem FnExactPutSuper : Pure_FnExactPutSuper := by
  intro x _
  apply Ev.rounds
  unfold laws_FnExactPutSuper.f laws_toSuper.f
  simp only [Option.bind_some]
  have hl : (putSuper x.f0 x.f1 x.f2 x.f3 x.f4).length < 1048576 := by
    unfold putSuper
    split <;> simp [put4_length, superBody_length]
  generalize hp : putSuper x.f0 x.f1 x.f2 x.f3 x.f4 = p at hl
  have h1 := spec_PutSuper_ev x.f0 x.f1 x.f2 x.f3 x.f4
  have h2 := impl_PutSuper_ev x.f0 x.f1 x.f2 x.f3 x.f4
  rw [hp] at h1 h2
  refine Ev.bind h1 (Ev.bind h2 (Ev.bind (laws_eqByteS_ev p p (by omega)) ?_))
  simp only [decide_true, if_true]
  refine Ev.bind (laws_markByteS_ev p 1 hl (by omega) (by omega)) (Ev.bind (laws_heldByteS_ev p.length 1 hl (by omega) (by omega)) ?_)
  simp only [if_neg (show ¬ (1 + (p.length : Int) < 0) by omega), if_true]
  refine Ev.bind h2 (Ev.bind (laws_eqByteS_ev p p (by omega)) ?_)
  simp only [decide_true, if_true]
  refine Ev.bind (laws_heldByteS_ev p.length 1 hl (by omega) (by omega)) ?_
  simp only [if_neg (show ¬ (1 + (p.length : Int) < 0) by omega), if_true]
  exact Ev.now _
end Go.Proofs.Ytcabfgbcjiaenaa.Pure
