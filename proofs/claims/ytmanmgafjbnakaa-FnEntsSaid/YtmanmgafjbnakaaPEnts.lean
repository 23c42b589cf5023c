/- PutEnt, Ents. No condition. -/
import Derived.Test.YtmanmgafjbnakaaPGetEnt3
import Derived.Laws.Strings
/- An entry as bytes: both sides; there and back. No condition. -/
namespace Go.Proofs.Ytmanmgafjbnakaa.Pl
open Go.Proofs.Ytmanmgafjbnakaa.R Go.Proofs.Ytmanmgafjbnakaa.XW
set_option linter.unusedVariables false
set_option linter.unusedSimpArgs false

/-! ### Texts as bytes -/
theorem bytesL_len (s : ByteArray) : (bytesL s).length = s.size := by
  unfold bytesL
  rw [List.length_map, Array.length_toList]
  rfl
theorem bytesL_bytes (s : ByteArray) : isBytes (bytesL s) := by
  intro x hx
  unfold bytesL at hx
  obtain ⟨b, _, rfl⟩ := List.mem_map.1 hx
  have := b.toNat_lt
  omega
theorem textOf_bytesL (s : ByteArray) : textOf (bytesL s) = s := by
  unfold textOf bytesL
  rw [List.map_map]
  have : (List.map ((fun n : Int => UInt8.ofNat n.toNat) ∘ fun b : UInt8 => (b.toNat : Int)) s.data.toList) = s.data.toList := by
    conv => rhs; rw [← List.map_id s.data.toList]
    refine List.map_congr_left fun b _ => ?_
    simp
  rw [this]
theorem bytesL_textOf (l : List Int) (hb : isBytes l) : bytesL (textOf l) = l := by
  unfold textOf bytesL
  simp only [List.map_map]
  conv => rhs; rw [← List.map_id l]
  refine List.map_congr_left fun x hx => ?_
  have := hb x hx
  simp only [Function.comp, id]
  rw [UInt8.toNat_ofNat']
  omega
theorem two_bytes (x : Int) : isBytes (two x) := by
  intro y hy
  simp only [two, List.mem_cons, List.mem_nil_iff, or_false] at hy
  rcases hy with h | h <;> subst h <;> omega
def tx (s : ByteArray) : List Int := two (s.size : Int) ++ bytesL s
theorem tx_len (s : ByteArray) : (tx s).length = 2 + s.size := by
  unfold tx
  rw [List.length_append, bytesL_len]
  rfl
theorem tx_bytes (s : ByteArray) : isBytes (tx s) := isBytes_append (two_bytes _) (bytesL_bytes s)
theorem spec_PutText_eq (l : List Int) (s : ByteArray) (hl : l.length ≤ 1000000) (hs : s.size ≤ 60) : F_spec_PutText (l, s) = some (l ++ tx s) := by
  unfold F_spec_PutText
  simp only
  rw [show decide (((ByteArray.size s : Nat) : Int) > (60 : Int)) = false from decide_eq_false (by omega), cond_false, spec_PutW_eq l _ (by omega)]
  simp only [Option.bind_some]
  have h2 : (l ++ two (s.size : Int)).length = l.length + 2 := by rw [List.length_append]; rfl
  rw [if_pos (by rw [show List.length (bytesL s) = s.size from bytesL_len s]; omega), List.append_assoc]
  rfl
theorem impl_PutText_eq (l : List Int) (s : ByteArray) (hl : l.length ≤ 1000000) (hs : s.size ≤ 60) : F_impl_PutText (l, s) = some (l ++ tx s) := by
  unfold F_impl_PutText
  simp only
  rw [show decide (((ByteArray.size s : Nat) : Int) > (60 : Int)) = false from decide_eq_false (by omega), cond_false, impl_PutW_eq l _ (by omega)]
  simp only [Option.bind_some]
  have h2 : (l ++ two (s.size : Int)).length = l.length + 2 := by rw [List.length_append]; rfl
  rw [if_pos (by omega), joined2 _ _ (by rw [show List.length (bytesL s) = s.size from bytesL_len s]; omega)]
  simp only [Option.bind_some, List.append_assoc]
  rfl
def body (q k : Int) (n t : ByteArray) (a b : Int) : List Int := two q ++ ([k % 256] ++ (tx n ++ (tx t ++ (two a ++ two b))))
def encE (q k : Int) (n t : ByteArray) (a b : Int) : List Int := body q k n t a b ++ four (crc (body q k n t a b))
theorem body_bytes (q k : Int) (n t : ByteArray) (a b : Int) : isBytes (body q k n t a b) := by
  refine isBytes_append (two_bytes _) (isBytes_append ?_ (isBytes_append (tx_bytes _) (isBytes_append (tx_bytes _) (isBytes_append (two_bytes _) (two_bytes _)))))
  intro y hy
  simp only [List.mem_cons, List.mem_nil_iff, or_false] at hy
  subst hy
  omega
theorem body_len (q k : Int) (n t : ByteArray) (a b : Int) : (body q k n t a b).length = 11 + n.size + t.size := by
  unfold body
  simp only [List.length_append, tx_len, two, List.length_cons, List.length_nil]
  omega
theorem encE_bytes (q k : Int) (n t : ByteArray) (a b : Int) : isBytes (encE q k n t a b) := isBytes_append (body_bytes _ _ _ _ _ _) (four_bytes _)
theorem encE_len (q k : Int) (n t : ByteArray) (a b : Int) : (encE q k n t a b).length = 15 + n.size + t.size := by
  unfold encE
  rw [List.length_append, body_len]
  simp only [four, List.length_cons, List.length_nil]
  omega
theorem impl_PutEnt_eq (q k : Int) (n t : ByteArray) (a b : Int) (hn : n.size ≤ 60) (ht : t.size ≤ 60) : F_impl_PutEnt (q, k, n, t, a, b) = some (if entOk q k n t a b = true then encE q k n t a b else []) := by
  unfold F_impl_PutEnt
  simp only [impl_EntOk_eq q k n t a b (size60 hn) (size60 ht), Option.bind_some]
  cases he : entOk q k n t a b with
  | false => rfl
  | true =>
    have ho : opOk k n t a b = true := by
      unfold entOk at he
      simp only [Bool.and_eq_true] at he
      exact he.2
    simp only [Bool.not_true, cond_false, if_true]
    rw [impl_PutW_eq [] q (by simp)]
    simp only [Option.bind_some, List.nil_append]
    have hO : F_impl_PutOp (two q, k, n, t, a, b) = some (body q k n t a b) := by
      unfold F_impl_PutOp
      simp only [impl_OpOk_eq k n t a b (size60 hn) (size60 ht), ho, Option.bind_some, Bool.not_true, cond_false, wrap_u8]
      rw [joined2 _ _ (by simp [two])]
      simp only [Option.bind_some]
      rw [impl_PutText_eq _ n (by simp [two]) hn]
      simp only [Option.bind_some]
      rw [impl_PutText_eq _ t (by simp [two, tx_len]; omega) ht]
      simp only [Option.bind_some]
      rw [impl_PutW_eq _ a (by simp [two, tx_len]; omega)]
      simp only [Option.bind_some]
      rw [impl_PutW_eq _ b (by simp [two, tx_len]; omega)]
      simp only [Option.bind_some, List.append_assoc]
      rfl
    rw [hO]
    simp only [Option.bind_some]
    rw [impl_Crc_eq _ (body_bytes _ _ _ _ _ _) (by rw [body_len]; omega)]
    simp only [Option.bind_some]
    rw [put4_eq _ _ (by rw [body_len]; omega)]
    rfl
theorem spec_PutEnt_eq (q k : Int) (n t : ByteArray) (a b : Int) (hn : n.size ≤ 60) (ht : t.size ≤ 60) : F_spec_PutEnt (q, k, n, t, a, b) = some (if entOk q k n t a b = true then encE q k n t a b else []) := by
  unfold F_spec_PutEnt
  simp only [spec_EntOk_eq q k n t a b (size60 hn) (size60 ht), Option.bind_some]
  cases he : entOk q k n t a b with
  | false => rfl
  | true =>
    have ho : opOk k n t a b = true := by
      unfold entOk at he
      simp only [Bool.and_eq_true] at he
      exact he.2
    simp only [Bool.not_true, cond_false, if_true]
    rw [spec_PutW_eq [] q (by simp)]
    simp only [Option.bind_some, List.nil_append]
    have hO : F_spec_PutOp (two q, k, n, t, a, b) = some (body q k n t a b) := by
      unfold F_spec_PutOp
      simp only [spec_OpOk_eq k n t a b (size60 hn) (size60 ht), ho, Option.bind_some, Bool.not_true, cond_false, wrap_u8, List.nil_append]
      rw [if_pos (by simp [two]), if_pos (by simp [two]), spec_PutText_eq _ n (by simp [two]) hn]
      simp only [Option.bind_some]
      rw [spec_PutText_eq _ t (by simp [two, tx_len]; omega) ht]
      simp only [Option.bind_some]
      rw [spec_PutW_eq _ a (by simp [two, tx_len]; omega)]
      simp only [Option.bind_some]
      rw [spec_PutW_eq _ b (by simp [two, tx_len]; omega)]
      simp only [Option.bind_some, List.append_assoc]
      rfl
    rw [hO]
    simp only [Option.bind_some]
    rw [spec_Crc_eq _ (body_bytes _ _ _ _ _ _) (by rw [body_len]; omega)]
    simp only [Option.bind_some]
    rw [l17Four_eq _ _ (by rw [body_len]; omega)]
    rfl
/-! ### What lies where -/
theorem by_app (l m : List Int) (i : Int) (h : (l.length : Int) ≤ i) : by_ (l ++ m) i = by_ m (i - l.length) := by
  unfold by_
  rw [List.getD_eq_getElem?_getD, List.getD_eq_getElem?_getD, List.getElem?_append_right (by omega)]
  congr 2
  omega
theorem w2_app (l m : List Int) (i : Int) (h : (l.length : Int) ≤ i) : w2 (l ++ m) i = w2 m (i - l.length) := by
  unfold w2
  rw [by_app l m i h, by_app l m (i + 1) (by omega), show i + 1 - (l.length : Int) = i - l.length + 1 by omega]
theorem w2_two (x : Int) (m : List Int) (h0 : 0 ≤ x) (h1 : x < 65536) : w2 (two x ++ m) 0 = x := by
  show x / 256 % 256 * 256 + x % 256 = x
  omega
theorem getW_app (l m : List Int) (x : Int) (h0 : 0 ≤ x) (h1 : x < 65536) : getW (l ++ (two x ++ m)) (l.length : Int) = (x, (l.length : Int) + 2, true) := by
  have hl : (l ++ (two x ++ m)).length = l.length + (2 + m.length) := by
    simp only [List.length_append, two, List.length_cons, List.length_nil]
  unfold getW
  rw [if_pos ⟨by omega, by omega⟩, w2_app l _ _ (Int.le_refl _), Int.sub_self, w2_two x m h0 h1]
theorem getT_app (l m : List Int) (s : ByteArray) (hs : s.size ≤ 60) : getT (l ++ (tx s ++ m)) (l.length : Int) = (s, (l.length : Int) + 2 + s.size, true) := by
  have hl : (l ++ (tx s ++ m)).length = l.length + (2 + s.size + m.length) := by
    simp only [List.length_append, tx_len]
  have hw : w2 (l ++ (tx s ++ m)) (l.length : Int) = (s.size : Int) := by
    rw [w2_app l _ _ (Int.le_refl _), Int.sub_self]
    unfold tx
    rw [List.append_assoc]
    exact w2_two _ _ (by omega) (by omega)
  unfold getT
  rw [hw, if_pos ⟨by omega, by omega, by omega, by omega⟩]
  have e1 : ((l.length : Int) + 2 + (s.size : Int)).toNat = l.length + (2 + s.size) := by omega
  have e2 : ((l.length : Int) + 2).toNat = l.length + 2 := by omega
  have hcut : (List.take (l.length + (2 + s.size)) (l ++ (tx s ++ m))).drop (l.length + 2) = bytesL s := by
    rw [List.take_append, List.take_of_length_le (by omega), show l.length + (2 + s.size) - l.length = (tx s).length by rw [tx_len]; omega, List.take_left, List.drop_append, List.drop_of_length_le (by omega), List.nil_append, show l.length + 2 - l.length = (two (s.size : Int)).length by simp only [two, List.length_cons, List.length_nil]; omega]
    unfold tx
    exact List.drop_left
  rw [e1, e2, hcut, textOf_bytesL]
theorem dec_encE (q k : Int) (n t : ByteArray) (a b : Int) (hn : n.size ≤ 60) (ht : t.size ≤ 60) (h : entOk q k n t a b = true) : entC (encE q k n t a b) ∧ entR (encE q k n t a b) = (q, k, n, t, a, b, true) := by
  have h' := h
  unfold entOk opOk at h'
  simp only [Bool.and_eq_true, inR_iff, isW] at h'
  obtain ⟨⟨q0, q1⟩, ⟨⟨⟨⟨⟨⟨k0, k1⟩, _⟩, _⟩, ⟨a0, a1⟩⟩, ⟨b0, b1⟩⟩, _⟩⟩ := h'
  generalize hF : four (crc (body q k n t a b)) = F
  have hFl : F.length = 4 := by rw [← hF]; rfl
  have e0 : encE q k n t a b = two q ++ ([k % 256] ++ (tx n ++ (tx t ++ (two a ++ (two b ++ F))))) := by
    unfold encE
    rw [hF]
    unfold body
    simp only [List.append_assoc]
  have hlen := encE_len q k n t a b
  have w0 : w2 (encE q k n t a b) 0 = q := by rw [e0]; exact w2_two q _ (by omega) (by omega)
  have yk : by_ (encE q k n t a b) 2 = k := by
    rw [e0]
    show k % 256 = k
    omega
  have t1 : oT1 (encE q k n t a b) 2 = (n, (3 : Int) + 2 + (n.size : Int), true) := by
    have := getT_app (two q ++ [k % 256]) (tx t ++ (two a ++ (two b ++ F))) n hn
    rw [List.append_assoc, ← e0] at this
    exact this
  have t2 : oT2 (encE q k n t a b) 2 = (t, (3 : Int) + 2 + (n.size : Int) + 2 + (t.size : Int), true) := by
    unfold oT2
    rw [t1]
    have := getT_app (two q ++ ([k % 256] ++ tx n)) (two a ++ (two b ++ F)) t ht
    simp only [List.append_assoc] at this
    rw [← e0] at this
    have hl : (((two q ++ ([k % 256] ++ tx n)).length : Nat) : Int) = 3 + 2 + (n.size : Int) := by
      simp only [List.length_append, tx_len, two, List.length_cons, List.length_nil]
      omega
    rw [hl] at this
    exact this
  have w1 : oW1 (encE q k n t a b) 2 = (a, (3 : Int) + 2 + (n.size : Int) + 2 + (t.size : Int) + 2, true) := by
    unfold oW1
    rw [t2]
    have := getW_app (two q ++ ([k % 256] ++ (tx n ++ tx t))) (two b ++ F) a a0 (by omega)
    simp only [List.append_assoc] at this
    rw [← e0] at this
    have hl : (((two q ++ ([k % 256] ++ (tx n ++ tx t))).length : Nat) : Int) = 3 + 2 + (n.size : Int) + 2 + t.size := by
      simp only [List.length_append, tx_len, two, List.length_cons, List.length_nil]
      omega
    rw [hl] at this
    exact this
  have w2' : oW2 (encE q k n t a b) 2 = (b, (3 : Int) + 2 + (n.size : Int) + 2 + (t.size : Int) + 2 + 2, true) := by
    unfold oW2
    rw [w1]
    have := getW_app (two q ++ ([k % 256] ++ (tx n ++ (tx t ++ two a)))) F b b0 (by omega)
    simp only [List.append_assoc] at this
    rw [← e0] at this
    have hl : (((two q ++ ([k % 256] ++ (tx n ++ (tx t ++ two a)))).length : Nat) : Int) = 3 + 2 + (n.size : Int) + 2 + t.size + 2 := by
      simp only [List.length_append, tx_len, two, List.length_cons, List.length_nil]
      omega
    rw [hl] at this
    exact this
  have hv : opv (encE q k n t a b) 2 = (k, n, t, a, b, (3 : Int) + 2 + (n.size : Int) + 2 + (t.size : Int) + 2 + 2) := by
    unfold opv
    rw [t1, t2, w1, w2', yk]
  have ho : opOk k n t a b = true := by
    unfold entOk at h
    simp only [Bool.and_eq_true] at h
    exact h.2
  have hk : opk (encE q k n t a b) 2 = true := by
    unfold opk
    rw [t1, t2, w1, w2', yk]
    simp only [ho, Bool.and_true, decide_eq_true_eq]
    omega
  have hr := crc_range _ (body_bytes q k n t a b)
  have hbl := body_len q k n t a b
  have htake : (encE q k n t a b).take ((encE q k n t a b).length - 4) = body q k n t a b := by
    rw [hlen, show 15 + n.size + t.size - 4 = (body q k n t a b).length by rw [hbl]; omega]
    exact List.take_left
  have hg : get4 (encE q k n t a b) (((encE q k n t a b).length : Int) - 4) = crc (body q k n t a b) := by
    have hp : (((encE q k n t a b).length : Nat) : Int) - 4 = ((body q k n t a b).length : Int) := by rw [hlen, hbl]; omega
    rw [hp]
    unfold get4 encE
    rw [by_app _ _ _ (Int.le_refl _), by_app _ _ ((body q k n t a b).length + 1) (by omega), by_app _ _ ((body q k n t a b).length + 2) (by omega), by_app _ _ ((body q k n t a b).length + 3) (by omega),
      Int.sub_self, show ((body q k n t a b).length : Int) + 1 - (body q k n t a b).length = 1 by omega, show ((body q k n t a b).length : Int) + 2 - (body q k n t a b).length = 2 by omega, show ((body q k n t a b).length : Int) + 3 - (body q k n t a b).length = 3 by omega]
    show crc (body q k n t a b) / 16777216 % 256 * 16777216 + crc (body q k n t a b) / 65536 % 256 * 65536 + crc (body q k n t a b) / 256 % 256 * 256 + crc (body q k n t a b) % 256 = crc (body q k n t a b)
    omega
  have hC : entC (encE q k n t a b) := by
    refine ⟨by omega, by rw [hg, htake], ⟨hk, ?_⟩, ?_⟩
    · rw [hv, hlen]
      simp only
      omega
    · rw [hv, w0]
      exact h
  refine ⟨hC, ?_⟩
  unfold entR
  rw [if_pos hC, hv, w0]
end Go.Proofs.Ytmanmgafjbnakaa.Pl

/- FnEnts: back and there; what is drawn; the law. No condition. -/
namespace Go.Proofs.Ytmanmgafjbnakaa.Pl
open Go.Proofs.Ytmanmgafjbnakaa.R Go.Proofs.Ytmanmgafjbnakaa.XW
set_option linter.unusedVariables false
set_option linter.unusedSimpArgs false

theorem drop_two (l : List Int) (i : Int) (hb : isBytes l) (h0 : 0 ≤ i) (h : i + 2 ≤ l.length) : l.drop i.toNat = two (w2 l i) ++ l.drop (i + 2).toNat := by
  have r0 := by_range hb i
  have r1 := by_range hb (i + 1)
  rw [drop_by l i h0 (by omega), show i.toNat + 1 = (i + 1).toNat by omega, drop_by l (i + 1) (by omega) (by omega), show (i + 1).toNat + 1 = (i + 2).toNat by omega]
  unfold two w2
  rw [show (by_ l i * 256 + by_ l (i + 1)) / 256 % 256 = by_ l i by omega, show (by_ l i * 256 + by_ l (i + 1)) % 256 = by_ l (i + 1) by omega]
  rfl
theorem getW_inv (l : List Int) (i : Int) (hb : isBytes l) (h : (getW l i).2.2 = true) : l.drop i.toNat = two (getW l i).1 ++ l.drop (getW l i).2.1.toNat := by
  unfold getW at h ⊢
  split at h
  · rename_i hc
    rw [if_pos hc]
    exact drop_two l i hb hc.1 hc.2
  · cases h
theorem getT_inv (l : List Int) (i : Int) (hb : isBytes l) (h : (getT l i).2.2 = true) : l.drop i.toNat = tx (getT l i).1 ++ l.drop (getT l i).2.1.toNat := by
  unfold getT at h ⊢
  split at h
  · rename_i hc
    obtain ⟨h0, h1, h2, h3⟩ := hc
    rw [if_pos ⟨h0, h1, h2, h3⟩]
    have hw := w2_range hb i
    rw [drop_two l i hb h0 h1]
    show two (w2 l i) ++ l.drop (i + 2).toNat = tx (textOf ((l.take (i + 2 + w2 l i).toNat).drop (i + 2).toNat)) ++ l.drop (i + 2 + w2 l i).toNat
    have hbb : isBytes ((l.take (i + 2 + w2 l i).toNat).drop (i + 2).toNat) := isBytes_drop (isBytes_take hb _) _
    have hlen : ((l.take (i + 2 + w2 l i).toNat).drop (i + 2).toNat).length = (w2 l i).toNat := by
      rw [List.length_drop, List.length_take]
      omega
    have hsz : (textOf ((l.take (i + 2 + w2 l i).toNat).drop (i + 2).toNat)).size = (w2 l i).toNat := by
      rw [← bytesL_len, bytesL_textOf _ hbb, hlen]
    unfold tx
    rw [hsz, bytesL_textOf _ hbb, Int.toNat_of_nonneg hw.1, List.append_assoc]
    congr 1
    rw [List.drop_take, show (i + 2 + w2 l i).toNat - (i + 2).toNat = (w2 l i).toNat by omega, show (i + 2 + w2 l i).toNat = (i + 2).toNat + (w2 l i).toNat by omega, ← List.drop_drop, List.take_append_drop]
  · cases h
theorem four_get (l : List Int) (i : Int) (hb : isBytes l) (h0 : 0 ≤ i) (h : i + 4 = l.length) : l.drop i.toNat = four (get4 l i) := by
  have r0 := by_range hb i
  have r1 := by_range hb (i + 1)
  have r2 := by_range hb (i + 2)
  have r3 := by_range hb (i + 3)
  rw [drop_by l i h0 (by omega), show i.toNat + 1 = (i + 1).toNat by omega, drop_by l (i + 1) (by omega) (by omega), show (i + 1).toNat + 1 = (i + 2).toNat by omega, drop_by l (i + 2) (by omega) (by omega), show (i + 2).toNat + 1 = (i + 3).toNat by omega, drop_by l (i + 3) (by omega) (by omega), List.drop_of_length_le (by omega)]
  unfold four get4
  rw [show (by_ l i * 16777216 + by_ l (i + 1) * 65536 + by_ l (i + 2) * 256 + by_ l (i + 3)) / 16777216 % 256 = by_ l i by omega, show (by_ l i * 16777216 + by_ l (i + 1) * 65536 + by_ l (i + 2) * 256 + by_ l (i + 3)) / 65536 % 256 = by_ l (i + 1) by omega,
    show (by_ l i * 16777216 + by_ l (i + 1) * 65536 + by_ l (i + 2) * 256 + by_ l (i + 3)) / 256 % 256 = by_ l (i + 2) by omega, show (by_ l i * 16777216 + by_ l (i + 1) * 65536 + by_ l (i + 2) * 256 + by_ l (i + 3)) % 256 = by_ l (i + 3) by omega]
theorem enc_decE (l : List Int) (hb : isBytes l) (h : entC l) : encE (w2 l 0) (opv l 2).1 (opv l 2).2.1 (opv l 2).2.2.1 (opv l 2).2.2.2.1 (opv l 2).2.2.2.2.1 = l := by
  obtain ⟨h6, hc, ⟨hk, he⟩, ho⟩ := h
  have hk' := hk
  unfold opk at hk'
  simp only [Bool.and_eq_true, decide_eq_true_eq] at hk'
  obtain ⟨⟨⟨⟨⟨k1, k2⟩, k3⟩, k4⟩, k5⟩, k6⟩ := hk'
  have d0 : l = two (w2 l 0) ++ l.drop 2 := drop_two l 0 hb (by omega) (by omega)
  have r2 := by_range hb 2
  have d2 : l.drop 2 = [by_ l 2 % 256] ++ l.drop 3 := by
    have := drop_by l 2 (by omega) k1
    rw [show by_ l 2 % 256 = by_ l 2 by omega]
    exact this
  have d3 : l.drop 3 = tx (oT1 l 2).1 ++ l.drop (oT1 l 2).2.1.toNat := getT_inv l 3 hb k2
  have d4 : l.drop (oT1 l 2).2.1.toNat = tx (oT2 l 2).1 ++ l.drop (oT2 l 2).2.1.toNat := getT_inv l _ hb k3
  have d5 : l.drop (oT2 l 2).2.1.toNat = two (oW1 l 2).1 ++ l.drop (oW1 l 2).2.1.toNat := getW_inv l _ hb k4
  have d6 : l.drop (oW1 l 2).2.1.toNat = two (oW2 l 2).1 ++ l.drop (oW2 l 2).2.1.toNat := getW_inv l _ hb k5
  have hend : (oW2 l 2).2.1 = ((l.length - 4 : Nat) : Int) := he
  have hcat : l = body (w2 l 0) (by_ l 2) (oT1 l 2).1 (oT2 l 2).1 (oW1 l 2).1 (oW2 l 2).1 ++ l.drop (l.length - 4) := by
    have : l = two (w2 l 0) ++ ([by_ l 2 % 256] ++ (tx (oT1 l 2).1 ++ (tx (oT2 l 2).1 ++ (two (oW1 l 2).1 ++ (two (oW2 l 2).1 ++ l.drop (oW2 l 2).2.1.toNat))))) := by
      rw [← d6, ← d5, ← d4, ← d3, ← d2]
      exact d0
    rw [hend, Int.toNat_natCast] at this
    unfold body
    simp only [List.append_assoc]
    exact this
  have hbl : (body (w2 l 0) (by_ l 2) (oT1 l 2).1 (oT2 l 2).1 (oW1 l 2).1 (oW2 l 2).1).length = l.length - 4 := by
    have := congrArg List.length hcat
    rw [List.length_append, List.length_drop] at this
    omega
  have htake : l.take (l.length - 4) = body (w2 l 0) (by_ l 2) (oT1 l 2).1 (oT2 l 2).1 (oW1 l 2).1 (oW2 l 2).1 := by
    conv => lhs; rw [hcat]
    rw [← hbl, List.length_append]
    have : (body (w2 l 0) (by_ l 2) (oT1 l 2).1 (oT2 l 2).1 (oW1 l 2).1 (oW2 l 2).1).length + (l.drop (body (w2 l 0) (by_ l 2) (oT1 l 2).1 (oT2 l 2).1 (oW1 l 2).1 (oW2 l 2).1).length).length - 4 = (body (w2 l 0) (by_ l 2) (oT1 l 2).1 (oT2 l 2).1 (oW1 l 2).1 (oW2 l 2).1).length := by
      rw [List.length_drop]
      omega
    rw [this, List.take_left]
  have hlast : l.drop (l.length - 4) = four (get4 l ((l.length : Int) - 4)) := by
    have := four_get l ((l.length : Int) - 4) hb (by omega) (by omega)
    rw [show ((l.length : Int) - 4).toNat = l.length - 4 by omega] at this
    exact this
  show body (w2 l 0) (by_ l 2) (oT1 l 2).1 (oT2 l 2).1 (oW1 l 2).1 (oW2 l 2).1 ++ four (crc (body (w2 l 0) (by_ l 2) (oT1 l 2).1 (oT2 l 2).1 (oW1 l 2).1 (oW2 l 2).1)) = l
  rw [← htake, ← hc, ← hlast, List.take_append_drop]
/-- One byte changed: it is no entry. -/
theorem changedE (l : List Int) (hb : isBytes l) (h : entC l) (i : Nat) (v : Int) (hi : i < l.length) (v0 : 0 ≤ v) (v1 : v < 256) (hv : v ≠ l.getD i 0) : ¬ entC (l.set i v) := by
  obtain ⟨h6, hc, _⟩ := h
  rintro ⟨_, hc', _⟩
  rw [List.length_set] at hc'
  have hself := by_set_self l i v hi
  have hbi : by_ l (i : Int) = l.getD i 0 := by unfold by_; rw [Int.toNat_natCast]
  by_cases h11 : i < l.length - 4
  · have g : get4 (l.set i v) ((l.length : Int) - 4) = get4 l ((l.length : Int) - 4) := by
      unfold get4
      rw [by_set l i v _ (by omega), by_set l i v _ (by omega), by_set l i v _ (by omega), by_set l i v _ (by omega)]
    have t : (l.set i v).take (l.length - 4) = (l.take (l.length - 4)).set i v := by rw [List.take_set]
    rw [g, t, hc] at hc'
    have := crc_set (l.take (l.length - 4)) i v (isBytes_take hb _) (by rw [List.length_take]; omega) v0 v1 hc'.symm
    apply hv
    rw [← this, List.getD_eq_getElem?_getD, List.getD_eq_getElem?_getD, List.getElem?_take, if_pos h11]
  · have t : (l.set i v).take (l.length - 4) = l.take (l.length - 4) := List.take_set_of_le (by omega)
    rw [t, ← hc] at hc'
    unfold get4 at hc'
    generalize hN : (l.length : Int) - 4 = N at hc'
    have q0 := by_range hb N
    have q1 := by_range hb (N + 1)
    have q2 := by_range hb (N + 2)
    have q3 := by_range hb (N + 3)
    have hcase : (i : Int) = N ∨ (i : Int) = N + 1 ∨ (i : Int) = N + 2 ∨ (i : Int) = N + 3 := by omega
    rcases hcase with e | e | e | e
    · rw [e] at hbi hself
      rw [hself, by_set l i v (N + 1) (by omega), by_set l i v (N + 2) (by omega), by_set l i v (N + 3) (by omega)] at hc'
      omega
    · rw [e] at hbi hself
      rw [hself, by_set l i v N (by omega), by_set l i v (N + 2) (by omega), by_set l i v (N + 3) (by omega)] at hc'
      omega
    · rw [e] at hbi hself
      rw [hself, by_set l i v N (by omega), by_set l i v (N + 1) (by omega), by_set l i v (N + 3) (by omega)] at hc'
      omega
    · rw [e] at hbi hself
      rw [hself, by_set l i v N (by omega), by_set l i v (N + 1) (by omega), by_set l i v (N + 2) (by omega)] at hc'
      omega
theorem DrawGetEnt_ok (x : List Int) (hx : x.length ≤ 1099511627776) : ∃ l, F_spec_DrawGetEnt x = some l ∧ isBytes l ∧ l.length ≤ 1000 := by
  obtain ⟨s, e0⟩ := New_ok x hx
  obtain ⟨q, p1, s1, e1, h1, _⟩ := Int_ok x 0 s [1, 2, 7, 60000] (by simp) (by simp) (cur0 x hx)
  obtain ⟨k, n, t, a, b, p2, s2, e2, h2, hn, ht⟩ := Op_ok x p1 s1 h1
  have hD : F_spec_l17Draw (x, 0, s) = some (q, k, n, t, a, b, x, p2, s2) := by
    unfold F_spec_l17Draw
    rw [e1]
    simp only [Option.bind_some]
    rw [e2]
    rfl
  have hP : ∃ l, F_spec_PutEnt (q, k, n, t, a, b) = some l ∧ isBytes l ∧ l.length ≤ 135 := by
    rw [spec_PutEnt_eq q k n t a b hn ht]
    refine ⟨_, rfl, ?_, ?_⟩
    · split
      · exact encE_bytes q k n t a b
      · intro y hy
        simp at hy
    · split
      · rw [encE_len]
        omega
      · simp
  obtain ⟨l, el, hl, hll⟩ := hP
  obtain ⟨o, p3, s3, e3, h3, hob, hol⟩ := Bend_ok x p2 s2 l h2 hl (by omega)
  obtain ⟨v4, p4, s4, e4, h4, _⟩ := Once_ok x p3 s3 6 h3
  unfold F_spec_DrawGetEnt
  rw [e0]
  simp only [Option.bind_some]
  rw [hD]
  simp only [Option.bind_some]
  rw [el]
  simp only [Option.bind_some]
  rw [e3]
  simp only [Option.bind_some]
  rw [e4]
  simp only [Option.bind_some]
  cases v4 with
  | false =>
    simp only [cond_false, Option.bind_some]
    exact ⟨o, rfl, hob, by omega⟩
  | true =>
    simp only [cond_true, Option.bind_some]
    by_cases h6 : (o.length : Int) > 6
    · obtain ⟨v5, p5, s5, e5, h5, _⟩ := Below_ok x p4 s4 12 h4
      have hw : Go.IntKind.wrap .i64 ((o.length : Int) - 4) = (o.length : Int) - 4 := w64 (by omega) (by omega)
      have hlt : ((o.take ((o.length : Int) - 4).toNat).length : Int) = (o.length : Int) - 4 := by rw [List.length_take]; omega
      rw [show decide (((o.length : Nat) : Int) > (6 : Int)) = true from decide_eq_true h6, cond_true, hw, if_pos (Int.le_refl _), if_pos (by omega), if_pos (by omega), e5]
      simp only [Option.bind_some]
      have rw' := wrap_u8_range v5
      have hsb : isBytes ((o.take ((o.length : Int) - 4).toNat).set (Int.toNat 2) (Go.IntKind.wrap .u8 v5)) := isBytes_set (isBytes_take hob _) _ rw'.1 rw'.2
      have hsl : ((o.take ((o.length : Int) - 4).toNat).set (Int.toNat 2) (Go.IntKind.wrap .u8 v5)).length ≤ 200 := by rw [List.length_set, List.length_take]; omega
      rw [if_pos (by omega), if_pos (by rw [hlt]; omega), spec_Crc_eq _ hsb (by omega)]
      simp only [Option.bind_some]
      rw [l17Four_eq _ _ (by omega)]
      refine ⟨_, rfl, isBytes_append hsb (four_bytes _), ?_⟩
      rw [List.length_append]
      simp only [four, List.length_cons, List.length_nil]
      omega
    · rw [show decide (((o.length : Nat) : Int) > (6 : Int)) = false from decide_eq_false h6, cond_false]
      exact ⟨o, rfl, hob, by omega⟩
theorem SlotOf_pos (x : Int) (h0 : 0 ≤ x) (h1 : x ≤ 1000000) : F_impl_SlotOf x = some (2 + x % 6) := by
  unfold F_impl_SlotOf
  rw [decide_eq_false (by omega), cond_false, Int.tmod_eq_emod_of_nonneg h0, w64 (by omega) (by omega)]
theorem SlotOf_alike (x : Int) : ∃ v, F_impl_SlotOf x = some v ∧ F_spec_SlotOf x = some v := by
  unfold F_impl_SlotOf F_spec_SlotOf
  cases decide (x < 0)
  · exact ⟨_, rfl, rfl⟩
  · exact ⟨_, rfl, rfl⟩
theorem ents_loop {R : Type} (k0 : (List E_u8 × Bool × Bool × Bool × Int × Int × Int × ByteArray × ByteArray × Int × Int × Int × Int × ByteArray × ByteArray × Int × Int × List E_u8 × List E_u8) → Option R) (k1 : (List E_u8 × Bool × Bool × Int × Int × Int × ByteArray × ByteArray × Int × Int × Int × Int × ByteArray × ByteArray × Int × Int × List E_u8 × List E_u8) → Option R)
    (x : List E_u8) (b1 b2 : Bool) (n k : Int) (r : Int × Int × ByteArray × ByteArray × Int × Int × Int × Int × ByteArray × ByteArray × Int × Int × List E_u8 × List E_u8) (h0 : 0 ≤ k) (h1 : k ≤ 100000) :
    L_laws_FnEnts_11 k0 k1 (x, b1, b2, n, k, 1, r) = k1 (x, b1, b2, n, r) := by
  have hF : FUEL = (FUEL - 6) + 1 + 1 + 1 + 1 + 1 + 1 := by
    have := FUEL_eq
    omega
  have step : ∀ (again : T_laws_FnEnts_11 → Option R) (i : Int), 1 ≤ i → i < 6 → S_laws_FnEnts_11 k0 k1 again (x, b1, b2, n, k, i, r) = again (x, b1, b2, n, k, i + 1, r) := by
    intro again i i0 i1
    unfold S_laws_FnEnts_11
    simp only []
    rw [decide_eq_true i1, cond_true, w64 (n := k + i) (by omega) (by omega), w64 (n := i + 1) (by omega) (by omega), SlotOf_pos (k + i) (by omega) (by omega)]
    simp only [Option.bind_some]
    rw [SlotOf_pos k h0 (by omega)]
    simp only [Option.bind_some]
    rw [show ((2 + (k + i) % 6) == (2 + k % 6)) = false by simp; omega, cond_false]
    simp only [Option.bind_some]
    rw [decide_eq_false (show ¬ 2 + (k + i) % 6 < 2 by omega), cond_false]
    simp only [Option.bind_some]
    rw [decide_eq_false (show ¬ 2 + (k + i) % 6 > 7 by omega), cond_false]
  have fin : ∀ (again : T_laws_FnEnts_11 → Option R), S_laws_FnEnts_11 k0 k1 again (x, b1, b2, n, k, 6, r) = k1 (x, b1, b2, n, r) := by
    intro again
    unfold S_laws_FnEnts_11
    simp only []
    rw [decide_eq_false (show ¬ (6 : Int) < 6 by omega), cond_false]
  unfold L_laws_FnEnts_11
  rw [hF, iter, step _ 1 (by omega) (by omega), iter, step _ (1 + 1) (by omega) (by omega), iter, step _ (1 + 1 + 1) (by omega) (by omega), iter, step _ (1 + 1 + 1 + 1) (by omega) (by omega), iter, step _ (1 + 1 + 1 + 1 + 1) (by omega) (by omega), iter]
  exact fin _
theorem at_ok' (x : List Int) (i : Int) (hb : isBytes x) (hx : x.length ≤ 1048576) (h0 : 0 ≤ i) (h1 : i ≤ 1000) : ∃ v, F_laws_at (x, i) = some v ∧ 0 ≤ v ∧ v < 256 := by
  unfold F_laws_at
  simp only [Bool.cond_eq_ite, decide_eq_true_eq]
  by_cases h : i < (x.length : Int)
  · rw [if_pos h, if_pos h0, if_pos h, rd_by, w64_by hb]
    exact ⟨_, rfl, by_range hb i⟩
  · rw [if_neg h, w64 (n := i * 31) (by omega) (by omega), w64 (n := (x.length : Int) * 7) (by omega) (by omega), w64 (n := i * 31 + (x.length : Int) * 7) (by omega) (by omega), Int.tmod_eq_emod_of_nonneg (by omega)]
    exact ⟨_, rfl, by omega, by omega⟩
theorem noText_size (s : ByteArray) (h : noText s = true) : s.size ≤ 6 := by
  unfold noText at h
  have h1 : s.toList = [] := by simpa using h
  rw [ByteArray.toList_eq] at h1
  have : s.size = s.data.toList.length := by rw [Array.length_toList]; rfl
  rw [this, h1]
  simp
theorem nameOk_size (s : ByteArray) (h : nameOk s = true) : s.size ≤ 6 := by
  unfold nameOk at h
  simp only [Bool.and_eq_true, inR_iff] at h
  omega
theorem opOk_size (k : Int) (n t : ByteArray) (a b : Int) (h : opOk k n t a b = true) : n.size ≤ 6 ∧ t.size ≤ 6 := by
  unfold opOk at h
  simp only [Bool.and_eq_true] at h
  obtain ⟨⟨⟨⟨⟨_, hn⟩, ht⟩, _⟩, _⟩, _⟩ := h
  refine ⟨?_, ?_⟩
  · split at hn
    · exact noText_size n hn
    · exact nameOk_size n hn
  · split at ht
    · exact nameOk_size t ht
    · exact noText_size t ht
theorem law_Ents (x : List Int) (hb : isBytes x) : F_laws_FnEnts x = some true := by
  unfold F_laws_FnEnts F_laws_big
  simp only [Option.bind_some]
  by_cases hbig : (x.length : Int) > 1048576
  · rw [decide_eq_true hbig]
    rfl
  · rw [decide_eq_false hbig, cond_false]
    have hx : x.length ≤ 1048576 := by omega
    obtain ⟨q, k, n, t, a, b, e1, hn, ht⟩ := DrawPutEnt_ok x (by omega)
    obtain ⟨l, e2, hl, hll⟩ := DrawGetEnt_ok x (by omega)
    obtain ⟨u, e3⟩ := DrawSlotOf_ok x (by omega)
    obtain ⟨w, e4, w0, w1⟩ := at_ok' x 2 hb hx (by omega) (by omega)
    obtain ⟨sv, e5, e6⟩ := SlotOf_alike u
    rw [e1]
    simp only [Option.bind_some]
    rw [impl_PutEnt_eq q k n t a b hn ht]
    simp only [Option.bind_some]
    rw [e2]
    simp only [Option.bind_some]
    rw [impl_GetEnt_eq l hl (by omega)]
    simp only [Option.bind_some]
    rw [spec_GetEnt_eq l hl (by omega)]
    simp only [Option.bind_some]
    rw [e3]
    simp only [Option.bind_some]
    rw [e4]
    simp only [Option.bind_some]
    rw [w64 (n := w * 9) (by omega) (by omega), ents_loop _ _ x _ _ u (w * 9) _ (by omega) (by omega)]
    simp only [beq_self_eq_true, Bool.not_true, cond_false]
    -- what was read is written alike
    have hread : (bif (entR l).2.2.2.2.2.2 then (F_impl_PutEnt ((entR l).1, (entR l).2.1, (entR l).2.2.1, (entR l).2.2.2.1, (entR l).2.2.2.2.1, (entR l).2.2.2.2.2.1)).bind fun r19 => some (!((ByteArray.toList (textOf r19)) == (ByteArray.toList (textOf l)))) else some false) = some false := by
      by_cases hC : entC l
      · unfold entR
        rw [if_pos hC]
        simp only [cond_true]
        rw [impl_PutEnt_eq (w2 l 0) (opv l 2).1 (opv l 2).2.1 (opv l 2).2.2.1 (opv l 2).2.2.2.1 (opv l 2).2.2.2.2.1 (getT_size l _ hl) (getT_size l _ hl), if_pos hC.2.2.2, enc_decE l hl hC]
        simp
      · unfold entR
        rw [if_neg hC]
        rfl
    rw [hread]
    simp only [Option.bind_some, cond_false]
    rw [impl_EntOk_eq q k n t a b (size60 hn) (size60 ht)]
    simp only [Option.bind_some]
    rw [spec_EntOk_eq q k n t a b (size60 hn) (size60 ht)]
    simp only [Option.bind_some, beq_self_eq_true, Bool.not_true, cond_false]
    rw [e5]
    simp only [Option.bind_some]
    rw [e6]
    simp only [Option.bind_some, bne_self_eq_false, cond_false]
    cases hs : entOk q k n t a b with
    | false => rfl
    | true =>
      simp only [Bool.not_true, cond_false, if_true]
      have hbe := encE_bytes q k n t a b
      have hle := encE_len q k n t a b
      have ho : opOk k n t a b = true := by
        unfold entOk at hs
        simp only [Bool.and_eq_true] at hs
        exact hs.2
      have hsz := opOk_size k n t a b ho
      obtain ⟨hC, hdec⟩ := dec_encE q k n t a b hn ht hs
      rw [impl_GetEnt_eq _ hbe (by omega), hdec]
      simp only [Option.bind_some, Bool.not_true, cond_false, beq_self_eq_true, Bool.and_self, Bool.and_true]
      rw [decide_eq_false (show ¬ (((encE q k n t a b).length : Nat) : Int) > 80 by omega)]
      simp only [cond_false]
      obtain ⟨y, e7, y0, y1⟩ := at_ok' x 3 hb hx (by omega) (by omega)
      obtain ⟨z, e8, z0, z1⟩ := at_ok' x 4 hb hx (by omega) (by omega)
      rw [e7]
      simp only [Option.bind_some]
      have hL : 15 ≤ (((encE q k n t a b).length : Nat) : Int) := by omega
      have hm : Int.tmod y ((encE q k n t a b).length : Int) = y % ((encE q k n t a b).length : Int) := Int.tmod_eq_emod_of_nonneg y0
      have hm0 : 0 ≤ y % ((encE q k n t a b).length : Int) := Int.emod_nonneg _ (by omega)
      have hm1 : y % ((encE q k n t a b).length : Int) < ((encE q k n t a b).length : Int) := Int.emod_lt_of_pos _ (by omega)
      have hz : Int.tmod z 255 = z % 255 := Int.tmod_eq_emod_of_nonneg z0
      rw [hm, if_neg (by omega), if_pos hm0, if_pos hm1, e8]
      simp only [Option.bind_some]
      rw [hz, w64 (n := 1 + z % 255) (by omega) (by omega), wrap_u8, if_pos hm0, if_pos hm1, rd_by]
      generalize y % ((encE q k n t a b).length : Int) = m at hm0 hm1
      have r := by_range hbe m
      have hx3 := xor_u8_ne (by_ (encE q k n t a b) m) ((1 + z % 255) % 256) r.1 r.2 (by omega) (by omega)
      have hch := changedE _ hbe hC m.toNat _ (by omega) hx3.1 hx3.2.1 (by unfold by_ at hx3 ⊢; exact hx3.2.2)
      rw [impl_GetEnt_eq _ (isBytes_set hbe _ hx3.1 hx3.2.1) (by rw [List.length_set]; omega)]
      have hbad : entR ((encE q k n t a b).set m.toNat (bits .xor .u8 (by_ (encE q k n t a b) m) ((1 + z % 255) % 256))) = (0, 0, noB, noB, 0, 0, false) := by
        unfold entR
        rw [if_neg hch]
      rw [hbad]
      rfl
end Go.Proofs.Ytmanmgafjbnakaa.Pl

