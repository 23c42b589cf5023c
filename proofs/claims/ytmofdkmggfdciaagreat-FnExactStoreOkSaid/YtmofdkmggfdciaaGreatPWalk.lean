/- Whole, Rng, Seen, See, Walk. No condition. -/
import Derived.Test.YtmofdkmggfdciaaGreatPTree
set_option linter.all false
namespace Go.Proofs.YtmofdkmggfdciaaGreat.Pl
open Go.Proofs.YtmofdkmggfdciaaGreat.R Go.Proofs.YtmofdkmggfdciaaGreat.XO
theorem szStep (o : Option Int) (n w : Int) (k : Int → Option Int) (h : szOk n w o) : (Option.bind o fun r => bif (decide (r < (0 : Int))) then some (-1 : Int) else k r) = some (-1) ∨ (0 ≤ n - w ∧ (Option.bind o fun r => bif (decide (r < (0 : Int))) then some (-1 : Int) else k r) = k (n - w)) := by
  obtain ⟨r, rfl, hc⟩ := h
  simp only [Option.bind_some, Bool.cond_eq_ite, decide_eq_true_eq]
  rcases hc with hc | ⟨h0, h1⟩
  · exact .inl (if_pos hc)
  · subst h1
    exact .inr ⟨h0, if_neg (by omega)⟩
def small (is : List E_i64) (ns : List E_LNode) (ags : List E_LAge) (cs : List E_LCell) (vs : List E_LVol) : Prop :=
  is.length ≤ 1048576 ∧ ns.length ≤ 1048576 ∧ sumW wSets ns ≤ 1048576 ∧ ags.length ≤ 1048576 ∧ cs.length ≤ 1048576 ∧ vs.length ≤ 1048576
theorem szPool_okN (m : Int) (m0 : 0 ≤ m) (m1 : m ≤ 1048576) (is : List E_i64) (ns : List E_LNode) (ags : List E_LAge) (cs : List E_LCell) (vs : List E_LVol) (z : Int) (hi : is.length ≤ maxLen) (hn : ns.length ≤ maxLen) (hnn : ∀ a ∈ ns, List.length a ≤ maxLen ∧ ∀ b ∈ (show List E_s_LKey from a), List.length b ≤ maxLen)
    (ha : ags.length ≤ maxLen) (hc : cs.length ≤ maxLen) (hv : vs.length ≤ maxLen) (hvv : ∀ a ∈ vs, ByteArray.size a.1 ≤ maxLen) : ∃ r, F_laws_szPool (is, ns, ags, cs, vs, z, m) = some r ∧ (r < 0 ∨ small is ns ags cs vs) := by
  have hT : F_laws_szTree (is, ns, m) = some (-1) ∨ ∃ r, F_laws_szTree (is, ns, m) = some r ∧ 0 ≤ r ∧ r ≤ 1048576 ∧ is.length ≤ 1048576 ∧ ns.length ≤ 1048576 ∧ sumW wSets ns ≤ 1048576 := by
    unfold F_laws_szTree
    rcases szStep _ _ _ (fun r1 => Option.bind (F_laws_szNodeS (ns, r1)) fun r2 => bif (decide (r2 < (0 : Int))) then some (-1 : Int) else some r2) (szIntS_ok is hi m m0 m1) with h | ⟨h0, h⟩
    · exact .inl h
    · have hw := sumW_nonneg wSets_nonneg ns
      rcases szStep _ _ _ (fun r2 => some r2) (szNodeS_ok ns hn hnn (m - (is.length : Int)) h0 (by omega)) with h' | ⟨h0', h'⟩
      · exact .inl (h.trans h')
      · refine .inr ⟨_, h.trans h', h0', by omega, by omega, by omega, by omega⟩
  unfold F_laws_szPool
  rcases hT with hT | ⟨r, hT, r0, r1, i1, n1, n2⟩
  · rw [hT]
    exact ⟨-1, rfl, .inl (by omega)⟩
  · simp only [hT, Option.bind_some]
    rw [Bool.cond_eq_ite, if_neg (by simp; omega)]
    rcases szStep _ _ _ (fun r2 => Option.bind (F_laws_szCellS (cs, r2)) fun r3 => bif (decide (r3 < (0 : Int))) then some (-1 : Int) else Option.bind (F_laws_szVolS (vs, r3)) fun r4 => bif (decide (r4 < (0 : Int))) then some (-1 : Int) else some r4) (szAgeS_ok ags ha r r0 r1) with h | ⟨h0, h⟩
    · exact ⟨-1, h, .inl (by omega)⟩
    · rcases szStep _ _ _ (fun r3 => Option.bind (F_laws_szVolS (vs, r3)) fun r4 => bif (decide (r4 < (0 : Int))) then some (-1 : Int) else some r4) (szCellS_ok cs hc (r - (ags.length : Nat)) h0 (by omega)) with h' | ⟨h0', h'⟩
      · exact ⟨-1, h.trans h', .inl (by omega)⟩
      · have hw := sumW_nonneg (w := fun a : E_LVol => (ByteArray.size a.1 : Int)) (fun a => Int.natCast_nonneg _) vs
        rcases szStep _ _ _ (fun r4 => some r4) (szVolS_ok vs hv hvv (r - (ags.length : Nat) - (cs.length : Nat)) h0' (by omega)) with h'' | ⟨h0'', h''⟩
        · exact ⟨-1, h.trans (h'.trans h''), .inl (by omega)⟩
        · exact ⟨_, h.trans (h'.trans h''), .inr ⟨i1, n1, n2, by omega, by omega, by omega⟩⟩
theorem szPool_ok (is : List E_i64) (ns : List E_LNode) (ags : List E_LAge) (cs : List E_LCell) (vs : List E_LVol) (z : Int) (hi : is.length ≤ maxLen) (hn : ns.length ≤ maxLen) (hnn : ∀ a ∈ ns, List.length a ≤ maxLen ∧ ∀ b ∈ (show List E_s_LKey from a), List.length b ≤ maxLen)
    (ha : ags.length ≤ maxLen) (hc : cs.length ≤ maxLen) (hv : vs.length ≤ maxLen) (hvv : ∀ a ∈ vs, ByteArray.size a.1 ≤ maxLen) : ∃ r, F_laws_szPool (is, ns, ags, cs, vs, z, 1048576) = some r ∧ (r < 0 ∨ small is ns ags cs vs) := szPool_okN 1048576 (by omega) (by omega) is ns ags cs vs z hi hn hnn ha hc hv hvv
theorem node_small {ns : List E_LNode} (h : sumW wSets ns ≤ 1048576) {n : List E_s_LKey} (hn : n ∈ ns) : n.length ≤ 1048576 ∧ ∀ s ∈ n, List.length s ≤ 1048576 := by
  have h1 := (sumW_mem wSets_nonneg hn).1
  have h2 := sumW_nonneg lenK_nonneg n
  have h3 : wSets n = (List.length n : Int) + sumW lenK n := rfl
  refine ⟨by omega, fun s hs => ?_⟩
  have h4 := (sumW_mem lenK_nonneg hs).1
  have h5 : lenK s = (List.length s : Int) := rfl
  omega
theorem toPool_eq (is : List E_i64) (ns : List E_LNode) (ags : List E_LAge) (cs : List E_LCell) (vs : List E_LVol) (z : Int) (h : small is ns ags cs vs) : F_laws_toPool (is, ns, ags, cs, vs, z) = some (is, ns, ags, cs, vs, z) := by
  obtain ⟨h1, h2, h3, h4, h5, h6⟩ := h
  have hN : F_laws_toNodeS ns = some ns := toNodeS_eq ns h2 fun a ha => by
    have hs := node_small h3 ha
    unfold F_laws_toNode
    rw [toKeySS_eq a hs.1 fun b hb => toKeyS_eq b (hs.2 b hb)]
    rfl
  unfold F_laws_toPool F_laws_toTree
  simp only [toIntS_eq is h1, hN, toAgeS_eq ags h4, toCellS_eq cs h5, toVolS_eq vs h6, Option.bind_some]
theorem eqPool_refl (is : List E_i64) (ns : List E_LNode) (ags : List E_LAge) (cs : List E_LCell) (vs : List E_LVol) (z : Int) (h : small is ns ags cs vs) : F_laws_eqPool (is, ns, ags, cs, vs, z, is, ns, ags, cs, vs, z) = some true := by
  obtain ⟨h1, h2, h3, h4, h5, h6⟩ := h
  have hN : F_laws_eqNodeS (ns, ns) = some true := eqNodeS_refl ns h2 fun a ha => by
    have hs := node_small h3 ha
    unfold F_laws_eqNode
    rw [eqKeySS_refl a hs.1 fun b hb => eqKeyS_refl b (hs.2 b hb)]
    rfl
  unfold F_laws_eqPool F_laws_eqTree
  simp only [eqIntS_refl is h1, hN, eqAgeS_refl ags h4, eqCellS_refl cs h5, eqVolS_refl vs h6, Option.bind_some, Bool.not_true, cond_false, bne_self_eq_false]
end Go.Proofs.YtmofdkmggfdciaaGreat.Pl
namespace Go.Proofs.YtmofdkmggfdciaaGreat.Pl
open Go.Proofs.YtmofdkmggfdciaaGreat.R Go.Proofs.YtmofdkmggfdciaaGreat.XO
theorem l1In_eq (x a b : Int) : F_spec_l1In (x, a, b) = some (inR x a b) := by
  unfold F_spec_l1In inR
  by_cases h : x ≥ a <;> simp [h]
theorem within_eq (x a b : Int) : F_impl_within (x, a, b) = some (inR x a b) := by
  unfold F_impl_within inR
  by_cases h : x ≥ a <;> simp [h]
theorem bi (x y : Int) : ((x == y) = true) = (x = y) := by simp
end Go.Proofs.YtmofdkmggfdciaaGreat.Pl
namespace Go.Proofs.YtmofdkmggfdciaaGreat.Pl
open Go.Proofs.YtmofdkmggfdciaaGreat.R Go.Proofs.YtmofdkmggfdciaaGreat.XO
def runE {S A R : Type} (g : Int → S → A → Except (Option R) S) (k : S → Option R) : List A → Int → S → Option R
  | [], _, s => k s
  | a :: l, i, s => match g i s a with
    | .error r => r
    | .ok s' => runE g k l (i + 1) s'
theorem runE_loop {T A S R : Type} {step : (T → Option R) → T → Option R} (mk : Int → S → T) (g : Int → S → A → Except (Option R) S) (k : S → Option R) (da : A) (l : List A) (hl : l.length ≤ 1099511627776) (I : Nat → S → Prop)
    (h : ∀ again i s, 0 ≤ i → i < (l.length : Int) → I i.toNat s → (step again (mk i s) = match g i s (l.getD i.toNat da) with
      | .error r => r
      | .ok s' => again (mk (i + 1) s')) ∧ ∀ s', g i s (l.getD i.toNat da) = .ok s' → I (i.toNat + 1) s')
    (hd : ∀ again i s, ¬ i < (l.length : Int) → step again (mk i s) = k s) (s : S) (hs : I 0 s) : iter step FUEL (mk 0 s) = runE g k l 0 s := by
  have key : ∀ (n : Nat) (i : Int) (s : S), 0 ≤ i → i ≤ l.length → I i.toNat s → l.length - i.toNat < n → iter step n (mk i s) = runE g k (l.drop i.toNat) i s := by
    intro n
    induction n with
    | zero => intro i s _ _ _ hn; omega
    | succ n ih =>
      intro i s h0 h1 hI hn
      rw [iter]
      by_cases hi : i < (l.length : Int)
      · obtain ⟨e, hI'⟩ := h (iter step n) i s h0 hi hI
        have e1 : (i + 1).toNat = i.toNat + 1 := by omega
        rw [e, drop_getD da l i h0 hi, runE]
        cases hg : g i s (l.getD i.toNat da) with
        | error r => rfl
        | ok s' => exact ih (i + 1) s' (by omega) (by omega) (by rw [e1]; exact hI' s' hg) (by omega)
      · rw [hd _ i s hi, List.drop_of_length_le (by omega)]
        rfl
  have := key FUEL 0 s (by omega) (by omega) hs (by rw [FUEL_eq]; simp; omega)
  simpa using this
def findI {A : Type} (p : A → Bool) : List A → Int → Int
  | [], _ => -1
  | a :: l, i => if p a then i else findI p l (i + 1)
theorem runE_find {A R : Type} (p : A → Bool) (hit : Int → Option R) (miss : Option R) : ∀ (l : List A) (i : Int), 0 ≤ i → runE (fun i (_ : Unit) a => if p a then .error (hit i) else .ok ()) (fun _ => miss) l i () = if findI p l i < 0 then miss else hit (findI p l i)
  | [], i, _ => by simp [runE, findI]
  | a :: l, i, h => by
    rw [runE, findI]
    by_cases hp : p a = true
    · rw [if_pos hp, if_pos hp, if_neg (by omega)]
    · rw [if_neg hp, if_neg hp]
      exact runE_find p hit miss l (i + 1) (by omega)
theorem find_loop {T A R : Type} {step : (T → Option R) → T → Option R} (mk : Int → T) (p : A → Bool) (hit : Int → Option R) (miss : Option R) (da : A) (l : List A) (hl : l.length ≤ 1099511627776)
    (h : ∀ again i, 0 ≤ i → i < (l.length : Int) → step again (mk i) = if p (l.getD i.toNat da) then hit i else again (mk (i + 1)))
    (hd : ∀ again i, ¬ i < (l.length : Int) → step again (mk i) = miss) : iter step FUEL (mk 0) = if findI p l 0 < 0 then miss else hit (findI p l 0) := by
  rw [← runE_find p hit miss l 0 (Int.le_refl _)]
  refine runE_loop (fun i (_ : Unit) => mk i) _ _ da l hl (fun _ _ => True) (fun again i s h0 h1 _ => ⟨?_, fun _ _ => trivial⟩) (fun again i s hi => hd again i hi) () trivial
  rw [h again i h0 h1]
  cases p (l.getD i.toNat da) <;> rfl
theorem findI_spec {A : Type} (p : A → Bool) (da : A) : ∀ (l : List A) (i : Int), 0 ≤ i → findI p l i = -1 ∨ (i ≤ findI p l i ∧ findI p l i < i + l.length ∧ p (l.getD (findI p l i - i).toNat da) = true)
  | [], i, _ => .inl rfl
  | a :: l, i, h => by
    rw [findI]
    by_cases hp : p a = true
    · rw [if_pos hp]
      refine .inr ⟨Int.le_refl _, by simp only [List.length_cons]; omega, ?_⟩
      simpa using hp
    · rw [if_neg hp]
      rcases findI_spec p da l (i + 1) (by omega) with e | ⟨e1, e2, e3⟩
      · exact .inl e
      · refine .inr ⟨by omega, by simp only [List.length_cons]; omega, ?_⟩
        rw [show (findI p l (i + 1) - i).toNat = (findI p l (i + 1) - (i + 1)).toNat + 1 by omega, List.getD_cons_succ]
        exact e3
def ageAt (l : List E_Age) (id : Int) : Int := findI (fun a : E_Age => a.1 == id) l 0
theorem ageAt_spec (l : List E_Age) (id : Int) : ageAt l id = -1 ∨ (0 ≤ ageAt l id ∧ ageAt l id < l.length ∧ (l.getD (ageAt l id).toNat z_Age).1 = id) := by
  rcases findI_spec (fun a : E_Age => a.1 == id) z_Age l 0 (Int.le_refl _) with h | ⟨h1, h2, h3⟩
  · exact .inl h
  · refine .inr ⟨h1, by simpa [ageAt] using h2, ?_⟩
    have := eq_of_beq h3
    simpa [ageAt] using this
theorem spec_AgeAt_eq (l : List E_Age) (id : Int) (hl : l.length ≤ 1073741824) : F_spec_AgeAt (l, id) = some (ageAt l id) := by
  unfold F_spec_AgeAt L_spec_AgeAt_2
  refine (find_loop (step := S_spec_AgeAt_2 _ _) (fun i => (l, id, i)) (fun a : E_Age => a.1 == id) (fun x => some x) (some (-1)) z_Age l (by omega) ?_ ?_).trans ?_
  · intro again i h0 h1
    have hw : Go.IntKind.wrap .i64 (i + 1) = i + 1 := w64 (by omega) (by omega)
    unfold S_spec_AgeAt_2
    simp only [Bool.cond_eq_ite, decide_eq_true_eq, h0, h1, if_true, hw]
    rfl
  · intro again i hi
    unfold S_spec_AgeAt_2
    simp only [Bool.cond_eq_ite, decide_eq_true_eq, if_neg hi]
  · rcases ageAt_spec l id with h | ⟨h1, h2, h3⟩ <;> unfold ageAt at *
    · rw [h]
      rfl
    · rw [if_neg (by omega)]
theorem impl_AgeAt_eq (l : List E_Age) (id : Int) (hl : l.length ≤ 1073741824) : F_impl_AgeAt (l, id) = some (ageAt l id) := by
  have key : F_slices_IndexFunc_Age_impl_AgeAt_1 (l, id) = some (ageAt l id, id) := by
    unfold F_slices_IndexFunc_Age_impl_AgeAt_1 L_slices_IndexFunc_Age_impl_AgeAt_1_2
    refine (find_loop (step := S_slices_IndexFunc_Age_impl_AgeAt_1_2 _ _) (fun i => (l, (l.length : Int), i, id)) (fun a : E_Age => a.1 == id) (fun x => some (x, id)) (some (-1, id)) z_Age l (by omega) ?_ ?_).trans ?_
    · intro again i h0 h1
      have hw : Go.IntKind.wrap .i64 (i + 1) = i + 1 := w64 (by omega) (by omega)
      unfold S_slices_IndexFunc_Age_impl_AgeAt_1_2 F_impl_AgeAt_1
      simp only [Bool.cond_eq_ite, decide_eq_true_eq, h0, h1, if_true, hw, Option.bind_some]
      rfl
    · intro again i hi
      unfold S_slices_IndexFunc_Age_impl_AgeAt_1_2
      simp only [Bool.cond_eq_ite, decide_eq_true_eq, if_neg hi]
    · rcases ageAt_spec l id with h | ⟨h1, h2, h3⟩ <;> unfold ageAt at *
      · rw [h]
        rfl
      · rw [if_neg (by omega)]
  unfold F_impl_AgeAt
  rw [key]
  rfl
def hasI (l : List Int) (v : Int) : Bool := decide (0 ≤ findI (fun a : Int => a == v) l 0)
def pathI (l : List E_Age) : Nat → Int → List Int
  | 0, _ => []
  | n + 1, at_ => if at_ < 0 then [] else (l.getD at_.toNat z_Age).1 :: pathI l n (ageAt l (l.getD at_.toNat z_Age).2)
def pathOf (l : List E_Age) (id : Int) : List Int := pathI l (l.length + 1) (ageAt l id)
theorem pathI_pos (l : List E_Age) (n : Nat) (i : Int) (h : 0 ≤ i) : pathI l (n + 1) i = (l.getD i.toNat z_Age).1 :: pathI l n (ageAt l (l.getD i.toNat z_Age).2) := by rw [pathI, if_neg (by omega)]
theorem pathI_neg (l : List E_Age) (n : Nat) : pathI l n (-1) = [] := by cases n <;> simp [pathI]
theorem pathI_len (l : List E_Age) : ∀ (n : Nat) (i : Int), (pathI l n i).length ≤ n
  | 0, _ => by simp [pathI]
  | n + 1, i => by
    rw [pathI]
    split
    · simp
    · have := pathI_len l n (ageAt l (l.getD i.toNat z_Age).2)
      simp only [List.length_cons]
      omega
end Go.Proofs.YtmofdkmggfdciaaGreat.Pl
namespace Go.Proofs.YtmofdkmggfdciaaGreat.Pl
open Go.Proofs.YtmofdkmggfdciaaGreat.R Go.Proofs.YtmofdkmggfdciaaGreat.XO
def keyOne (blk : Int) (s : List E_Key) (a : E_Key) : List E_Key := if a.1 == blk then s ++ [a] else s
def keysOf (ks : List E_Key) (blk : Int) : List E_Key := ks.foldl (keyOne blk) []
theorem keyOne_len (blk : Int) (s : List E_Key) (a : E_Key) : (keyOne blk s a).length ≤ s.length + 1 := by
  unfold keyOne
  split <;> simp
theorem keysF_len (blk : Int) : ∀ (l s : List E_Key), (l.foldl (keyOne blk) s).length ≤ s.length + l.length
  | [], s => by simp
  | c :: l, s => by
    have h := keysF_len blk l (keyOne blk s c)
    have h2 := keyOne_len blk s c
    simp only [List.foldl_cons, List.length_cons]
    omega
theorem treeF_len : ∀ (t : List E_LNode) (s : List E_Key), ((t.foldl treeOne s).length : Int) ≤ s.length + sumW wSets t
  | [], s => by simp [sumW]
  | n :: t, s => by
    have h := treeF_len t (treeOne s n)
    have h1 := nodeK_len n
    have h2 := wSets_ge n
    have h3 : (treeOne s n).length = s.length + (nodeK n).length := List.length_append
    simp only [List.foldl_cons, sumW_cons]
    omega
theorem treeK_len (t : List E_LNode) : ((treeK t).length : Int) ≤ sumW wSets t := by
  have := treeF_len t []
  simpa [treeK] using this
structure TOk (t : List E_Node) : Prop where
  len : t.length ≤ 1048576
  nodes : ∀ n ∈ t, List.length n ≤ 1073741824
  sum : sumW wSets t ≤ 1048576
theorem TOk.keys {t : List E_Node} (h : TOk t) : (treeK t).length ≤ 1048576 := by
  have h1 := treeK_len t
  have h2 := h.sum
  omega
def seenOne (path : List Int) (s : Bool × E_Key) (a : E_Key) : Bool × E_Key := if hasI path a.2.1 = true ∧ (s.1 = false ∨ s.2.2.1 < a.2.1) then (true, a) else s
def nearest (ks : List E_Key) (path : List Int) : Bool × E_Key := ks.foldl (seenOne path) (false, (0, 0, 0, 0, 0))
def ans (r : Bool × E_Key) : Int × Int × Int × Int × Int × Bool := (r.2.1, r.2.2.1, r.2.2.2.1, r.2.2.2.2.1, r.2.2.2.2.2, r.1)
def seenK (t : List E_Node) (l : List E_Age) (blk id : Int) : Bool × E_Key := nearest (keysOf (treeK t) blk) (pathOf l id)
theorem path_small (l : List E_Age) (id : Int) (hl : l.length ≤ 1048576) : (pathOf l id).length ≤ 1073741824 := by
  have := pathI_len l (l.length + 1) (ageAt l id)
  unfold pathOf
  omega
def seesK (t : List E_Node) (l : List E_Age) (k : E_Key) (id : Int) : Bool := (seenK t l k.1 id).1 && ((seenK t l k.1 id).2.2.1 == k.2.1)
def volSees (t : List E_Node) (l : List E_Age) (k : E_Key) (v : E_Vol) : Bool := decide (v.2.2.1 > k.1) && seesK t l k v.2.1
def anySees (t : List E_Node) (l : List E_Age) (vs : List E_Vol) (k : E_Key) : Bool := decide (0 ≤ findI (volSees t l k) vs 0)
def distOne (t : List E_Node) (l : List E_Age) (vs : List E_Vol) (n : Int) (k : E_Key) : Int := if k.2.2.1 = 1 ∧ anySees t l vs k = true then Go.IntKind.wrap .i64 (n + 1) else n
def distinct (t : List E_Node) (l : List E_Age) (vs : List E_Vol) : Int := (treeK t).foldl (distOne t l vs) 0
end Go.Proofs.YtmofdkmggfdciaaGreat.Pl
namespace Go.Proofs.YtmofdkmggfdciaaGreat.Pl
open Go.Proofs.YtmofdkmggfdciaaGreat.R Go.Proofs.YtmofdkmggfdciaaGreat.XO
def anyE {A : Type} (p : Int → A → Bool) : List A → Int → Bool
  | [], _ => false
  | a :: l, i => p i a || anyE p l (i + 1)
theorem anyE_or {A : Type} (p q : Int → A → Bool) : ∀ (l : List A) (i : Int), anyE (fun i a => p i a || q i a) l i = (anyE p l i || anyE q l i)
  | [], _ => rfl
  | a :: l, i => by
    rw [anyE, anyE, anyE, anyE_or p q l (i + 1)]
    cases p i a <;> cases q i a <;> cases anyE p l (i + 1) <;> rfl
theorem anyE_congr {A : Type} {p q : Int → A → Bool} : ∀ (l : List A) (i : Int), (∀ j a, i ≤ j → p j a = q j a) → anyE p l i = anyE q l i
  | [], _, _ => rfl
  | a :: l, i, h => by rw [anyE, anyE, h i a (Int.le_refl _), anyE_congr l (i + 1) (fun j a hj => h j a (by omega))]
theorem anyE_get {A : Type} (da : A) {p : Int → A → Bool} : ∀ (l : List A) (i : Int), anyE p l i = false → ∀ j : Nat, j < l.length → p (i + j) (l.getD j da) = false
  | a :: l, i, h, 0, _ => by
    rw [anyE, Bool.or_eq_false_iff] at h
    simpa using h.1
  | a :: l, i, h, j + 1, hj => by
    rw [anyE, Bool.or_eq_false_iff] at h
    have := anyE_get da l (i + 1) h.2 j (by simpa using hj)
    rw [show i + ((j + 1 : Nat) : Int) = i + 1 + (j : Int) by omega, List.getD_cons_succ]
    exact this
theorem runE_any {A S R : Type} (p : Int → A → Bool) (f : S → A → S) (r : Option R) (k : S → Option R) : ∀ (l : List A) (i : Int) (s : S), runE (fun i s a => if p i a = true then .error r else .ok (f s a)) k l i s = if anyE p l i = true then r else k (l.foldl f s)
  | [], _, _ => by simp [runE, anyE]
  | a :: l, i, s => by
    rw [runE, anyE]
    by_cases h : p i a = true
    · simp [h]
    · have hf : p i a = false := by simpa using h
      simp only [hf, Bool.false_eq_true, if_false, Bool.false_or, List.foldl_cons]
      exact runE_any p f r k l (i + 1) (f s a)
theorem runE_from {T A S R : Type} {step : (T → Option R) → T → Option R} (mk : Int → S → T) (g : Int → S → A → Except (Option R) S) (k : S → Option R) (da : A) (l : List A) (hl : l.length ≤ 1099511627776) (I : Nat → S → Prop)
    (h : ∀ again i s, 0 ≤ i → i < (l.length : Int) → I i.toNat s → (step again (mk i s) = match g i s (l.getD i.toNat da) with
      | .error r => r
      | .ok s' => again (mk (i + 1) s')) ∧ ∀ s', g i s (l.getD i.toNat da) = .ok s' → I (i.toNat + 1) s')
    (hd : ∀ again i s, ¬ i < (l.length : Int) → step again (mk i s) = k s) (i0 : Int) (h00 : 0 ≤ i0) (s : S) (hs : I i0.toNat s) : iter step FUEL (mk i0 s) = runE g k (l.drop i0.toNat) i0 s := by
  have key : ∀ (n : Nat) (i : Int) (s : S), 0 ≤ i → I i.toNat s → l.length - i.toNat < n → iter step n (mk i s) = runE g k (l.drop i.toNat) i s := by
    intro n
    induction n with
    | zero => intro i s _ _ hn; omega
    | succ n ih =>
      intro i s h0 hI hn
      rw [iter]
      by_cases hi : i < (l.length : Int)
      · obtain ⟨e, hI'⟩ := h (iter step n) i s h0 hi hI
        have e1 : (i + 1).toNat = i.toNat + 1 := by omega
        rw [e, drop_getD da l i h0 hi, runE]
        cases hg : g i s (l.getD i.toNat da) with
        | error r => rfl
        | ok s' => exact ih (i + 1) s' (by omega) (by rw [e1]; exact hI' s' hg) (by omega)
      · rw [hd _ i s hi, List.drop_of_length_le (by omega)]
        rfl
  exact key FUEL i0 s h00 hs (by rw [FUEL_eq]; omega)
theorem any_loop {T A S R : Type} {step : (T → Option R) → T → Option R} (mk : Int → S → T) (p : Int → A → Bool) (f : S → A → S) (r : Option R) (k : S → Option R) (da : A) (l : List A) (hl : l.length ≤ 1099511627776)
    (h : ∀ again i s, 0 ≤ i → i < (l.length : Int) → step again (mk i s) = if p i (l.getD i.toNat da) = true then r else again (mk (i + 1) (f s (l.getD i.toNat da))))
    (hd : ∀ again i s, ¬ i < (l.length : Int) → step again (mk i s) = k s) (s : S) : iter step FUEL (mk 0 s) = if anyE p l 0 = true then r else k (l.foldl f s) := by
  rw [← runE_any p f r k l 0 s]
  have := runE_from (step := step) mk (fun i s a => if p i a = true then .error r else .ok (f s a)) k da l hl (fun _ _ => True) (fun again i s h0 h1 _ => ⟨?_, fun _ _ => trivial⟩) hd 0 (Int.le_refl _) s trivial
  · simpa using this
  · rw [h again i s h0 h1]
    by_cases hp : p i (l.getD i.toNat da) = true
    · rw [if_pos hp, if_pos hp]
    · rw [if_neg hp, if_neg hp]
theorem any_loop0 {T A R : Type} {step : (T → Option R) → T → Option R} (mk : Int → T) (p : Int → A → Bool) (r k : Option R) (da : A) (l : List A) (hl : l.length ≤ 1099511627776)
    (h : ∀ again i, 0 ≤ i → i < (l.length : Int) → step again (mk i) = if p i (l.getD i.toNat da) = true then r else again (mk (i + 1)))
    (hd : ∀ again i, ¬ i < (l.length : Int) → step again (mk i) = k) : iter step FUEL (mk 0) = if anyE p l 0 = true then r else k :=
  any_loop (fun i (_ : Unit) => mk i) p (fun _ _ => ()) r (fun _ => k) da l hl (fun again i _ h0 h1 => h again i h0 h1) (fun again i _ hi => hd again i hi) ()
end Go.Proofs.YtmofdkmggfdciaaGreat.Pl
