/- What is seen, by a version and by any volume; how many keys are. No condition. -/
import Derived.Test.YtmofdkmggfdciaaPSeen
namespace Go.Proofs.Ytmofdkmggfdciaa.Pl
open Go.Proofs.Ytmofdkmggfdciaa.R Go.Proofs.Ytmofdkmggfdciaa.XQ
set_option linter.unusedVariables false
set_option linter.unusedSimpArgs false

def keyOne (blk : Int) (s : List E_Key) (a : E_Key) : List E_Key := if a.1 == blk then s ++ [a] else s
def keysOf (ks : List E_Key) (blk : Int) : List E_Key := ks.foldl (keyOne blk) []
theorem keyOne_len (blk : Int) (s : List E_Key) (a : E_Key) : (keyOne blk s a).length ≤ s.length + 1 := by
  unfold keyOne
  split <;> simp
theorem keysF_len (blk : Int) : ∀ (l s : List E_Key), (l.foldl (keyOne blk) s).length ≤ s.length + l.length
  | [], s => by simp
  | c :: l, s => by
    have h := keysF_len blk l (keyOne blk s c)
    have h2 := keyOne_len blk s c
    simp only [List.foldl_cons, List.length_cons]
    omega
theorem treeF_len : ∀ (t : List E_LNode) (s : List E_Key), ((t.foldl treeOne s).length : Int) ≤ s.length + sumW wSets t
  | [], s => by simp [sumW]
  | n :: t, s => by
    have h := treeF_len t (treeOne s n)
    have h1 := nodeK_len n
    have h2 := wSets_ge n
    have h3 : (treeOne s n).length = s.length + (nodeK n).length := List.length_append
    simp only [List.foldl_cons, sumW_cons]
    omega
theorem treeK_len (t : List E_LNode) : ((treeK t).length : Int) ≤ sumW wSets t := by
  have := treeF_len t []
  simpa [treeK] using this
/-- The tree is no greater than its weight allows. -/
structure TOk (t : List E_Node) : Prop where
  len : t.length ≤ 1073741824
  nodes : ∀ n ∈ t, List.length n ≤ 1073741824
  sum : sumW wSets t ≤ 1048576
theorem TOk.keys {t : List E_Node} (h : TOk t) : (treeK t).length ≤ 1048576 := by
  have h1 := treeK_len t
  have h2 := h.sum
  omega
theorem spec_KeysOf_eq (q : List Int) (t : List E_Node) (blk : Int) (ht : TOk t) : F_spec_KeysOf (q, t, blk) = some (keysOf (treeK t) blk) := by
  unfold F_spec_KeysOf L_spec_KeysOf_4
  have hk := ht.keys
  have e : F_spec_TreeKeys (q, t) = some (treeK t) := spec_TreeKeys_eq q t ht.len ht.nodes ht.sum
  simp only [e, Option.bind_some]
  generalize treeK t = ks at hk
  refine fold_loop (step := S_spec_KeysOf_4 _) (fun (i : Int) (s : List E_Key) => (blk, i, s, ks)) (fun s => some s) z_Key (keyOne blk) ks (by omega) (fun i s => s.length ≤ i) ?_ ?_ [] (by simp)
  · intro again i s h0 h1 hI
    have hw : Go.IntKind.wrap .i64 (i + 1) = i + 1 := w64 (by omega) (by omega)
    have hs := keyOne_len blk s (ks.getD i.toNat z_Key)
    refine ⟨?_, by omega⟩
    have c1 : (s.length + 1) * 40 < 140737488355328 := by omega
    clear hs
    unfold S_spec_KeysOf_4 keyOne
    obtain ⟨⟨x1, x2, x3, x4, x5⟩, hx⟩ : ∃ x, rd_Key ks i = x := ⟨_, rfl⟩
    have hx' : ks.getD i.toNat z_Key = (x1, x2, x3, x4, x5) := hx
    rw [hx']
    simp only [Bool.cond_eq_ite, decide_eq_true_eq, h0, h1, if_true, hw, hx, List.length_cons, List.length_nil, Nat.zero_add, c1]
    by_cases h3 : (x1 == blk) = true
    · rw [if_pos h3, if_pos h3]
    · rw [if_neg h3, if_neg h3]
  · intro again i s hi
    unfold S_spec_KeysOf_4
    simp only [Bool.cond_eq_ite, decide_eq_true_eq, if_neg hi]
theorem impl_KeysOf_eq (q : List Int) (t : List E_Node) (blk : Int) (ht : TOk t) : F_impl_KeysOf (q, t, blk) = some (keysOf (treeK t) blk) := by
  unfold F_impl_KeysOf L_impl_KeysOf_3
  have hk := ht.keys
  have e : F_impl_TreeKeys (q, t) = some (treeK t) := impl_TreeKeys_eq q t ht.len ht.nodes ht.sum
  simp only [e, Option.bind_some]
  generalize treeK t = ks at hk
  refine fold_loop (step := S_impl_KeysOf_3 _) (fun (i : Int) (s : List E_Key) => (blk, (ks.length : Int), i, s, ks)) (fun s => some s) z_Key (keyOne blk) ks (by omega) (fun i s => s.length ≤ i) ?_ ?_ [] (by simp)
  · intro again i s h0 h1 hI
    have hw : Go.IntKind.wrap .i64 (i + 1) = i + 1 := w64 (by omega) (by omega)
    have hs := keyOne_len blk s (ks.getD i.toNat z_Key)
    refine ⟨?_, by omega⟩
    have c1 : (s.length + 1) * 40 < 140737488355328 := by omega
    clear hs
    unfold S_impl_KeysOf_3 keyOne
    obtain ⟨⟨x1, x2, x3, x4, x5⟩, hx⟩ : ∃ x, rd_Key ks i = x := ⟨_, rfl⟩
    have hx' : ks.getD i.toNat z_Key = (x1, x2, x3, x4, x5) := hx
    rw [hx']
    simp only [Bool.cond_eq_ite, decide_eq_true_eq, h0, h1, if_true, hw, hx, List.length_cons, List.length_nil, Nat.zero_add, c1]
    by_cases h3 : (x1 == blk) = true
    · rw [if_pos h3, if_pos h3]
    · rw [if_neg h3, if_neg h3]
  · intro again i s hi
    unfold S_impl_KeysOf_3
    simp only [Bool.cond_eq_ite, decide_eq_true_eq, if_neg hi]

/-! ### The nearest key -/
def seenOne (path : List Int) (s : Bool × E_Key) (a : E_Key) : Bool × E_Key := if hasI path a.2.1 = true ∧ (s.1 = false ∨ s.2.2.1 < a.2.1) then (true, a) else s
def nearest (ks : List E_Key) (path : List Int) : Bool × E_Key := ks.foldl (seenOne path) (false, (0, 0, 0, 0, 0))
def ans (r : Bool × E_Key) : Int × Int × Int × Int × Int × Bool := (r.2.1, r.2.2.1, r.2.2.2.1, r.2.2.2.2.1, r.2.2.2.2.2, r.1)
theorem spec_Near_eq (q : List Int) (t : List E_Node) (blk : Int) (path : List Int) (ht : TOk t) (hp : path.length ≤ 1073741824) : F_spec_l8Near (q, t, blk, path) = some (ans (nearest (keysOf (treeK t) blk) path)) := by
  unfold F_spec_l8Near L_spec_l8Near_5
  have hk : (keysOf (treeK t) blk).length ≤ 1048576 := by
    have h1 := keysF_len blk (treeK t) []
    have h2 := ht.keys
    unfold keysOf
    simp only [List.length_nil] at h1
    omega
  simp only [spec_KeysOf_eq q t blk ht, Option.bind_some]
  generalize keysOf (treeK t) blk = ks at hk
  refine (fold_loop (step := S_spec_l8Near_5 _) (fun (i : Int) (s : Bool × E_Key) => (path, s.1, i, 0, 0, 0, 0, 0, s.2.1, s.2.2.1, s.2.2.2.1, s.2.2.2.2.1, s.2.2.2.2.2, ks)) (fun s => some (ans s)) z_Key (seenOne path) ks (by omega) (fun _ _ => True) ?_ ?_ (false, (0, 0, 0, 0, 0)) trivial)
  · rintro again i ⟨f, b1, b2, b3, b4, b5⟩ h0 h1 _
    have hw : Go.IntKind.wrap .i64 (i + 1) = i + 1 := w64 (by omega) (by omega)
    refine ⟨?_, trivial⟩
    unfold S_spec_l8Near_5 seenOne
    obtain ⟨⟨x1, x2, x3, x4, x5⟩, hx⟩ : ∃ x, rd_Key ks i = x := ⟨_, rfl⟩
    have hx' : ks.getD i.toNat z_Key = (x1, x2, x3, x4, x5) := hx
    rw [hx']
    have e := spec_Has_eq path x2 hp
    simp only [Bool.cond_eq_ite, decide_eq_true_eq, h0, h1, if_true, hw, hx, e, Option.bind_some]
    cases hasI path x2 <;> cases f <;> by_cases hb : b2 < x2 <;> simp [hb]
  · rintro again i ⟨f, b1, b2, b3, b4, b5⟩ hi
    unfold S_spec_l8Near_5
    simp only [Bool.cond_eq_ite, decide_eq_true_eq, if_neg hi]
    rfl
theorem impl_seenOn_eq (q : List Int) (t : List E_Node) (blk : Int) (path : List Int) (ht : TOk t) (hp : path.length ≤ 1073741824) : F_impl_seenOn (q, t, blk, path) = some (ans (nearest (keysOf (treeK t) blk) path)) := by
  unfold F_impl_seenOn L_impl_seenOn_3
  have hk : (keysOf (treeK t) blk).length ≤ 1048576 := by
    have h1 := keysF_len blk (treeK t) []
    have h2 := ht.keys
    unfold keysOf
    simp only [List.length_nil] at h1
    omega
  simp only [impl_KeysOf_eq q t blk ht, Option.bind_some]
  generalize keysOf (treeK t) blk = ks at hk
  refine (fold_loop (step := S_impl_seenOn_3 _) (fun (i : Int) (s : Bool × E_Key) => (path, s.1, (ks.length : Int), i, 0, 0, 0, 0, 0, s.2.1, s.2.2.1, s.2.2.2.1, s.2.2.2.2.1, s.2.2.2.2.2, ks)) (fun s => some (ans s)) z_Key (seenOne path) ks (by omega) (fun _ _ => True) ?_ ?_ (false, (0, 0, 0, 0, 0)) trivial)
  · rintro again i ⟨f, b1, b2, b3, b4, b5⟩ h0 h1 _
    have hw : Go.IntKind.wrap .i64 (i + 1) = i + 1 := w64 (by omega) (by omega)
    refine ⟨?_, trivial⟩
    unfold S_impl_seenOn_3 seenOne
    obtain ⟨⟨x1, x2, x3, x4, x5⟩, hx⟩ : ∃ x, rd_Key ks i = x := ⟨_, rfl⟩
    have hx' : ks.getD i.toNat z_Key = (x1, x2, x3, x4, x5) := hx
    rw [hx']
    have e := Contains_eq path x2 hp
    simp only [Bool.cond_eq_ite, decide_eq_true_eq, h0, h1, if_true, hw, hx, e, Option.bind_some]
    cases hasI path x2 <;> cases f <;> by_cases hb : b2 < x2 <;> simp [hb]
  · rintro again i ⟨f, b1, b2, b3, b4, b5⟩ hi
    unfold S_impl_seenOn_3
    simp only [Bool.cond_eq_ite, decide_eq_true_eq, if_neg hi]
    rfl

/-! ### Seen -/
def seenK (t : List E_Node) (l : List E_Age) (blk id : Int) : Bool × E_Key := nearest (keysOf (treeK t) blk) (pathOf l id)
theorem path_small (l : List E_Age) (id : Int) (hl : l.length ≤ 1048576) : (pathOf l id).length ≤ 1073741824 := by
  have := pathI_len l (l.length + 1) (ageAt l id)
  unfold pathOf
  omega
theorem spec_Seen_eq (q : List Int) (t : List E_Node) (l : List E_Age) (blk id : Int) (ht : TOk t) (hl : l.length ≤ 1048576) : F_spec_Seen (q, t, l, blk, id) = some (ans (seenK t l blk id)) := by
  unfold F_spec_Seen
  simp only [spec_PathOf_eq l id hl, spec_Near_eq q t blk _ ht (path_small l id hl), Option.bind_some]
  rfl
theorem impl_Seen_eq (q : List Int) (t : List E_Node) (l : List E_Age) (blk id : Int) (ht : TOk t) (hl : l.length ≤ 1048576) : F_impl_Seen (q, t, l, blk, id) = some (ans (seenK t l blk id)) := by
  unfold F_impl_Seen
  simp only [impl_PathOf_eq l id hl, impl_seenOn_eq q t blk _ ht (path_small l id hl), Option.bind_some]
  rfl
def seesK (t : List E_Node) (l : List E_Age) (k : E_Key) (id : Int) : Bool := (seenK t l k.1 id).1 && ((seenK t l k.1 id).2.2.1 == k.2.1)
theorem spec_Sees_eq (q : List Int) (t : List E_Node) (l : List E_Age) (k1 k2 k3 k4 k5 id : Int) (ht : TOk t) (hl : l.length ≤ 1048576) : F_spec_Sees (q, t, l, k1, k2, k3, k4, k5, id) = some (seesK t l (k1, k2, k3, k4, k5) id) := by
  unfold F_spec_Sees seesK
  simp only [spec_Seen_eq q t l k1 id ht hl, Option.bind_some, ans]
  cases (seenK t l k1 id).1 <;> rfl
theorem impl_Sees_eq (q : List Int) (t : List E_Node) (l : List E_Age) (k1 k2 k3 k4 k5 id : Int) (ht : TOk t) (hl : l.length ≤ 1048576) : F_impl_Sees (q, t, l, k1, k2, k3, k4, k5, id) = some (seesK t l (k1, k2, k3, k4, k5) id) := by
  unfold F_impl_Sees seesK
  simp only [impl_Seen_eq q t l k1 id ht hl, Option.bind_some, ans]
  cases (seenK t l k1 id).1 <;> rfl
def volSees (t : List E_Node) (l : List E_Age) (k : E_Key) (v : E_Vol) : Bool := decide (v.2.2.1 > k.1) && seesK t l k v.2.1
def anySees (t : List E_Node) (l : List E_Age) (vs : List E_Vol) (k : E_Key) : Bool := decide (0 ≤ findI (volSees t l k) vs 0)
theorem spec_SeenByAny_eq (q : List Int) (t : List E_Node) (l : List E_Age) (cs : List E_Cell) (vs : List E_Vol) (z k1 k2 k3 k4 k5 : Int) (ht : TOk t) (hl : l.length ≤ 1048576) (hv : vs.length ≤ 1048576) : F_spec_SeenByAny (q, t, l, cs, vs, z, k1, k2, k3, k4, k5) = some (anySees t l vs (k1, k2, k3, k4, k5)) := by
  unfold F_spec_SeenByAny L_spec_SeenByAny_2
  refine (find_loop (step := S_spec_SeenByAny_2 _ _) (fun i => (i, q, t, l, cs, vs, z, k1, k2, k3, k4, k5)) (volSees t l (k1, k2, k3, k4, k5)) (fun _ => some true) (some false) z_Vol vs (by omega) ?_ ?_).trans ?_
  · intro again i h0 h1
    have hw : Go.IntKind.wrap .i64 (i + 1) = i + 1 := w64 (by omega) (by omega)
    unfold S_spec_SeenByAny_2 volSees
    obtain ⟨⟨x1, x2, x3, x4⟩, hx⟩ : ∃ x, rd_Vol vs i = x := ⟨_, rfl⟩
    have hx' : vs.getD i.toNat z_Vol = (x1, x2, x3, x4) := hx
    rw [hx']
    have e := spec_Sees_eq q t l k1 k2 k3 k4 k5 x2 ht hl
    simp only [Bool.cond_eq_ite, decide_eq_true_eq, h0, h1, if_true, hw, hx, e, Option.bind_some]
    by_cases hb : x3 > k1 <;> cases seesK t l (k1, k2, k3, k4, k5) x2 <;> simp [hb]
  · intro again i hi
    unfold S_spec_SeenByAny_2
    simp only [Bool.cond_eq_ite, decide_eq_true_eq, if_neg hi]
  · unfold anySees
    by_cases h : findI (volSees t l (k1, k2, k3, k4, k5)) vs 0 < 0
    · rw [if_pos h, decide_eq_false (by omega)]
    · rw [if_neg h, decide_eq_true (by omega)]
theorem impl_SeenByAny_eq (q : List Int) (t : List E_Node) (l : List E_Age) (cs : List E_Cell) (vs : List E_Vol) (z k1 k2 k3 k4 k5 : Int) (ht : TOk t) (hl : l.length ≤ 1048576) (hv : vs.length ≤ 1048576) : F_impl_SeenByAny (q, t, l, cs, vs, z, k1, k2, k3, k4, k5) = some (anySees t l vs (k1, k2, k3, k4, k5)) := by
  unfold F_impl_SeenByAny L_impl_SeenByAny_2
  refine (find_loop (step := S_impl_SeenByAny_2 _ _) (fun i => (vs, (vs.length : Int), i, q, t, l, cs, vs, z, k1, k2, k3, k4, k5)) (volSees t l (k1, k2, k3, k4, k5)) (fun _ => some true) (some false) z_Vol vs (by omega) ?_ ?_).trans ?_
  · intro again i h0 h1
    have hw : Go.IntKind.wrap .i64 (i + 1) = i + 1 := w64 (by omega) (by omega)
    unfold S_impl_SeenByAny_2 volSees
    obtain ⟨⟨x1, x2, x3, x4⟩, hx⟩ : ∃ x, rd_Vol vs i = x := ⟨_, rfl⟩
    have hx' : vs.getD i.toNat z_Vol = (x1, x2, x3, x4) := hx
    rw [hx']
    have e := impl_Sees_eq q t l k1 k2 k3 k4 k5 x2 ht hl
    simp only [Bool.cond_eq_ite, decide_eq_true_eq, h0, h1, if_true, hw, hx, e, Option.bind_some]
    by_cases hb : x3 > k1 <;> cases seesK t l (k1, k2, k3, k4, k5) x2 <;> simp [hb]
  · intro again i hi
    unfold S_impl_SeenByAny_2
    simp only [Bool.cond_eq_ite, decide_eq_true_eq, if_neg hi]
  · unfold anySees
    by_cases h : findI (volSees t l (k1, k2, k3, k4, k5)) vs 0 < 0
    · rw [if_pos h, decide_eq_false (by omega)]
    · rw [if_neg h, decide_eq_true (by omega)]
def distOne (t : List E_Node) (l : List E_Age) (vs : List E_Vol) (n : Int) (k : E_Key) : Int := if k.2.2.1 = 1 ∧ anySees t l vs k = true then Go.IntKind.wrap .i64 (n + 1) else n
def distinct (t : List E_Node) (l : List E_Age) (vs : List E_Vol) : Int := (treeK t).foldl (distOne t l vs) 0
theorem spec_Distinct_eq (q : List Int) (t : List E_Node) (l : List E_Age) (cs : List E_Cell) (vs : List E_Vol) (z : Int) (ht : TOk t) (hl : l.length ≤ 1048576) (hv : vs.length ≤ 1048576) : F_spec_Distinct (q, t, l, cs, vs, z) = some (distinct t l vs) := by
  unfold F_spec_Distinct L_spec_Distinct_4
  have hk := ht.keys
  have e : F_spec_TreeKeys (q, t) = some (treeK t) := spec_TreeKeys_eq q t ht.len ht.nodes ht.sum
  simp only [e, Option.bind_some]
  unfold distinct
  generalize treeK t = ks at hk
  refine fold_loop (step := S_spec_Distinct_4 _) (fun (i : Int) (s : Int) => (s, i, q, t, l, cs, vs, z, ks)) (fun s => some s) z_Key (distOne t l vs) ks (by omega) (fun _ _ => True) ?_ ?_ 0 trivial
  · intro again i s h0 h1 _
    have hw : Go.IntKind.wrap .i64 (i + 1) = i + 1 := w64 (by omega) (by omega)
    refine ⟨?_, trivial⟩
    unfold S_spec_Distinct_4 distOne
    obtain ⟨⟨x1, x2, x3, x4, x5⟩, hx⟩ : ∃ x, rd_Key ks i = x := ⟨_, rfl⟩
    have hx' : ks.getD i.toNat z_Key = (x1, x2, x3, x4, x5) := hx
    rw [hx']
    have e := spec_SeenByAny_eq q t l cs vs z x1 x2 x3 x4 x5 ht hl hv
    simp only [Bool.cond_eq_ite, decide_eq_true_eq, h0, h1, if_true, hw, hx, e, Option.bind_some]
    by_cases hb : x3 = 1 <;> cases anySees t l vs (x1, x2, x3, x4, x5) <;> simp [hb]
  · intro again i s hi
    unfold S_spec_Distinct_4
    simp only [Bool.cond_eq_ite, decide_eq_true_eq, if_neg hi]
theorem impl_Distinct_eq (q : List Int) (t : List E_Node) (l : List E_Age) (cs : List E_Cell) (vs : List E_Vol) (z : Int) (ht : TOk t) (hl : l.length ≤ 1048576) (hv : vs.length ≤ 1048576) : F_impl_Distinct (q, t, l, cs, vs, z) = some (distinct t l vs) := by
  unfold F_impl_Distinct L_impl_Distinct_3
  have hk := ht.keys
  have e : F_impl_TreeKeys (q, t) = some (treeK t) := impl_TreeKeys_eq q t ht.len ht.nodes ht.sum
  simp only [e, Option.bind_some]
  unfold distinct
  generalize treeK t = ks at hk
  refine fold_loop (step := S_impl_Distinct_3 _) (fun (i : Int) (s : Int) => (s, (ks.length : Int), i, q, t, l, cs, vs, z, ks)) (fun s => some s) z_Key (distOne t l vs) ks (by omega) (fun _ _ => True) ?_ ?_ 0 trivial
  · intro again i s h0 h1 _
    have hw : Go.IntKind.wrap .i64 (i + 1) = i + 1 := w64 (by omega) (by omega)
    refine ⟨?_, trivial⟩
    unfold S_impl_Distinct_3 distOne
    obtain ⟨⟨x1, x2, x3, x4, x5⟩, hx⟩ : ∃ x, rd_Key ks i = x := ⟨_, rfl⟩
    have hx' : ks.getD i.toNat z_Key = (x1, x2, x3, x4, x5) := hx
    rw [hx']
    have e := impl_SeenByAny_eq q t l cs vs z x1 x2 x3 x4 x5 ht hl hv
    simp only [Bool.cond_eq_ite, decide_eq_true_eq, h0, h1, if_true, hw, hx, e, Option.bind_some]
    by_cases hb : x3 = 1 <;> cases anySees t l vs (x1, x2, x3, x4, x5) <;> simp [hb]
  · intro again i s hi
    unfold S_impl_Distinct_3
    simp only [Bool.cond_eq_ite, decide_eq_true_eq, if_neg hi]
end Go.Proofs.Ytmofdkmggfdciaa.Pl
