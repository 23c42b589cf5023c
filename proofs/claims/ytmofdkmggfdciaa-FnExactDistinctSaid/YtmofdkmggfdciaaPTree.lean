/- Sets of keys: merge, drop, collect; the bound; the law. No condition. -/
import Derived.Test.YtmofdkmggfdciaaPKeys
import Derived.Test.YtmofdkmggfdciaaPPool
namespace Go.Proofs.Ytmofdkmggfdciaa.Pl
open Go.Proofs.Ytmofdkmggfdciaa.R Go.Proofs.Ytmofdkmggfdciaa.XQ
set_option linter.unusedVariables false
set_option linter.unusedSimpArgs false

def mergeK (a b : List E_Key) : List E_Key := b.foldl setPut a
theorem mergeK_len : ∀ (b a : List E_Key), (mergeK a b).length ≤ a.length + b.length
  | [], a => by simp [mergeK]
  | c :: b, a => by
    have h := mergeK_len b (setPut a c)
    have h2 := setPut_len a c
    unfold mergeK at h ⊢
    simp only [List.foldl_cons, List.length_cons] at h ⊢
    omega
def dropOne (s : List E_Key) (c : E_Key) : List E_Key := if c.2.2.1 = 0 then s else s ++ [c]
def dropK (l : List E_Key) : List E_Key := l.foldl dropOne []
theorem dropOne_len (s : List E_Key) (c : E_Key) : (dropOne s c).length ≤ s.length + 1 := by
  unfold dropOne
  split <;> simp
theorem dropF_len : ∀ (l s : List E_Key), (l.foldl dropOne s).length ≤ s.length + l.length
  | [], s => by simp
  | c :: l, s => by
    have h := dropF_len l (dropOne s c)
    have h2 := dropOne_len s c
    simp only [List.foldl_cons, List.length_cons]
    omega
def lenK (a : E_s_LKey) : Int := (List.length a : Int)
theorem lenK_nonneg (a : E_s_LKey) : 0 ≤ lenK a := Int.natCast_nonneg _
def nodeK (n : List E_s_LKey) : List E_Key := dropK (n.foldl mergeK [])
theorem nodeF_len : ∀ (n : List E_s_LKey) (s : List E_Key), ((n.foldl mergeK s).length : Int) ≤ s.length + sumW lenK n
  | [], s => by simp [sumW]
  | c :: n, s => by
    have h := nodeF_len n (mergeK s c)
    have h2 := mergeK_len c s
    simp only [List.foldl_cons, sumW_cons, lenK]
    omega
theorem nodeK_len (n : List E_s_LKey) : ((nodeK n).length : Int) ≤ sumW lenK n := by
  have h := dropF_len (n.foldl mergeK []) []
  have h2 := nodeF_len n []
  unfold nodeK dropK
  simp only [List.length_nil] at h h2
  omega
theorem wSets_ge (n : List E_s_LKey) : sumW lenK n ≤ wSets n := by
  show sumW (fun a : E_s_LKey => (List.length a : Int)) n ≤ (List.length n : Int) + sumW (fun a : E_s_LKey => (List.length a : Int)) n
  omega
def treeOne (s : List E_Key) (n : E_LNode) : List E_Key := s ++ nodeK n
def treeK (t : List E_LNode) : List E_Key := t.foldl treeOne []

/-! ### spec -/
theorem spec_MergeSets_eq (a b : List E_Key) (h : a.length + b.length ≤ 1073741824) : F_spec_MergeSets (a, b) = some (mergeK a b) := by
  unfold F_spec_MergeSets L_spec_MergeSets_3
  simp only [List.length_nil, Nat.zero_add, List.nil_append]
  rw [if_pos (by omega)]
  refine fold_loop (step := S_spec_MergeSets_3 _) (fun (i : Int) (s : List E_Key) => (b, i, s)) (fun s => some s) z_Key setPut b (by omega) (fun i s => s.length ≤ a.length + i) ?_ ?_ a (by simp)
  · intro again i s h0 h1 hI
    have hw : Go.IntKind.wrap .i64 (i + 1) = i + 1 := w64 (by omega) (by omega)
    have hs := setPut_len s (b.getD i.toNat z_Key)
    have e := spec_SetPut_eq s (rd_Key b i).1 (rd_Key b i).2.1 (rd_Key b i).2.2.1 (rd_Key b i).2.2.2.1 (rd_Key b i).2.2.2.2 (by omega)
    refine ⟨?_, by omega⟩
    unfold S_spec_MergeSets_3
    simp only [Bool.cond_eq_ite, decide_eq_true_eq, h0, h1, if_true, hw, e, Option.bind_some]
    rfl
  · intro again i s hi
    unfold S_spec_MergeSets_3
    simp only [Bool.cond_eq_ite, decide_eq_true_eq, if_neg hi]
theorem spec_Drop_eq (l : List E_Key) (h : l.length ≤ 1073741824) : F_spec_Drop l = some (dropK l) := by
  unfold F_spec_Drop L_spec_Drop_3
  refine fold_loop (step := S_spec_Drop_3 _) (fun (i : Int) (s : List E_Key) => (l, i, s)) (fun s => some s) z_Key dropOne l (by omega) (fun i s => s.length ≤ i) ?_ ?_ [] (by simp)
  · intro again i s h0 h1 hI
    have hw : Go.IntKind.wrap .i64 (i + 1) = i + 1 := w64 (by omega) (by omega)
    have hs := dropOne_len s (l.getD i.toNat z_Key)
    refine ⟨?_, by omega⟩
    have c1 : (s.length + 1) * 40 < 140737488355328 := by omega
    clear hs
    unfold S_spec_Drop_3 dropOne
    obtain ⟨⟨x1, x2, x3, x4, x5⟩, hx⟩ : ∃ x, rd_Key l i = x := ⟨_, rfl⟩
    have hx' : l.getD i.toNat z_Key = (x1, x2, x3, x4, x5) := hx
    rw [hx']
    simp only [Bool.cond_eq_ite, decide_eq_true_eq, h0, h1, if_true, hw, hx, List.length_cons, List.length_nil, Nat.zero_add, c1]
    by_cases h3 : x3 = 0
    · rw [if_neg (by simpa using h3), if_pos h3]
    · rw [if_pos (by simpa using h3), if_neg h3]
  · intro again i s hi
    unfold S_spec_Drop_3
    simp only [Bool.cond_eq_ite, decide_eq_true_eq, if_neg hi]
theorem spec_NodeKeys_eq (n : List E_s_Key) (hn : n.length ≤ 1073741824) (h : sumW lenK n ≤ 1048576) : F_spec_NodeKeys n = some (nodeK n) := by
  have hlen := nodeF_len n []
  simp only [List.length_nil] at hlen
  have hD := spec_Drop_eq (n.foldl mergeK []) (by omega)
  unfold F_spec_NodeKeys L_spec_NodeKeys_3
  refine (fold_loop (step := S_spec_NodeKeys_3 _) (fun (i : Int) (s : List E_Key) => (i, n, s)) (fun s => Option.bind (F_spec_Drop s) fun r3 => some r3) z_s_Key mergeK n (by omega) (fun i s => (s.length : Int) + sumW lenK (n.drop i) ≤ sumW lenK n) ?_ ?_ [] (by simp)).trans ?_
  · intro again i s h0 h1 hI
    have hw : Go.IntKind.wrap .i64 (i + 1) = i + 1 := w64 (by omega) (by omega)
    rw [drop_getD z_s_Key n i h0 h1, sumW_cons, show (i + 1).toNat = i.toNat + 1 by omega] at hI
    have hnn := sumW_nonneg lenK_nonneg (n.drop (i.toNat + 1))
    have hm := mergeK_len (n.getD i.toNat z_s_Key) s
    have hk : lenK (n.getD i.toNat z_s_Key) = (List.length (n.getD i.toNat z_s_Key) : Int) := rfl
    have e : F_spec_MergeSets (s, rd_s_Key n i) = some (mergeK s (rd_s_Key n i)) := spec_MergeSets_eq s _ (by show s.length + List.length (n.getD i.toNat z_s_Key) ≤ _; omega)
    refine ⟨?_, by omega⟩
    unfold S_spec_NodeKeys_3
    simp only [Bool.cond_eq_ite, decide_eq_true_eq, h0, h1, if_true, hw, e, Option.bind_some]
    rfl
  · intro again i s hi
    unfold S_spec_NodeKeys_3
    simp only [Bool.cond_eq_ite, decide_eq_true_eq, if_neg hi]
  · rw [hD]
    rfl
theorem spec_TreeKeys_eq (q : List Int) (t : List E_Node) (ht : t.length ≤ 1073741824) (hm : ∀ n ∈ t, List.length n ≤ 1073741824) (h : sumW wSets t ≤ 1048576) : F_spec_TreeKeys (q, t) = some (treeK t) := by
  unfold F_spec_TreeKeys L_spec_TreeKeys_3
  refine fold_loop (step := S_spec_TreeKeys_3 _) (fun (i : Int) (s : List E_Key) => (i, q, t, s)) (fun s => some s) z_Node treeOne t (by omega) (fun i s => (s.length : Int) + sumW wSets (t.drop i) ≤ sumW wSets t) ?_ ?_ [] (by simp)
  · intro again i s h0 h1 hI
    have hw : Go.IntKind.wrap .i64 (i + 1) = i + 1 := w64 (by omega) (by omega)
    rw [drop_getD z_Node t i h0 h1, sumW_cons, show (i + 1).toNat = i.toNat + 1 by omega] at hI
    have hnn := sumW_nonneg wSets_nonneg (t.drop (i.toNat + 1))
    have hge := wSets_ge (t.getD i.toNat z_Node)
    have hk := nodeK_len (t.getD i.toNat z_Node)
    have e : F_spec_NodeKeys (rd_Node t i) = some (nodeK (rd_Node t i)) := spec_NodeKeys_eq _ (hm _ (getD_mem z_Node t i h0 h1)) (by show sumW lenK (t.getD i.toNat z_Node) ≤ _; omega)
    have hT : (treeOne s (t.getD i.toNat z_Node)).length = s.length + (nodeK (t.getD i.toNat z_Node)).length := List.length_append
    have c1 : (s.length + (nodeK (rd_Node t i)).length) * 40 < 140737488355328 := by
      show (s.length + (nodeK (t.getD i.toNat z_Node)).length) * 40 < 140737488355328
      generalize (nodeK (t.getD i.toNat z_Node)).length = m at hk ⊢
      clear hT e
      have : s.length + m ≤ 1048576 := by omega
      omega
    refine ⟨?_, by rw [hT]; omega⟩
    unfold S_spec_TreeKeys_3
    simp only [Bool.cond_eq_ite, decide_eq_true_eq, h0, h1, if_true, hw, e, Option.bind_some, c1]
    rfl
  · intro again i s hi
    unfold S_spec_TreeKeys_3
    simp only [Bool.cond_eq_ite, decide_eq_true_eq, if_neg hi]

/-! ### impl -/
theorem impl_MergeSets_eq (a b : List E_Key) (h : a.length + b.length ≤ 1073741824) : F_impl_MergeSets (a, b) = some (mergeK a b) := by
  unfold F_impl_MergeSets F_impl_copyKeys L_impl_MergeSets_3
  simp only [List.length_nil, Nat.zero_add, List.nil_append]
  rw [if_pos (by omega), Option.bind_some]
  refine fold_loop (step := S_impl_MergeSets_3 _) (fun (i : Int) (s : List E_Key) => (b, (b.length : Int), i, s)) (fun s => some s) z_Key setPut b (by omega) (fun i s => s.length ≤ a.length + i) ?_ ?_ a (by simp)
  · intro again i s h0 h1 hI
    have hw : Go.IntKind.wrap .i64 (i + 1) = i + 1 := w64 (by omega) (by omega)
    have hs := setPut_len s (b.getD i.toNat z_Key)
    have e := impl_SetPut_eq s (rd_Key b i).1 (rd_Key b i).2.1 (rd_Key b i).2.2.1 (rd_Key b i).2.2.2.1 (rd_Key b i).2.2.2.2 (by omega)
    refine ⟨?_, by omega⟩
    unfold S_impl_MergeSets_3
    simp only [Bool.cond_eq_ite, decide_eq_true_eq, h0, h1, if_true, hw, e, Option.bind_some]
    rfl
  · intro again i s hi
    unfold S_impl_MergeSets_3
    simp only [Bool.cond_eq_ite, decide_eq_true_eq, if_neg hi]
theorem impl_Drop_eq (l : List E_Key) (h : l.length ≤ 1073741824) : F_impl_Drop l = some (dropK l) := by
  unfold F_impl_Drop L_impl_Drop_3
  refine fold_loop (step := S_impl_Drop_3 _) (fun (i : Int) (s : List E_Key) => (l, (l.length : Int), i, s)) (fun s => some s) z_Key dropOne l (by omega) (fun i s => s.length ≤ i) ?_ ?_ [] (by simp)
  · intro again i s h0 h1 hI
    have hw : Go.IntKind.wrap .i64 (i + 1) = i + 1 := w64 (by omega) (by omega)
    have hs := dropOne_len s (l.getD i.toNat z_Key)
    refine ⟨?_, by omega⟩
    have c1 : (s.length + 1) * 40 < 140737488355328 := by omega
    clear hs
    unfold S_impl_Drop_3 dropOne
    obtain ⟨⟨x1, x2, x3, x4, x5⟩, hx⟩ : ∃ x, rd_Key l i = x := ⟨_, rfl⟩
    have hx' : l.getD i.toNat z_Key = (x1, x2, x3, x4, x5) := hx
    rw [hx']
    simp only [Bool.cond_eq_ite, decide_eq_true_eq, h0, h1, if_true, hw, hx, List.length_cons, List.length_nil, Nat.zero_add, c1]
    by_cases h3 : x3 = 0
    · rw [if_neg (by simpa using h3), if_pos h3]
    · rw [if_pos (by simpa using h3), if_neg h3]
  · intro again i s hi
    unfold S_impl_Drop_3
    simp only [Bool.cond_eq_ite, decide_eq_true_eq, if_neg hi]
theorem impl_NodeKeys_eq (n : List E_s_Key) (hn : n.length ≤ 1073741824) (h : sumW lenK n ≤ 1048576) : F_impl_NodeKeys n = some (nodeK n) := by
  have hlen := nodeF_len n []
  simp only [List.length_nil] at hlen
  have hD := impl_Drop_eq (n.foldl mergeK []) (by omega)
  unfold F_impl_NodeKeys L_impl_NodeKeys_3
  refine (fold_loop (step := S_impl_NodeKeys_3 _) (fun (i : Int) (s : List E_Key) => (n, (n.length : Int), i, s)) (fun s => Option.bind (F_impl_Drop s) fun r3 => some r3) z_s_Key mergeK n (by omega) (fun i s => (s.length : Int) + sumW lenK (n.drop i) ≤ sumW lenK n) ?_ ?_ [] (by simp)).trans ?_
  · intro again i s h0 h1 hI
    have hw : Go.IntKind.wrap .i64 (i + 1) = i + 1 := w64 (by omega) (by omega)
    rw [drop_getD z_s_Key n i h0 h1, sumW_cons, show (i + 1).toNat = i.toNat + 1 by omega] at hI
    have hnn := sumW_nonneg lenK_nonneg (n.drop (i.toNat + 1))
    have hm := mergeK_len (n.getD i.toNat z_s_Key) s
    have hk : lenK (n.getD i.toNat z_s_Key) = (List.length (n.getD i.toNat z_s_Key) : Int) := rfl
    have e : F_impl_MergeSets (s, rd_s_Key n i) = some (mergeK s (rd_s_Key n i)) := impl_MergeSets_eq s _ (by show s.length + List.length (n.getD i.toNat z_s_Key) ≤ _; omega)
    refine ⟨?_, by omega⟩
    unfold S_impl_NodeKeys_3
    simp only [Bool.cond_eq_ite, decide_eq_true_eq, h0, h1, if_true, hw, e, Option.bind_some]
    rfl
  · intro again i s hi
    unfold S_impl_NodeKeys_3
    simp only [Bool.cond_eq_ite, decide_eq_true_eq, if_neg hi]
  · rw [hD]
    rfl
theorem impl_TreeKeys_eq (q : List Int) (t : List E_Node) (ht : t.length ≤ 1073741824) (hm : ∀ n ∈ t, List.length n ≤ 1073741824) (h : sumW wSets t ≤ 1048576) : F_impl_TreeKeys (q, t) = some (treeK t) := by
  unfold F_impl_TreeKeys L_impl_TreeKeys_3
  refine fold_loop (step := S_impl_TreeKeys_3 _) (fun (i : Int) (s : List E_Key) => (t, (t.length : Int), i, s)) (fun s => some s) z_Node treeOne t (by omega) (fun i s => (s.length : Int) + sumW wSets (t.drop i) ≤ sumW wSets t) ?_ ?_ [] (by simp)
  · intro again i s h0 h1 hI
    have hw : Go.IntKind.wrap .i64 (i + 1) = i + 1 := w64 (by omega) (by omega)
    rw [drop_getD z_Node t i h0 h1, sumW_cons, show (i + 1).toNat = i.toNat + 1 by omega] at hI
    have hnn := sumW_nonneg wSets_nonneg (t.drop (i.toNat + 1))
    have hge := wSets_ge (t.getD i.toNat z_Node)
    have hk := nodeK_len (t.getD i.toNat z_Node)
    have e : F_impl_NodeKeys (rd_Node t i) = some (nodeK (rd_Node t i)) := impl_NodeKeys_eq _ (hm _ (getD_mem z_Node t i h0 h1)) (by show sumW lenK (t.getD i.toNat z_Node) ≤ _; omega)
    have hT : (treeOne s (t.getD i.toNat z_Node)).length = s.length + (nodeK (t.getD i.toNat z_Node)).length := List.length_append
    have c1 : (s.length + (nodeK (rd_Node t i)).length) * 40 < 140737488355328 := by
      show (s.length + (nodeK (t.getD i.toNat z_Node)).length) * 40 < 140737488355328
      generalize (nodeK (t.getD i.toNat z_Node)).length = m at hk ⊢
      clear hT e
      have : s.length + m ≤ 1048576 := by omega
      omega
    refine ⟨?_, by rw [hT]; omega⟩
    unfold S_impl_TreeKeys_3
    simp only [Bool.cond_eq_ite, decide_eq_true_eq, h0, h1, if_true, hw, e, Option.bind_some, c1]
    rfl
  · intro again i s hi
    unfold S_impl_TreeKeys_3
    simp only [Bool.cond_eq_ite, decide_eq_true_eq, if_neg hi]
end Go.Proofs.Ytmofdkmggfdciaa.Pl
