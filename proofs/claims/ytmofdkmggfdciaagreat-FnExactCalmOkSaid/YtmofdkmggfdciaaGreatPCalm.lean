/- Next, Calm. No condition. -/
import Derived.Test.YtmofdkmggfdciaaGreatPPoolOk3
set_option linter.all false
namespace Go.Proofs.YtmofdkmggfdciaaGreat.Pl
open Go.Proofs.YtmofdkmggfdciaaGreat.R Go.Proofs.YtmofdkmggfdciaaGreat.XC
def aboveK (t : List E_Node) (l : List E_Age) (blk id : Int) : Bool × E_Key := nearest (keysOf (treeK t) blk) ((pathOf l id).drop 1)
theorem nearest_nil (ks : List E_Key) : nearest ks [] = (false, (0, 0, 0, 0, 0)) := by
  unfold nearest
  induction ks with
  | nil => rfl
  | cons a ks ih =>
    rw [List.foldl_cons, show seenOne [] (false, ((0 : Int), (0 : Int), (0 : Int), (0 : Int), (0 : Int))) a = (false, (0, 0, 0, 0, 0)) by
      unfold seenOne hasI findI
      simp]
    exact ih
theorem spec_Above_eq (q : List Int) (t : List E_Node) (l : List E_Age) (blk id : Int) (ht : TOk t) (hl : l.length ≤ 1048576) : F_spec_SeenAbove (q, t, l, blk, id) = some (ans (aboveK t l blk id)) := by
  unfold F_spec_SeenAbove aboveK
  have hp := path_small l id hl
  simp only [spec_PathOf_eq l id hl, Option.bind_some]
  generalize pathOf l id = p at hp
  cases p with
  | nil =>
    rw [show List.drop 1 ([] : List Int) = [] from rfl, nearest_nil]
    rfl
  | cons a p =>
    have h1 : (((a :: p).length : Int) == 0) = false := by
      simp only [List.length_cons, beq_eq_false_iff_ne, ne_eq]
      omega
    have h2 : (1 : Int) ≤ ((a :: p).length : Int) := by
      simp only [List.length_cons]
      omega
    have e : F_spec_l8Near (q, t, blk, List.drop (Int.toNat (1 : Int)) (List.take (Int.toNat ((a :: p).length : Int)) (a :: p))) = some (ans (nearest (keysOf (treeK t) blk) (List.drop 1 (a :: p)))) := by
      rw [show Int.toNat ((a :: p).length : Int) = (a :: p).length by omega, List.take_length]
      exact spec_Near_eq q t blk _ ht (by simp only [List.length_drop]; omega)
    simp only [h1, cond_false, h2, Int.le_refl, if_true, e, Option.bind_some]
    rw [if_pos (by omega)]
theorem impl_Above_eq (q : List Int) (t : List E_Node) (l : List E_Age) (blk id : Int) (ht : TOk t) (hl : l.length ≤ 1048576) : F_impl_SeenAbove (q, t, l, blk, id) = some (ans (aboveK t l blk id)) := by
  unfold F_impl_SeenAbove aboveK
  have hp := path_small l id hl
  simp only [impl_PathOf_eq l id hl, Option.bind_some]
  generalize pathOf l id = p at hp
  have e : F_impl_seenOn (q, t, blk, List.drop (Int.toNat (if (p.length : Int) < (1 : Int) then (p.length : Int) else (1 : Int))) (List.take (Int.toNat (p.length : Int)) p)) = some (ans (nearest (keysOf (treeK t) blk) (List.drop 1 p))) := by
    rw [show Int.toNat (p.length : Int) = p.length by omega, List.take_length]
    have : List.drop (Int.toNat (if (p.length : Int) < (1 : Int) then (p.length : Int) else (1 : Int))) p = List.drop 1 p := by
      cases p with
      | nil => rfl
      | cons a p =>
        rw [if_neg (by simp only [List.length_cons]; omega)]
        rfl
    rw [this]
    exact impl_seenOn_eq q t blk _ ht (by simp only [List.length_drop]; omega)
  rw [if_pos (by split <;> omega), if_pos (by split <;> omega), if_pos (Int.le_refl _), e]
  rfl
def idleK (vs : List E_Vol) (id : Int) : Bool := !anyE (sameAge id) vs 0
theorem spec_Idle_eq (q : List Int) (t : List E_Node) (l : List E_Age) (cs : List E_Cell) (vs : List E_Vol) (z id : Int) (hv : vs.length ≤ 1048576) : F_spec_Idle (q, t, l, cs, vs, z, id) = some (idleK vs id) := by
  unfold F_spec_Idle L_spec_Idle_2 idleK
  refine (any_loop0 (step := S_spec_Idle_2 _ _) (fun i => (id, i, q, t, l, cs, vs, z)) (sameAge id) (some false) (some true) z_Vol vs (by omega) ?_ ?_).trans ?_
  · intro again i h0 h1
    have hw : Go.IntKind.wrap .i64 (i + 1) = i + 1 := w64 (by omega) (by omega)
    unfold S_spec_Idle_2 sameAge
    have hx : vs.getD i.toNat z_Vol = rd_Vol vs i := rfl
    rw [hx]
    simp only [Bool.cond_eq_ite, decide_eq_true_eq, h0, h1, if_true, hw]
  · intro again i hi
    unfold S_spec_Idle_2
    simp only [Bool.cond_eq_ite, decide_eq_true_eq, if_neg hi]
  · cases anyE (sameAge id) vs 0 <;> rfl
theorem impl_Idle_eq (q : List Int) (t : List E_Node) (l : List E_Age) (cs : List E_Cell) (vs : List E_Vol) (z id : Int) (hv : vs.length ≤ 1048576) : F_impl_Idle (q, t, l, cs, vs, z, id) = some (idleK vs id) := by
  have key : F_slices_IndexFunc_Vol_impl_Idle_1 (vs, id) = some (findI (fun u : E_Vol => u.2.1 == id) vs 0, id) := by
    unfold F_slices_IndexFunc_Vol_impl_Idle_1 L_slices_IndexFunc_Vol_impl_Idle_1_2
    refine (find_loop (step := S_slices_IndexFunc_Vol_impl_Idle_1_2 _ _) (fun i => (vs, (vs.length : Int), i, id)) (fun u : E_Vol => u.2.1 == id) (fun x => some (x, id)) (some (-1, id)) z_Vol vs (by omega) ?_ ?_).trans ?_
    · intro again i h0 h1
      have hw : Go.IntKind.wrap .i64 (i + 1) = i + 1 := w64 (by omega) (by omega)
      unfold S_slices_IndexFunc_Vol_impl_Idle_1_2 F_impl_Idle_1
      simp only [Bool.cond_eq_ite, decide_eq_true_eq, h0, h1, if_true, hw, Option.bind_some]
      rfl
    · intro again i hi
      unfold S_slices_IndexFunc_Vol_impl_Idle_1_2
      simp only [Bool.cond_eq_ite, decide_eq_true_eq, if_neg hi]
    · rcases findI_spec (fun u : E_Vol => u.2.1 == id) z_Vol vs 0 (Int.le_refl _) with h | ⟨h1, h2, h3⟩
      · rw [h]
        rfl
      · rw [if_neg (by omega)]
  unfold F_impl_Idle F_slices_ContainsFunc_Vol_impl_Idle_1 idleK
  rw [key]
  simp only [Option.bind_some, ge_iff_le]
  rw [find_any _ vs 0 0 (Int.le_refl _)]
  rfl
def backI (q : List Int) (sp : Int) : Nat → Int
  | 0 => -1
  | n + 1 => if q.getD n 0 ≤ sp then (n : Int) else backI q sp n
def spotOf (blk age : Int) : Int := Go.IntKind.wrap .i64 (Go.IntKind.wrap .i64 ((64 : Int) * blk) + age)
theorem backI_spec (q : List Int) (sp : Int) : ∀ n, -1 ≤ backI q sp n ∧ backI q sp n < n
  | 0 => by simp [backI]
  | n + 1 => by
    have := backI_spec q sp n
    rw [backI]
    split <;> omega
theorem spec_WhereIn_eq (q : List Int) (t : List E_Node) (blk age : Int) (hq : q.length ≤ 1048576) : F_spec_WhereIn (q, t, blk, age) = some (backI q (spotOf blk age) q.length) := by
  unfold F_spec_WhereIn L_spec_WhereIn_3
  have h := loop_fuel (step := S_spec_WhereIn_3 (fun x2 => some x2)) (fun u : T_spec_WhereIn_3 => q.length - u.2.2.2.1.toNat) (fun u => ∃ n : Nat, n ≤ q.length ∧ u = (blk, age, backI q (spotOf blk age) n, (n : Int), q, t)) (fun _ => some (backI q (spotOf blk age) q.length)) ?_ (blk, age, -1, 0, q, t) ⟨0, by omega, rfl⟩ (by simp; omega)
  · exact h
  · rintro again u ⟨n, hn, rfl⟩ hag
    have hw : Go.IntKind.wrap .i64 ((n : Int) + 1) = ((n + 1 : Nat) : Int) := by rw [w64 (by omega) (by omega)]; omega
    unfold S_spec_WhereIn_3 F_spec_SpotOf
    have h0 : 0 ≤ (n : Int) := by omega
    by_cases hlt : (n : Int) < (q.length : Int)
    · have hx : rd_i64 q (n : Int) = q.getD n 0 := rfl
      simp only [Bool.cond_eq_ite, decide_eq_true_eq, hlt, h0, if_true, Option.bind_some, hw, hx]
      have e := hag (blk, age, backI q (spotOf blk age) (n + 1), ((n + 1 : Nat) : Int), q, t) ⟨n + 1, by omega, rfl⟩ (by simp only; omega)
      rw [backI] at e
      unfold spotOf at e ⊢
      split
      · rename_i hc
        rw [if_pos hc] at e
        exact e
      · rename_i hc
        rw [if_neg hc] at e
        exact e
    · rw [show n = q.length by omega]
      simp
theorem impl_WhereIn_eq (q : List Int) (t : List E_Node) (blk age : Int) (hq : q.length ≤ 1048576) : F_impl_WhereIn (q, t, blk, age) = some (backI q (spotOf blk age) q.length) := by
  unfold F_impl_WhereIn L_impl_WhereIn_2
  rw [w64 (n := (q.length : Int) - 1) (by omega) (by omega)]
  have h := loop_fuel (step := S_impl_WhereIn_2 (fun x2 => some x2) (fun x3 => some (-1 : Int))) (fun u : T_impl_WhereIn_2 => (u.2.2.1 + 1).toNat) (fun u => ∃ n : Nat, n ≤ q.length ∧ u = (blk, age, (n : Int) - 1, q, t)) (fun u => some (backI q (spotOf blk age) (u.2.2.1 + 1).toNat)) ?_ (blk, age, (q.length : Int) - 1, q, t) ⟨q.length, by omega, rfl⟩ (by simp; omega)
  · rw [h]
    simp only
    rw [show ((q.length : Int) - 1 + 1).toNat = q.length by omega]
  · rintro again u ⟨n, hn, rfl⟩ hag
    unfold S_impl_WhereIn_2 F_impl_SpotOf
    cases n with
    | zero => simp [backI]
    | succ n =>
      have e1 : ((n + 1 : Nat) : Int) - 1 = (n : Int) := by omega
      have hw : Go.IntKind.wrap .i64 ((n : Int) - 1) = (n : Int) - 1 := w64 (by omega) (by omega)
      have hx : rd_i64 q (n : Int) = q.getD n 0 := rfl
      have h0 : 0 ≤ (n : Int) := by omega
      have h1 : (n : Int) < (q.length : Int) := by omega
      rw [e1]
      simp only [Bool.cond_eq_ite, decide_eq_true_eq, ge_iff_le, h0, h1, if_true, Option.bind_some, hw, hx]
      have e := hag (blk, age, (n : Int) - 1, q, t) ⟨n, by omega, rfl⟩ (by simp only; omega)
      rw [e]
      simp only
      rw [show ((n : Int) - 1 + 1).toNat = n by omega, show ((n : Int) + 1).toNat = n + 1 by omega, backI]
      unfold spotOf
      split <;> rfl
abbrev Ans : Type := Int × Int × Int × Int × Int × Bool
def noAns : Ans := (0, 0, 0, 0, 0, false)
def atP (blk age : Int) (a : E_Key) : Bool := a.1 == blk && a.2.1 == age
def keyAns (a : E_Key) : Ans := (a.1, a.2.1, a.2.2.1, a.2.2.2.1, a.2.2.2.2, true)
def setAtK (l : List E_Key) (blk age : Int) : Ans := if findI (atP blk age) l 0 < 0 then noAns else keyAns (rd_Key l (findI (atP blk age) l 0))
theorem spec_SetAt_eq (l : List E_Key) (blk age : Int) (hl : l.length ≤ 1073741824) : F_spec_SetAt (l, blk, age) = some (setAtK l blk age) := by
  unfold F_spec_SetAt L_spec_SetAt_2 setAtK
  refine (find_loop (step := S_spec_SetAt_2 _ _) (fun i => (l, blk, age, i, 0, 0, 0, 0, 0)) (atP blk age) (fun i => some (keyAns (rd_Key l i))) (some noAns) z_Key l (by omega) ?_ ?_).trans ?_
  · intro again i h0 h1
    have hw : Go.IntKind.wrap .i64 (i + 1) = i + 1 := w64 (by omega) (by omega)
    unfold S_spec_SetAt_2 atP keyAns
    obtain ⟨⟨x1, x2, x3, x4, x5⟩, hx⟩ : ∃ x, rd_Key l i = x := ⟨_, rfl⟩
    have hx' : l.getD i.toNat z_Key = (x1, x2, x3, x4, x5) := hx
    rw [hx']
    simp only [Bool.cond_eq_ite, decide_eq_true_eq, h0, h1, if_true, hw, hx]
    cases (x1 == blk) <;> cases (x2 == age) <;> rfl
  · intro again i hi
    unfold S_spec_SetAt_2
    simp only [Bool.cond_eq_ite, decide_eq_true_eq, if_neg hi]
    rfl
  · split <;> rfl
theorem impl_SetAt_eq (l : List E_Key) (blk age : Int) (hl : l.length ≤ 1073741824) : F_impl_SetAt (l, blk, age) = some (setAtK l blk age) := by
  unfold F_impl_SetAt L_impl_SetAt_2 setAtK
  refine (find_loop (step := S_impl_SetAt_2 _ _) (fun i => (blk, age, l, (l.length : Int), i, 0, 0, 0, 0, 0)) (atP blk age) (fun i => some (keyAns (rd_Key l i))) (some noAns) z_Key l (by omega) ?_ ?_).trans ?_
  · intro again i h0 h1
    have hw : Go.IntKind.wrap .i64 (i + 1) = i + 1 := w64 (by omega) (by omega)
    unfold S_impl_SetAt_2 atP keyAns
    obtain ⟨⟨x1, x2, x3, x4, x5⟩, hx⟩ : ∃ x, rd_Key l i = x := ⟨_, rfl⟩
    have hx' : l.getD i.toNat z_Key = (x1, x2, x3, x4, x5) := hx
    rw [hx']
    simp only [Bool.cond_eq_ite, decide_eq_true_eq, h0, h1, if_true, hw, hx]
    cases (x1 == blk) <;> cases (x2 == age) <;> rfl
  · intro again i hi
    unfold S_impl_SetAt_2
    simp only [Bool.cond_eq_ite, decide_eq_true_eq, if_neg hi]
    rfl
  · split <;> rfl
def nodeBack (n : List E_s_Key) (blk age : Int) : Nat → Ans
  | 0 => noAns
  | m + 1 => if (setAtK (n.getD m z_s_Key) blk age).2.2.2.2.2 = true then (if ((setAtK (n.getD m z_s_Key) blk age).2.2.1 == 0) = true then noAns else setAtK (n.getD m z_s_Key) blk age) else nodeBack n blk age m
theorem spec_NodeAt_eq (n : List E_s_Key) (blk age : Int) (hn : n.length ≤ 1048576) (hs : ∀ s ∈ n, List.length s ≤ 1073741824) : F_spec_NodeAt (n, blk, age) = some (nodeBack n blk age n.length) := by
  unfold F_spec_NodeAt L_spec_NodeAt_2
  rw [w64 (n := (n.length : Int) - 1) (by omega) (by omega)]
  refine (loop_fuel (step := S_spec_NodeAt_2 _ _) (fun u : T_spec_NodeAt_2 => (u.2.2.1 + 1).toNat) (fun u => ∃ m : Nat, m ≤ n.length ∧ u = (blk, age, (m : Int) - 1, n, 0, 0, 0, 0, 0)) (fun u => some (nodeBack n blk age (u.2.2.1 + 1).toNat)) ?_ (blk, age, (n.length : Int) - 1, n, 0, 0, 0, 0, 0) ⟨n.length, by omega, rfl⟩ (by simp; omega)).trans ?_
  · rintro again u ⟨m, hm, rfl⟩ hag
    unfold S_spec_NodeAt_2
    cases m with
    | zero => rfl
    | succ m =>
      have e1 : ((m + 1 : Nat) : Int) - 1 = (m : Int) := by omega
      have hw : Go.IntKind.wrap .i64 ((m : Int) - 1) = (m : Int) - 1 := w64 (by omega) (by omega)
      have h0 : 0 ≤ (m : Int) := by omega
      have h1 : (m : Int) < (n.length : Int) := by omega
      have e := spec_SetAt_eq (rd_s_Key n (m : Int)) blk age (hs _ (getD_mem z_s_Key n (m : Int) h0 h1))
      have hx : n.getD m z_s_Key = rd_s_Key n (m : Int) := rfl
      rw [e1]
      simp only [Bool.cond_eq_ite, decide_eq_true_eq, ge_iff_le, h0, h1, if_true, Option.bind_some, hw, e]
      have e' := hag (blk, age, (m : Int) - 1, n, 0, 0, 0, 0, 0) ⟨m, by omega, rfl⟩ (by simp only; omega)
      rw [e', show ((m : Int) + 1).toNat = m + 1 by omega, nodeBack, hx]
      simp only
      rw [show ((m : Int) - 1 + 1).toNat = m by omega]
      obtain ⟨r1, r2, r3, r4, r5, r6⟩ := setAtK (rd_s_Key n (m : Int)) blk age
      cases r6
      · rfl
      · cases h3 : (r3 == 0) <;> simp [h3, noAns]
  · simp only
    rw [show ((n.length : Int) - 1 + 1).toNat = n.length by omega]
theorem impl_NodeAt_eq (n : List E_s_Key) (blk age : Int) (hn : n.length ≤ 1048576) (hs : ∀ s ∈ n, List.length s ≤ 1073741824) : F_impl_NodeAt (n, blk, age) = some (nodeBack n blk age n.length) := by
  unfold F_impl_NodeAt L_impl_NodeAt_2
  rw [w64 (n := (n.length : Int) - 1) (by omega) (by omega)]
  refine (loop_fuel (step := S_impl_NodeAt_2 _ _) (fun u : T_impl_NodeAt_2 => (u.2.2.1 + 1).toNat) (fun u => ∃ m : Nat, m ≤ n.length ∧ u = (blk, age, (m : Int) - 1, n, 0, 0, 0, 0, 0)) (fun u => some (nodeBack n blk age (u.2.2.1 + 1).toNat)) ?_ (blk, age, (n.length : Int) - 1, n, 0, 0, 0, 0, 0) ⟨n.length, by omega, rfl⟩ (by simp; omega)).trans ?_
  · rintro again u ⟨m, hm, rfl⟩ hag
    unfold S_impl_NodeAt_2
    cases m with
    | zero => rfl
    | succ m =>
      have e1 : ((m + 1 : Nat) : Int) - 1 = (m : Int) := by omega
      have hw : Go.IntKind.wrap .i64 ((m : Int) - 1) = (m : Int) - 1 := w64 (by omega) (by omega)
      have h0 : 0 ≤ (m : Int) := by omega
      have h1 : (m : Int) < (n.length : Int) := by omega
      have e := impl_SetAt_eq (rd_s_Key n (m : Int)) blk age (hs _ (getD_mem z_s_Key n (m : Int) h0 h1))
      have hx : n.getD m z_s_Key = rd_s_Key n (m : Int) := rfl
      rw [e1]
      simp only [Bool.cond_eq_ite, decide_eq_true_eq, ge_iff_le, h0, h1, if_true, Option.bind_some, hw, e]
      have e' := hag (blk, age, (m : Int) - 1, n, 0, 0, 0, 0, 0) ⟨m, by omega, rfl⟩ (by simp only; omega)
      rw [e', show ((m : Int) + 1).toNat = m + 1 by omega, nodeBack, hx]
      simp only
      rw [show ((m : Int) - 1 + 1).toNat = m by omega]
      obtain ⟨r1, r2, r3, r4, r5, r6⟩ := setAtK (rd_s_Key n (m : Int)) blk age
      cases r6
      · rfl
      · cases h3 : (r3 == 0) <;> simp [h3, noAns]
  · simp only
    rw [show ((n.length : Int) - 1 + 1).toNat = n.length by omega]
def treeAtK (q : List Int) (t : List E_Node) (blk age : Int) : Ans :=
  if inR (backI q (spotOf blk age) q.length) 0 ((t.length : Int) - 1) = true then nodeBack (rd_Node t (backI q (spotOf blk age) q.length)) blk age (rd_Node t (backI q (spotOf blk age) q.length)).length else noAns
theorem spec_TreeAt_eq (q : List Int) (t : List E_Node) (blk age : Int) (ht : TOk t) (hq : q.length ≤ 1048576) : F_spec_TreeAt (q, t, blk, age) = some (treeAtK q t blk age) := by
  unfold F_spec_TreeAt treeAtK
  have hlen := ht.len
  rw [w64 (n := (t.length : Int) - 1) (by omega) (by omega)]
  simp only [spec_WhereIn_eq q t blk age hq, l1In_eq, Option.bind_some]
  generalize backI q (spotOf blk age) q.length = i
  by_cases h : inR i 0 ((t.length : Int) - 1) = true
  · obtain ⟨h0, h1⟩ := inR_iff.1 h
    have hmem : rd_Node t i ∈ t := getD_mem z_Node t i h0 (by omega)
    obtain ⟨a1, a2⟩ := ht.node hmem
    have e := spec_NodeAt_eq (rd_Node t i) blk age a1 (fun s hs => by have := a2 s hs; omega)
    rw [h, if_pos h0, if_pos (by omega), e]
    rfl
  · have : inR i 0 ((t.length : Int) - 1) = false := by simpa using h
    rw [this]
    rfl
theorem impl_TreeAt_eq (q : List Int) (t : List E_Node) (blk age : Int) (ht : TOk t) (hq : q.length ≤ 1048576) : F_impl_TreeAt (q, t, blk, age) = some (treeAtK q t blk age) := by
  unfold F_impl_TreeAt treeAtK
  have hlen := ht.len
  rw [w64 (n := (t.length : Int) - 1) (by omega) (by omega)]
  simp only [impl_WhereIn_eq q t blk age hq, within_eq, Option.bind_some]
  generalize backI q (spotOf blk age) q.length = i
  by_cases h : inR i 0 ((t.length : Int) - 1) = true
  · obtain ⟨h0, h1⟩ := inR_iff.1 h
    have hmem : rd_Node t i ∈ t := getD_mem z_Node t i h0 (by omega)
    obtain ⟨a1, a2⟩ := ht.node hmem
    have e := impl_NodeAt_eq (rd_Node t i) blk age a1 (fun s hs => by have := a2 s hs; omega)
    rw [h, if_pos h0, if_pos (by omega), e]
    rfl
  · have : inR i 0 ((t.length : Int) - 1) = false := by simpa using h
    rw [this]
    rfl
end Go.Proofs.YtmofdkmggfdciaaGreat.Pl
namespace Go.Proofs.YtmofdkmggfdciaaGreat.Pl
open Go.Proofs.YtmofdkmggfdciaaGreat.R Go.Proofs.YtmofdkmggfdciaaGreat.XC
def oneKid (l : List E_Age) (vs : List E_Vol) (id : Int) : Bool := idleK vs id && ((kidsOf l id).length : Int) == 1
def keyStepK (q : List Int) (t : List E_Node) (l : List E_Age) (vs : List E_Vol) (step : Int) (k : E_Key) : Bool :=
  if step = 1 then !anySees t l vs k else if step = 2 then (k.2.2.1 == 2) && !(aboveK t l k.1 k.2.1).1 else
    oneKid l vs k.2.1 && !(treeAtK q t k.1 ((kidsOf l k.2.1).getD 0 0)).2.2.2.2.2
theorem kids_ids (l : List E_Age) (id : Int) : ∀ x ∈ kidsOf l id, ∃ a ∈ l, a.1 = x := by
  have : ∀ (l : List E_Age) (s : List Int) (x : Int), x ∈ l.foldl (kidOne id) s → x ∈ s ∨ ∃ a ∈ l, a.1 = x := by
    intro l
    induction l with
    | nil => intro s x h; exact .inl h
    | cons a l ih =>
      intro s x h
      rw [List.foldl_cons] at h
      rcases ih _ x h with h | ⟨b, hb, e⟩
      · unfold kidOne at h
        split at h
        · rcases List.mem_append.1 h with h | h
          · exact .inl h
          · exact .inr ⟨a, by simp, (by simpa using h : x = a.1).symm⟩
        · exact .inl h
      · exact .inr ⟨b, by simp [hb], e⟩
  intro x hx
  rcases this l [] x hx with h | h
  · simp at h
  · exact h
theorem anyE_mem {A : Type} {p : A → Bool} : ∀ (l : List A) (i : Int), anyE (fun _ a => p a) l i = false → ∀ a ∈ l, p a = false
  | b :: l, i, h, a, ha => by
    rw [anyE, Bool.or_eq_false_iff] at h
    rcases List.mem_cons.1 ha with rfl | ha
    · exact h.1
    · exact anyE_mem l (i + 1) h.2 a ha
theorem ages_pos {l : List E_Age} (h : agesOkK l = true) : ∀ a ∈ l, 1 ≤ a.1 := by
  unfold agesOkK agesB at h
  simp only [Bool.and_eq_true, Bool.not_eq_true'] at h
  have h1 := h.1
  rw [anyE_or, Bool.or_eq_false_iff] at h1
  intro a ha
  have := anyE_mem (p := fun a : E_Age => !inR a.1 1 60) l 0 h1.1 a ha
  simp only [Bool.not_eq_false'] at this
  exact (inR_iff.1 this).1
section
variable (q : List Int) (t : List E_Node) (l : List E_Age) (cs : List E_Cell) (vs : List E_Vol) (z : Int)
theorem spec_keyStep_eq (ht : TOk t) (hq : q.length ≤ 1048576) (hl : l.length ≤ 1048576) (hv : vs.length ≤ 1048576) (hpos : ∀ a ∈ l, 1 ≤ a.1) (step : Int) (k1 k2 k3 k4 k5 : Int) : F_spec_l13Key (q, t, l, cs, vs, z, step, k1, k2, k3, k4, k5) = some (keyStepK q t l vs step (k1, k2, k3, k4, k5)) := by
  unfold F_spec_l13Key keyStepK
  simp only [Bool.cond_eq_ite, beq_iff_eq, spec_SeenByAny_eq q t l cs vs z k1 k2 k3 k4 k5 ht hl hv, spec_Above_eq q t l k1 k2 ht hl, Option.bind_some]
  by_cases h1 : step = 1
  · simp only [h1, if_true]
  by_cases h2 : step = 2
  · subst h2
    simp only [if_true, if_neg (show ¬ (2 : Int) = 1 by omega)]
    by_cases h3 : k3 = 2
    · have : (k3 == 2) = true := by simp [h3]
      rw [this, if_pos h3]
      rfl
    · have : (k3 == 2) = false := by simpa using h3
      rw [this, if_neg h3]
      rfl
  simp only [h1, h2, if_false]
  unfold F_spec_l13Move F_spec_l13Kid oneKid
  simp only [spec_KidsOf_eq l k2 hl, spec_Idle_eq q t l cs vs z k2 hv, Option.bind_some]
  cases idleK vs k2
  · rfl
  by_cases hk : ((kidsOf l k2).length : Int) = 1
  · have g1 : (((kidsOf l k2).length : Int) != 1) = false := by simp [hk]
    have g2 : (((kidsOf l k2).length : Int) == 1) = true := by simp [hk]
    have hlt : (0 : Int) < ((kidsOf l k2).length : Int) := by omega
    have hne : ((kidsOf l k2).getD 0 0 == 0) = false := by
      have hm : (kidsOf l k2).getD 0 0 ∈ kidsOf l k2 := getD_mem 0 (kidsOf l k2) 0 (Int.le_refl _) hlt
      obtain ⟨a, ha, e⟩ := kids_ids l k2 _ hm
      have := hpos a ha
      simp only [beq_eq_false_iff_ne, ne_eq]
      omega
    have hx : rd_i64 (kidsOf l k2) 0 = (kidsOf l k2).getD 0 0 := rfl
    simp only [g1, g2, hlt, Bool.not_true, cond_false, cond_true, Option.bind_some, Int.le_refl, if_true, hx, hne, spec_TreeAt_eq q t k1 _ ht hq, Bool.true_and, Bool.and_self, Bool.and_true, Bool.true_and]
  · have g1 : (((kidsOf l k2).length : Int) != 1) = true := by simpa using hk
    have g2 : (((kidsOf l k2).length : Int) == 1) = false := by simpa using hk
    simp only [g1, g2]
    rfl
theorem impl_keyStep_eq (ht : TOk t) (hq : q.length ≤ 1048576) (hl : l.length ≤ 1048576) (hv : vs.length ≤ 1048576) (step : Int) (k1 k2 k3 k4 k5 : Int) : F_impl_keyStep (q, t, l, cs, vs, z, step, k1, k2, k3, k4, k5) = some (keyStepK q t l vs step (k1, k2, k3, k4, k5)) := by
  unfold F_impl_keyStep keyStepK
  simp only [Bool.cond_eq_ite, beq_iff_eq, impl_SeenByAny_eq q t l cs vs z k1 k2 k3 k4 k5 ht hl hv, impl_Above_eq q t l k1 k2 ht hl, Option.bind_some]
  by_cases h1 : step = 1
  · simp only [h1, if_true]
  by_cases h2 : step = 2
  · subst h2
    simp only [if_true, if_neg (show ¬ (2 : Int) = 1 by omega)]
    by_cases h3 : k3 = 2
    · have : (k3 == 2) = true := by simp [h3]
      rw [this, if_pos h3]
      rfl
    · have : (k3 == 2) = false := by simpa using h3
      rw [this, if_neg h3]
      rfl
  simp only [h1, h2, if_false]
  unfold oneKid
  simp only [impl_KidsOf_eq l k2 hl, impl_Idle_eq q t l cs vs z k2 hv, Option.bind_some]
  cases idleK vs k2
  · rfl
  by_cases hk : ((kidsOf l k2).length : Int) = 1
  · have g1 : (((kidsOf l k2).length : Int) != 1) = false := by simp [hk]
    have g2 : (((kidsOf l k2).length : Int) == 1) = true := by simp [hk]
    have hlt : (0 : Int) < ((kidsOf l k2).length : Int) := by omega
    have hx : rd_i64 (kidsOf l k2) 0 = (kidsOf l k2).getD 0 0 := rfl
    simp only [g1, g2, hlt, Bool.not_true, Bool.false_eq_true, if_false, Option.bind_some, Int.le_refl, if_true, hx, impl_TreeAt_eq q t k1 _ ht hq, Bool.true_and, Bool.and_self, Bool.and_true, Bool.true_and]
  · have g1 : (((kidsOf l k2).length : Int) != 1) = true := by simpa using hk
    have g2 : (((kidsOf l k2).length : Int) == 1) = false := by simpa using hk
    simp only [g1, g2]
    rfl
def ageOf (id : Int) (_ : Int) (k : E_Key) : Bool := k.2.1 == id
def cutB (ks : List E_Key) (l : List E_Age) (vs : List E_Vol) (a : E_Age) : Bool := !anyE (ageOf a.1) ks 0 && (idleK vs a.1 && decide (((kidsOf l a.1).length : Int) ≤ 1))
theorem spec_Age_eq (ht : TOk t) (hl : l.length ≤ 1048576) (hv : vs.length ≤ 1048576) (a : E_Age) : F_spec_l13Age (q, t, l, cs, vs, z, a.1) = some (cutB (treeK t) l vs a) := by
  unfold F_spec_l13Age L_spec_l13Age_3 cutB
  have hk := ht.keys
  have e : F_spec_TreeKeys (q, t) = some (treeK t) := spec_TreeKeys_eq q t (by have := ht.len; omega) ht.nodes ht.sum
  simp only [e, Option.bind_some]
  generalize treeK t = ks at hk
  refine (any_loop0 (step := S_spec_l13Age_3 _ _) (fun i => (a.1, i, q, t, l, cs, vs, z, ks)) (ageOf a.1) (some false) (some (idleK vs a.1 && decide (((kidsOf l a.1).length : Int) ≤ 1))) z_Key ks (by omega) ?_ ?_).trans ?_
  · intro again i h0 h1
    have hw : Go.IntKind.wrap .i64 (i + 1) = i + 1 := w64 (by omega) (by omega)
    unfold S_spec_l13Age_3 ageOf
    have hx : ks.getD i.toNat z_Key = rd_Key ks i := rfl
    rw [hx]
    simp only [Bool.cond_eq_ite, decide_eq_true_eq, h0, h1, if_true, hw]
  · intro again i hi
    unfold S_spec_l13Age_3
    simp only [Bool.cond_eq_ite, decide_eq_true_eq, if_neg hi, spec_Idle_eq q t l cs vs z a.1 hv, spec_KidsOf_eq l a.1 hl, Option.bind_some]
    cases idleK vs a.1 <;> rfl
  · cases anyE (ageOf a.1) ks 0 <;> rfl
theorem impl_hasKeys_eq (ks : List E_Key) (id : Int) (hk : ks.length ≤ 1048576) : F_impl_hasKeys (ks, id) = some (anyE (ageOf id) ks 0) := by
  unfold F_impl_hasKeys L_impl_hasKeys_2
  refine (any_loop0 (step := S_impl_hasKeys_2 _ _) (fun i => (id, ks, (ks.length : Int), i)) (ageOf id) (some true) (some false) z_Key ks (by omega) ?_ ?_).trans ?_
  · intro again i h0 h1
    have hw : Go.IntKind.wrap .i64 (i + 1) = i + 1 := w64 (by omega) (by omega)
    unfold S_impl_hasKeys_2 ageOf
    have hx : ks.getD i.toNat z_Key = rd_Key ks i := rfl
    rw [hx]
    simp only [Bool.cond_eq_ite, decide_eq_true_eq, h0, h1, if_true, hw]
  · intro again i hi
    unfold S_impl_hasKeys_2
    simp only [Bool.cond_eq_ite, decide_eq_true_eq, if_neg hi]
  · cases anyE (ageOf id) ks 0 <;> rfl
def stepsE (q : List Int) (t : List E_Node) (l : List E_Age) (vs : List E_Vol) (_ : Int) (_ : Unit) (step : Int) : Except (Option (Int × Int)) Unit :=
  if findI (keyStepK q t l vs step) (treeK t) 0 < 0 then .ok () else .error (some (step, findI (keyStepK q t l vs step) (treeK t) 0))
def agesStep (t : List E_Node) (l : List E_Age) (vs : List E_Vol) : Int × Int :=
  if findI (cutB (treeK t) l vs) l 0 < 0 then (0, 0) else (4, findI (cutB (treeK t) l vs) l 0)
def nextK (q : List Int) (t : List E_Node) (l : List E_Age) (cs : List E_Cell) (vs : List E_Vol) (z : Int) : Option (Int × Int) :=
  if poolOkK q t l cs vs z = true then runE (stepsE q t l vs) (fun _ => some (agesStep t l vs)) ([1, 2, 3] : List Int) 0 () else some (0, 0)
theorem three (i : Int) (h0 : 0 ≤ i) (h1 : i < 3) : ([1, 2, 3] : List Int).getD i.toNat 0 = i + 1 := by
  have : i = 0 ∨ i = 1 ∨ i = 2 := by omega
  rcases this with rfl | rfl | rfl <;> rfl
theorem spec_Next_eq (ht : TOk t) (hq : q.length ≤ 1048576) (hl : l.length ≤ 1048576) (hc : cs.length ≤ 1048576) (hv : vs.length ≤ 1048576) (hvn : ∀ v ∈ vs, ByteArray.size v.1 ≤ maxLen) : F_spec_NextStep (q, t, l, cs, vs, z) = nextK q t l cs vs z := by
  unfold F_spec_NextStep nextK
  have hk := ht.keys
  have e : F_spec_TreeKeys (q, t) = some (treeK t) := spec_TreeKeys_eq q t (by have := ht.len; omega) ht.nodes ht.sum
  simp only [spec_PoolOk_eq q t l cs vs z ht hl hc hv hvn, e, Option.bind_some]
  cases hp : poolOkK q t l cs vs z
  · rfl
  have hpos : ∀ a ∈ l, 1 ≤ a.1 := by
    refine ages_pos ?_
    unfold poolOkK at hp
    simp only [Bool.and_eq_true] at hp
    exact hp.2.1
  simp only [Bool.not_true, cond_false, if_true]
  unfold L_spec_NextStep_5
  refine runE_loop (step := S_spec_NextStep_5 _ _) (fun i (_ : Unit) => (i + 1, q, t, l, cs, vs, z, treeK t)) (stepsE q t l vs) (fun _ => some (agesStep t l vs)) 0 ([1, 2, 3] : List Int) (by decide) (fun _ _ => True) (fun again i s h0 h1 _ => ⟨?_, fun _ _ => trivial⟩) ?_ () trivial
  · have h1' : i < 3 := h1
    rw [three i h0 h1']
    have hw : Go.IntKind.wrap .i64 (i + 1 + 1) = i + 1 + 1 := w64 (by omega) (by omega)
    unfold S_spec_NextStep_5 stepsE
    have hle : i + 1 ≤ 3 := by omega
    simp only [Bool.cond_eq_ite, decide_eq_true_eq, hle, if_true]
    unfold L_spec_NextStep_8
    refine (find_loop (step := S_spec_NextStep_8 _ _) (fun j => (i + 1, j, q, t, l, cs, vs, z, treeK t)) (keyStepK q t l vs (i + 1)) (fun j => some (i + 1, j)) (again (i + 1 + 1, q, t, l, cs, vs, z, treeK t)) z_Key (treeK t) (by omega) ?_ ?_).trans ?_
    · intro again' j j0 j1
      have hwj : Go.IntKind.wrap .i64 (j + 1) = j + 1 := w64 (by omega) (by omega)
      unfold S_spec_NextStep_8
      obtain ⟨⟨x1, x2, x3, x4, x5⟩, hx⟩ : ∃ x, rd_Key (treeK t) j = x := ⟨_, rfl⟩
      have hx' : (treeK t).getD j.toNat z_Key = (x1, x2, x3, x4, x5) := hx
      rw [hx']
      simp only [Bool.cond_eq_ite, decide_eq_true_eq, j0, j1, if_true, hwj, hx, spec_keyStep_eq q t l cs vs z ht hq hl hv hpos (i + 1) x1 x2 x3 x4 x5, Option.bind_some]
    · intro again' j hj
      unfold S_spec_NextStep_8
      simp only [Bool.cond_eq_ite, decide_eq_true_eq, if_neg hj, hw]
    · split <;> rfl
  · intro again i s hi
    have hi' : ¬ i < 3 := hi
    have hle : ¬ i + 1 ≤ 3 := by omega
    unfold S_spec_NextStep_5
    simp only [Bool.cond_eq_ite, decide_eq_true_eq, if_neg hle]
    unfold L_spec_NextStep_13 agesStep
    refine (find_loop (step := S_spec_NextStep_13 _ _) (fun j => (j, q, t, l, cs, vs, z)) (cutB (treeK t) l vs) (fun j => some (4, j)) (some (0, 0)) z_Age l (by omega) ?_ ?_).trans ?_
    · intro again' j j0 j1
      have hwj : Go.IntKind.wrap .i64 (j + 1) = j + 1 := w64 (by omega) (by omega)
      unfold S_spec_NextStep_13
      have hx : l.getD j.toNat z_Age = rd_Age l j := rfl
      rw [hx]
      simp only [Bool.cond_eq_ite, decide_eq_true_eq, j0, j1, if_true, hwj, spec_Age_eq q t l cs vs z ht hl hv (rd_Age l j), Option.bind_some]
    · intro again' j hj
      unfold S_spec_NextStep_13
      simp only [Bool.cond_eq_ite, decide_eq_true_eq, if_neg hj]
    · split <;> rfl
theorem impl_Next_eq (ht : TOk t) (hq : q.length ≤ 1048576) (hl : l.length ≤ 1048576) (hc : cs.length ≤ 1048576) (hv : vs.length ≤ 1048576) (hvn : ∀ v ∈ vs, ByteArray.size v.1 ≤ maxLen) : F_impl_NextStep (q, t, l, cs, vs, z) = nextK q t l cs vs z := by
  unfold F_impl_NextStep nextK
  have hk := ht.keys
  have e : F_impl_TreeKeys (q, t) = some (treeK t) := impl_TreeKeys_eq q t (by have := ht.len; omega) ht.nodes ht.sum
  simp only [impl_PoolOk_eq q t l cs vs z ht hl hc hv hvn, e, Option.bind_some]
  cases hp : poolOkK q t l cs vs z
  · rfl
  simp only [Bool.not_true, cond_false, if_true]
  unfold L_impl_NextStep_5
  refine runE_loop (step := S_impl_NextStep_5 _ _) (fun i (_ : Unit) => (3, i, q, t, l, cs, vs, z, treeK t, [1, 2, 3])) (stepsE q t l vs) (fun _ => some (agesStep t l vs)) 0 ([1, 2, 3] : List Int) (by decide) (fun _ _ => True) (fun again i s h0 h1 _ => ⟨?_, fun _ _ => trivial⟩) ?_ () trivial
  · have h1' : i < 3 := h1
    have hx : rd_i64 ([1, 2, 3] : List Int) i = i + 1 := three i h0 h1'
    have h1'' : i < ((([1, 2, 3] : List Int).length : Nat) : Int) := h1
    rw [three i h0 h1']
    have hw : Go.IntKind.wrap .i64 (i + 1) = i + 1 := w64 (by omega) (by omega)
    unfold S_impl_NextStep_5 stepsE
    simp only [Bool.cond_eq_ite, decide_eq_true_eq, h0, h1', h1'', hx, if_true]
    unfold L_impl_NextStep_8
    refine (find_loop (step := S_impl_NextStep_8 _ _) (fun j => (i + 1, 3, i, ((treeK t).length : Int), j, q, t, l, cs, vs, z, treeK t, [1, 2, 3])) (keyStepK q t l vs (i + 1)) (fun j => some (i + 1, j)) (again (3, i + 1, q, t, l, cs, vs, z, treeK t, [1, 2, 3])) z_Key (treeK t) (by omega) ?_ ?_).trans ?_
    · intro again' j j0 j1
      have hwj : Go.IntKind.wrap .i64 (j + 1) = j + 1 := w64 (by omega) (by omega)
      unfold S_impl_NextStep_8
      obtain ⟨⟨x1, x2, x3, x4, x5⟩, hx⟩ : ∃ x, rd_Key (treeK t) j = x := ⟨_, rfl⟩
      have hx' : (treeK t).getD j.toNat z_Key = (x1, x2, x3, x4, x5) := hx
      rw [hx']
      simp only [Bool.cond_eq_ite, decide_eq_true_eq, j0, j1, if_true, hwj, hx, impl_keyStep_eq q t l cs vs z ht hq hl hv (i + 1) x1 x2 x3 x4 x5, Option.bind_some]
    · intro again' j hj
      unfold S_impl_NextStep_8
      simp only [Bool.cond_eq_ite, decide_eq_true_eq, if_neg hj, hw]
    · split <;> rfl
  · intro again i s hi
    have hi' : ¬ i < 3 := hi
    unfold S_impl_NextStep_5
    simp only [Bool.cond_eq_ite, decide_eq_true_eq, if_neg hi']
    unfold L_impl_NextStep_15 agesStep
    refine (find_loop (step := S_impl_NextStep_15 _ _) (fun j => (l, (l.length : Int), j, q, t, l, cs, vs, z, treeK t)) (cutB (treeK t) l vs) (fun j => some (4, j)) (some (0, 0)) z_Age l (by omega) ?_ ?_).trans ?_
    · intro again' j j0 j1
      have hwj : Go.IntKind.wrap .i64 (j + 1) = j + 1 := w64 (by omega) (by omega)
      unfold S_impl_NextStep_15 cutB
      have hx : l.getD j.toNat z_Age = rd_Age l j := rfl
      rw [hx]
      simp only [Bool.cond_eq_ite, decide_eq_true_eq, j0, j1, if_true, hwj, impl_Idle_eq q t l cs vs z _ hv, impl_KidsOf_eq l _ hl, impl_hasKeys_eq (treeK t) _ hk, Option.bind_some]
      cases idleK vs (rd_Age l j).1 <;> cases anyE (ageOf (rd_Age l j).1) (treeK t) 0 <;> by_cases hkk : ((kidsOf l (rd_Age l j).1).length : Int) ≤ 1 <;> simp [hkk]
    · intro again' j hj
      unfold S_impl_NextStep_15
      simp only [Bool.cond_eq_ite, decide_eq_true_eq, if_neg hj]
    · split <;> rfl
theorem runE_some {S A R : Type} (g : Int → S → A → Except (Option R) S) (k : S → Option R) (hg : ∀ i s a r, g i s a = .error r → ∃ x, r = some x) (hk : ∀ s, ∃ x, k s = some x) : ∀ (l : List A) (i : Int) (s : S), ∃ x, runE g k l i s = some x
  | [], i, s => hk s
  | a :: l, i, s => by
    rw [runE]
    cases h : g i s a with
    | error r => exact hg i s a r h
    | ok s' => exact runE_some g k hg hk l (i + 1) s'
theorem nextK_some : ∃ r, nextK q t l cs vs z = some r := by
  unfold nextK
  split
  · refine runE_some _ _ (fun i s a r h => ?_) (fun s => ⟨_, rfl⟩) _ _ _
    unfold stepsE at h
    split at h
    · cases h
    · injection h with h
      exact ⟨_, h.symm⟩
  · exact ⟨_, rfl⟩
theorem Calm_eq (ht : TOk t) (hq : q.length ≤ 1048576) (hl : l.length ≤ 1048576) (hc : cs.length ≤ 1048576) (hv : vs.length ≤ 1048576) (hvn : ∀ v ∈ vs, ByteArray.size v.1 ≤ maxLen) : ∃ b, F_spec_CalmOk (q, t, l, cs, vs, z) = some b ∧ F_impl_CalmOk (q, t, l, cs, vs, z) = some b := by
  obtain ⟨⟨r1, r2⟩, hr⟩ := nextK_some q t l cs vs z
  unfold F_spec_CalmOk F_impl_CalmOk
  simp only [spec_Next_eq q t l cs vs z ht hq hl hc hv hvn, impl_Next_eq q t l cs vs z ht hq hl hc hv hvn, hr, spec_PoolOk_eq q t l cs vs z ht hl hc hv hvn, impl_PoolOk_eq q t l cs vs z ht hl hc hv hvn, spec_Used_eq cs hc, impl_Used_eq cs hc, spec_Distinct_eq q t l cs vs z ht hl hv, impl_Distinct_eq q t l cs vs z ht hl hv, Option.bind_some]
  cases poolOkK q t l cs vs z
  · exact ⟨_, rfl, rfl⟩
  · simp only [cond_true, Option.bind_some]
    cases (r1 == 0)
    · exact ⟨_, rfl, rfl⟩
    · exact ⟨_, rfl, rfl⟩
end
theorem law_CalmOk (is : List E_i64) (ns : List E_LNode) (ags : List E_LAge) (cs : List E_LCell) (vs : List E_LVol) (z : Int) (hi : is.length ≤ maxLen) (hn : ns.length ≤ maxLen) (hnn : ∀ a ∈ ns, List.length a ≤ maxLen ∧ ∀ b ∈ (show List E_s_LKey from a), List.length b ≤ maxLen)
    (ha : ags.length ≤ maxLen) (hc : cs.length ≤ maxLen) (hv : vs.length ≤ maxLen) (hvv : ∀ a ∈ vs, ByteArray.size a.1 ≤ maxLen) : F_laws_FnExactCalmOk (is, ns, ags, cs, vs, z) = some true := by
  obtain ⟨r, hr, hcase⟩ := szPool_ok is ns ags cs vs z hi hn hnn ha hc hv hvv
  unfold F_laws_FnExactCalmOk
  simp only [hr, Option.bind_some]
  rw [Bool.cond_eq_ite]
  by_cases h : r < 0
  · rw [if_pos (by simpa using h)]
  · rw [if_neg (by simpa using h)]
    have hs : small is ns ags cs vs := hcase.resolve_left h
    have hm : ∀ n ∈ ns, List.length n ≤ 1073741824 := fun n hn => by
      have := (node_small hs.2.2.1 hn).1
      omega
    have ht : TOk ns := ⟨by have := hs.2.1; omega, hm, hs.2.2.1⟩
    obtain ⟨b, e1, e2⟩ := Calm_eq is ns ags cs vs z ht hs.1 hs.2.2.2.1 hs.2.2.2.2.1 hs.2.2.2.2.2 hvv
    simp only [toPool_eq is ns ags cs vs z hs, Option.bind_some, e1, e2, bne_self_eq_false, cond_false, eqPool_refl is ns ags cs vs z hs, Bool.not_true]
    cases b <;> rfl
end Go.Proofs.YtmofdkmggfdciaaGreat.Pl
