/- FnExactEntOk: the pure statement behind the law: both functions come to entOk. -/
import Derived.Test.YtcabfgbcjiaenaaKFnExactEntOk
import Derived.Test.YtcabfgbcjiaenaaCln
namespace Go.Proofs.Ytcabfgbcjiaenaa.Pure
open Go.RowKit Go.Proofs.Ytcabfgbcjiaenaa.PFnExactEntOk Go.Proofs.Ytcabfgbcjiaenaa.Opn Go.Proofs.Ytcabfgbcjiaenaa.Cln Go.Proofs.YtcabfgbcjiaenaaW.PrintWords Go.Proofs.YtcabfgbcjiaenaaW.PrintLast

theorem l1In_eq (x a b : Int) : spec_l1In.f x a b = some (inR x a b) := inR_ite x a b
theorem within_eq (x a b : Int) : impl_within.f x a b = some (inR x a b) := inR_ite x a b
theorem l1Word_eq (x : Int) : spec_l1Word.f x = some (isW x) := by unfold spec_l1Word.f; rw [l1In_eq]; rfl
theorem isWord_eq (x : Int) : impl_isWord.f x = some (isW x) := by unfold impl_isWord.f; rw [within_eq]; rfl

theorem spec_NameOk_ev (s : ByteArray) (hs : s.size ≤ 9223372036854775807) : Ev (fun k => spec_NameOk.f k s) (nameOk s) := by
  refine ev_names (g := fun k i => spec_NameOk.l0 k s i) ?_ ?_ s.size 0 (by omega)
  · intro i hi b hb
    refine Ev_up ?_; simp only [spec_NameOk.l0]
    have h1 : (i : Int) < (s.size : Int) := by omega
    have h0 : (0 : Int) ≤ (i : Int) := by omega
    have h2 : wrap64 ((i : Int) + 1) = ((i + 1 : Nat) : Int) := by rw [w64 (by omega) (by omega)]; omega
    simp only [h1, h0, h2, if_true, l1In_eq, w64_bt, Option.bind_some]
    unfold nameByte at hb
    by_cases c1 : inR (bt s i) 97 122 = true
    · simpa [c1] using hb
    · by_cases c2 : inR (bt s i) 48 57 = true
      · simpa [c1, c2] using hb
      · simp only [c1, c2, Bool.or_self, Bool.false_eq_true, if_false] at hb ⊢
        subst hb
        exact Ev.now _
  · refine Ev_up ?_; simp only [spec_NameOk.l0]
    have h1 : ¬ (s.size : Int) < (s.size : Int) := by omega
    simp only [h1, if_false, l1In_eq, Option.bind_some]
    exact Ev.now _
theorem impl_NameOk_ev (s : ByteArray) (hs : s.size ≤ 9223372036854775807) : Ev (fun k => impl_NameOk.f k s) (nameOk s) := by
  refine ev_names (g := fun k i => impl_NameOk.l0 k s i) ?_ ?_ s.size 0 (by omega)
  · intro i hi b hb
    refine Ev_up ?_; simp only [impl_NameOk.l0]
    have h1 : (i : Int) < (s.size : Int) := by omega
    have h0 : (0 : Int) ≤ (i : Int) := by omega
    have h2 : wrap64 ((i : Int) + 1) = ((i + 1 : Nat) : Int) := by rw [w64 (by omega) (by omega)]; omega
    simp only [h1, h0, h2, if_true, within_eq, w64_bt, Option.bind_some]
    unfold nameByte at hb
    by_cases c1 : inR (bt s i) 97 122 = true
    · simpa [c1] using hb
    · by_cases c2 : inR (bt s i) 48 57 = true
      · simpa [c1, c2] using hb
      · simp only [c1, c2, Bool.or_self, Bool.false_eq_true, if_false] at hb ⊢
        subst hb
        exact Ev.now _
  · refine Ev_up ?_; simp only [impl_NameOk.l0]
    have h1 : ¬ (s.size : Int) < (s.size : Int) := by omega
    simp only [h1, if_false, within_eq, Option.bind_some]
    exact Ev.now _

theorem spec_l15Zero_ev (kind : Int) (name tt : ByteArray) (a b : Int) : Ev (fun k => spec_l15Zero.f k kind name tt a b) (opZero kind a b) := by
  unfold spec_l15Zero.f opZero
  simp only [l1In_eq, Option.bind_some]
  by_cases h2 : kind = 2
  · simp only [h2, if_true]
    by_cases ha : a = 0 <;> simp only [ha, if_true, if_false, decide_true, decide_false, Bool.true_and, Bool.false_and] <;> exact Ev.now _
  · simp only [h2, if_false]
    by_cases h3 : kind = 3
    · simp only [h3, if_true, true_or]
      refine Ev_up ?_; simp only [spec_l15Zero.j0]
      by_cases ha : a = 0 <;> simp [ha] <;> exact Ev.now _
    · simp only [h3, if_false, false_or]
      refine Ev_up ?_; simp only [spec_l15Zero.j0]
      by_cases h7 : kind = 7
      · by_cases ha : a = 0 <;> simp [ha, h7] <;> exact Ev.now _
      · by_cases h4 : kind = 4 <;> simp [h7, h4] <;> exact Ev.now _

theorem spec_OpOk_ev (kind : Int) (name tt : ByteArray) (a b : Int) (hn : name.size ≤ 9223372036854775807) (ht : tt.size ≤ 9223372036854775807) : Ev (fun k => spec_OpOk.f k kind name tt a b) (opOk kind name tt a b) := by
  have key : ∀ x y : Bool, Ev (fun k => spec_OpOk.j1 k x y kind name tt a b) (inR kind 1 9 && x && y && isW a && isW b && opZero kind a b) := by
    intro x y
    refine Ev_up ?_; simp only [spec_OpOk.j1]
    simp only [l1In_eq, l1Word_eq, Option.bind_some]
    by_cases c1 : inR kind 1 9 = true <;> by_cases c2 : x = true <;> by_cases c3 : y = true <;> by_cases c4 : isW a = true <;> by_cases c5 : isW b = true <;> simp only [c1, c2, c3, c4, c5, if_true, Bool.true_and, Bool.false_and, Bool.false_eq_true, if_false] <;>
      first | exact Ev.now _ | exact Ev.bind (spec_l15Zero_ev kind name tt a b) (Ev.now _)
  have key0 : ∀ x : Bool, Ev (fun k => spec_OpOk.j0 k x kind name tt a b) (inR kind 1 9 && x && (if kind = 2 then nameOk tt else noText tt) && isW a && isW b && opZero kind a b) := by
    intro x
    refine Ev_up ?_; simp only [spec_OpOk.j0]
    by_cases h2 : kind = 2
    · simp only [h2, if_true]
      subst h2
      exact Ev.bind (spec_NameOk_ev tt ht) (key x _)
    · simp only [h2, if_false]
      exact key x _
  unfold spec_OpOk.f opOk
  refine Ev.bind (spec_NameOk_ev name hn) ?_
  by_cases h7 : kind ≥ 7
  · simp only [h7, if_true]
    exact key0 _
  · simp only [h7, if_false]
    exact key0 _

theorem impl_OpOk_ev (kind : Int) (name tt : ByteArray) (a b : Int) (hn : name.size ≤ 9223372036854775807) (ht : tt.size ≤ 9223372036854775807) : Ev (fun k => impl_OpOk.f k kind name tt a b) (opOk kind name tt a b) := by
  have key2 : ∀ x y : Bool, isW b = true → Ev (fun k => impl_OpOk.j2 k x y kind name tt a b) (x && y && opZero kind a b) := by
    intro x y hb
    have hb1 : decide (b ≤ 1) = inR b 0 1 := by
      unfold isW inR at hb
      simp at hb
      simp [inR, hb.1]
    refine Ev_up ?_; simp only [impl_OpOk.j2]
    unfold opZero
    by_cases h2 : kind = 2
    · simp only [h2, if_true]
      by_cases ha : a = 0 <;> cases x <;> cases y <;> simp [ha, hb1] <;> exact Ev.now _
    · simp only [h2, if_false]
      by_cases h3 : kind = 3
      · simp only [h3, if_true]
        refine Ev_up ?_; simp only [impl_OpOk.j3]
        by_cases ha : a = 0 <;> cases x <;> cases y <;> simp [ha] <;> exact Ev.now _
      · simp only [h3, if_false]
        refine Ev_up ?_; simp only [impl_OpOk.j3]
        by_cases h7 : kind = 7
        · by_cases ha : a = 0 <;> cases x <;> cases y <;> simp [ha, h7] <;> exact Ev.now _
        · by_cases h4 : kind = 4 <;> cases x <;> cases y <;> simp [h7, h4] <;> exact Ev.now _
  have key1 : ∀ x : Bool, isW b = true → Ev (fun k => impl_OpOk.j1 k x kind name tt a b) (x && (if kind = 2 then nameOk tt else noText tt) && opZero kind a b) := by
    intro x hb
    refine Ev_up ?_; simp only [impl_OpOk.j1]
    by_cases h2 : kind = 2
    · simp only [h2, if_true]
      subst h2
      exact Ev.bind (impl_NameOk_ev tt ht) (key2 x _ hb)
    · simp only [h2, if_false]
      exact key2 x _ hb
  have key0 : isW b = true → Ev (fun k => impl_OpOk.j0 k false kind name tt a b) ((if kind ≥ 7 then noText name else nameOk name) && (if kind = 2 then nameOk tt else noText tt) && opZero kind a b) := by
    intro hb
    refine Ev_up ?_; simp only [impl_OpOk.j0]
    simp only [Bool.false_eq_true, if_false]
    by_cases h6 : kind ≤ 6
    · have h7 : ¬ kind ≥ 7 := by omega
      simp only [h6, if_true, h7, if_false]
      exact Ev.bind (impl_NameOk_ev name hn) (key1 _ hb)
    · have h7 : kind ≥ 7 := by omega
      simp only [h6, if_false, h7, if_true]
      exact key1 _ hb
  have bad : Ev (fun k => impl_OpOk.j0 k true kind name tt a b) false := by refine Ev_up ?_; simp only [impl_OpOk.j0, if_true]; exact Ev.now _
  unfold impl_OpOk.f opOk
  simp only [within_eq, isWord_eq, Option.bind_some]
  by_cases c1 : inR kind 1 9 = true <;> by_cases c4 : isW a = true <;> by_cases c5 : isW b = true <;> simp only [c1, c4, c5, if_true, Bool.true_and, Bool.and_true, Bool.false_and, Bool.and_false, Bool.false_eq_true, if_false, Bool.not_true, Bool.not_false] <;>
    first | exact bad | exact key0 c5

theorem spec_EntOk_ev (seq kind : Int) (name tt : ByteArray) (a b : Int) (hn : name.size ≤ 9223372036854775807) (ht : tt.size ≤ 9223372036854775807) : Ev (fun k => spec_EntOk.f k seq kind name tt a b) (entOk seq kind name tt a b) := by
  unfold spec_EntOk.f entOk
  simp only [l1In_eq, Option.bind_some]
  by_cases c1 : inR seq 1 60000 = true <;> simp only [c1, if_true, Bool.true_and, Bool.false_and, Bool.false_eq_true, if_false] <;> first | exact Ev.now _ | exact Ev.bind (spec_OpOk_ev kind name tt a b hn ht) (Ev.now _)
theorem impl_EntOk_ev (seq kind : Int) (name tt : ByteArray) (a b : Int) (hn : name.size ≤ 9223372036854775807) (ht : tt.size ≤ 9223372036854775807) : Ev (fun k => impl_EntOk.f k seq kind name tt a b) (entOk seq kind name tt a b) := by
  unfold impl_EntOk.f entOk
  simp only [within_eq, Option.bind_some]
  by_cases c1 : inR seq 1 60000 = true <;> simp only [c1, if_true, Bool.true_and, Bool.false_and, Bool.false_eq_true, if_false] <;> first | exact Ev.now _ | exact Ev.bind (impl_OpOk_ev kind name tt a b hn ht) (Ev.now _)

/-- The pure statement. -/
theorem FnExactEntOk : Pure_FnExactEntOk := by
  intro x hx
  obtain ⟨_, _, hn, ht, _, _⟩ := hx
  have hn' : x.f1.f1.size ≤ 9223372036854775807 := by simpa [okT, maxLen] using hn
  have ht' : x.f1.f2.size ≤ 9223372036854775807 := by simpa [okT, maxLen] using ht
  apply Ev.rounds
  unfold laws_FnExactEntOk.f laws_toEnt.f laws_toOp.f
  have hz : ∃ z, laws_szEnt.f x.f0 x.f1.f0 x.f1.f1 x.f1.f2 x.f1.f3 x.f1.f4 1048576 = some z := by
    unfold laws_szEnt.f laws_szOp.f
    repeat' (first | split | exact ⟨_, rfl⟩ | simp only [Option.bind_some])
  obtain ⟨z, hz⟩ := hz
  simp only [hz, Option.bind_some]
  by_cases hz0 : z < 0
  · simp only [hz0, if_true]
    exact Ev.now _
  · simp only [hz0, if_false]
    refine Ev.bind (spec_EntOk_ev _ _ _ _ _ _ hn' ht') ?_
    refine Ev.bind (impl_EntOk_ev _ _ _ _ _ _ hn' ht') ?_
    simp only [bne_self_eq_false, Bool.false_eq_true, if_false]
    exact Ev.now _
end Go.Proofs.Ytcabfgbcjiaenaa.Pure
