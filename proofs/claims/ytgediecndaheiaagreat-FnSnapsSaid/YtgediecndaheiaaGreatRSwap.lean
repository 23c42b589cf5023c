/- Two steps of which neither hangs on the other may change places. No condition. -/
import Derived.Test.YtgediecndaheiaaGreatRRun
set_option linter.all false
namespace Go.Proofs.YtgediecndaheiaaGreat.R
open Go.RowKit
variable {C : Ctx} {call : C.Sem} {ops : Array Oper}
structure NM (z : FS) (i : Nat) : Prop where
 t : i ∉ jk z.t
 lk : z.lk i = none
 ob : ∀ j x, z.lk j = some x → i ∉ x.ids
mutual
theorem A.not_forget (i : Nat) : ∀ x : A, i ∉ (x.forget i).ids
 | .own o => by by_cases h : o = i <;> simp [A.forget, h, yw, yF, A.ids] <;> exact fun e => h e.symm
 | .box b off => by by_cases h : b = i <;> simp [A.forget, h, yw, yF, A.ids] <;> exact fun e => h e.symm
 | .rtp o _ _ => by by_cases h : o = i <;> simp [A.forget, h, yw, yF, A.ids] <;> exact fun e => h e.symm
 | .win o _ => by by_cases h : o = i <;> simp [A.forget, h, yw, yF, A.ids] <;> exact fun e => h e.symm
 | .tl o _ => by by_cases h : o = i <;> simp [A.forget, h, yw, yF, A.ids] <;> exact fun e => h e.symm
 | .clo _ b => by by_cases h : b = i <;> simp [A.forget, h, yw, yF, A.ids] <;> exact fun e => h e.symm
 | .agg l => by simpa [A.forget, A.ids] using vq i l
 | .tup l => by simpa [A.forget, A.ids] using vq i l
 | .dead | .und | .val _ _ | .nils | .nilp | .elp _ _ _ _ _ | .top _ _ _ | .fn _ => by simp [A.forget, A.ids]
theorem vq (i : Nat) : ∀ l : List A, i ∉ jk (za i l)
 | [] => by simp [za, jk]
 | a :: l => by simp [za, jk, A.not_forget i a, vq i l]
end
mutual
theorem A.ids_forget (i : Nat) : ∀ (x : A) (j : Nat), j ∈ (x.forget i).ids → j ∈ x.ids
 | .own o, j, h => by by_cases h1 : o = i <;> simp [A.forget, h1, yw, yF, A.ids] at h ⊢; exact h
 | .box b off, j, h => by by_cases h1 : b = i <;> simp [A.forget, h1, yw, yF, A.ids] at h ⊢; exact h
 | .rtp o _ _, j, h => by by_cases h1 : o = i <;> simp [A.forget, h1, yw, yF, A.ids] at h ⊢; exact h
 | .win o _, j, h => by by_cases h1 : o = i <;> simp [A.forget, h1, yw, yF, A.ids] at h ⊢; exact h
 | .tl o _, j, h => by by_cases h1 : o = i <;> simp [A.forget, h1, yw, yF, A.ids] at h ⊢; exact h
 | .clo _ b, j, h => by by_cases h1 : b = i <;> simp [A.forget, h1, yw, yF, A.ids] at h ⊢; exact h
 | .agg l, j, h => by
  simp only [A.forget, A.ids] at *
  exact kJ i l j h
 | .tup l, j, h => by
  simp only [A.forget, A.ids] at *
  exact kJ i l j h
 | .dead, _, h | .und, _, h | .val _ _, _, h | .nils, _, h | .nilp, _, h | .elp _ _ _ _ _, _, h | .fn _, _, h => h
theorem kJ (i : Nat) : ∀ (l : List A) (j : Nat), j ∈ jk (za i l) → j ∈ jk l
 | [], j, h => h
 | a :: l, j, h => by
  simp only [za, jk, List.mem_append] at *
  exact h.imp (A.ids_forget i a j) (kJ i l j)
end
theorem Ob.not_forget (i : Nat) (x : Ob) : i ∉ (x.forget i).ids := by cases x <;> simp [Ob.forget, Ob.ids, vq i]
theorem Ob.ids_forget (i : Nat) (x : Ob) (j : Nat) (h : j ∈ (x.forget i).ids) : j ∈ x.ids := by
 cases x with
 | box cs => exact kJ i cs j h
 | _ => exact h
theorem NM.forget_self (z : FS) (i : Nat) : NM (z.forget i) i := ⟨vq i z.t, by simp [FS.forget], fun j x hx => by
 simp only [FS.forget] at hx
 split at hx
 ·cases hx
 ·obtain ⟨y, _, rfl⟩ := Option.map_eq_some_iff.1 hx
  exact Ob.not_forget i y⟩
theorem NM.forget {z : FS} {i : Nat} (h : NM z i) (j : Nat) : NM (z.forget j) i := ⟨fun hi => h.t (kJ j z.t i hi), by simp [FS.forget, h.lk], fun m x hx hi => by
 simp only [FS.forget] at hx
 split at hx
 ·cases hx
 ·obtain ⟨y, hy, rfl⟩ := Option.map_eq_some_iff.1 hx
  exact h.ob m y hy (Ob.ids_forget j y i hi)⟩
theorem NM.forgetAll {i : Nat} : ∀ (M : List Nat) {z : FS}, NM z i → NM (z.forgetAll M) i
 | [], _, h => h
 | j :: M, _, h => NM.forgetAll M (h.forget j)
theorem NM.forgetAll_self {i : Nat} : ∀ (M : List Nat) (z : FS), i ∈ M → NM (z.forgetAll M) i
 | j :: M, z, h => by
  rcases List.mem_cons.1 h with rfl | h
  ·exact NM.forgetAll M (NM.forget_self z i)
  ·exact NM.forgetAll_self M _ h
theorem ygb {i : Nat} (d : Nat) (a : A) : ∀ l : List A, i ∈ jk (l.set d a) → i ∈ jk l ∨ i ∈ a.ids := by
 intro l
 induction l generalizing d with
 | nil => intro h; simp [jk] at h
 | cons b l ih =>
  intro h
  cases d with
  | zero =>
   simp only [List.set_cons_zero, jk, List.mem_append] at *
   rcases h with h | h
   ·exact .inr h
   ·exact .inl (.inr h)
  | succ d =>
   simp only [List.set_cons_succ, jk, List.mem_append] at *
   rcases h with h | h
   ·exact .inl (.inl h)
   ·exact (ih d h).imp .inr id
theorem NM.put {z : FS} {i : Nat} (h : NM z i) (d : Option Nat) {a : A} (ha : i ∉ a.ids) : NM (z.put d a) i := by
 cases d with
 | none => exact h
 | some d => exact ⟨fun hi => (ygb d a z.t hi).elim h.t ha, h.lk, h.ob⟩
theorem NM.kill {i : Nat} : ∀ (D : List Nat) {z : FS}, NM z i → NM (z.kill D) i
 | [], _, h => h
 | d :: D, _, h => NM.kill D (h.put (some d) (by simp [A.ids]))
theorem NM.make {z : FS} {i : Nat} (h : NM z i) {j : Nat} {x : Ob} (hj : i ≠ j) (hx : i ∉ x.ids) : NM (z.make j x) i := ⟨fun hi => h.t (kJ j z.t i hi), by simp [FS.make, hj, h.lk], fun m y hy hi => by
 simp only [FS.make] at hy
 split at hy
 ·injection hy with hy
  subst hy
  exact hx hi
 ·obtain ⟨u, hu, rfl⟩ := Option.map_eq_some_iff.1 hy
  exact h.ob m u hu (Ob.ids_forget j u i hi)⟩
theorem NM.set {z : FS} {i : Nat} (h : NM z i) {j : Nat} {x : Ob} (hx : i ∉ x.ids) : NM (z.set j x) i := ⟨h.t, by
 simp only [FS.set]
 split
 ·simp [h.lk]
 ·exact h.lk, fun m y hy hi => by
 simp only [FS.set] at hy
 split at hy
 ·obtain ⟨u, hu, rfl⟩ := Option.map_eq_some_iff.1 hy
  exact hx hi
 ·exact h.ob m y hy hi⟩
theorem NM.makeAll {i : Nat} : ∀ (l : List (Nat × Ob)) {z : FS}, NM z i → i ∉ y4S l → NM (z.makeAll l) i
 | [], _, h, _ => h
 | (j, x) :: l, _, h, hi => by
  simp only [y4S, List.mem_cons, List.mem_append, not_or] at hi
  exact NM.makeAll l (h.make hi.1 hi.2.1) hi.2.2
theorem NM.setAll {i : Nat} : ∀ (l : List (Nat × Ob)) {z : FS}, NM z i → i ∉ y4S l → NM (z.setAll l) i
 | [], _, h, _ => h
 | (j, x) :: l, _, h, hi => by
  simp only [y4S, List.mem_cons, List.mem_append, not_or] at hi
  exact NM.setAll l (h.set hi.2.1) hi.2.2
def Eff.speaks (e : Eff) : List Nat := e.a.ids ++ (y4S e.sets ++ y4S e.adds)
theorem NM.apply {z : FS} {i : Nat} (h : NM z i) {d : Option Nat} {e : Eff} (hi : i ∉ e.speaks) : NM (z.apply d e) i := by
 simp only [Eff.speaks, List.mem_append, not_or] at hi
 exact ((h.makeAll _ hi.2.2).setAll _ hi.2.1).put d hi.1
theorem FS.make_put {z : FS} {i : Nat} {x : Ob} {d : Option Nat} {a : A} (h : a.forget i = a) : (z.put d a).make i x = (z.make i x).put d a := by
 cases d with
 | none => rfl
 | some d =>
  refine FS.ext ?_ rfl
  show za i (z.t.set d a) = (za i z.t).set d a
  rw [y40, h]
theorem FS.make_set {z : FS} {i j : Nat} {x y : Ob} (hij : i ≠ j) (h : y.forget i = y) : (z.set j y).make i x = (z.make i x).set j y := by
 refine FS.ext rfl (funext fun m => ?_)
 show (if m = i then some x else (if m = j then (z.lk m).map (fun _ => y) else z.lk m).map (·.forget i)) = (if m = j then (if m = i then some x else (z.lk m).map (·.forget i)).map (fun _ => y) else (if m = i then some x else (z.lk m).map (·.forget i)))
 by_cases h1 : m = i
 ·subst h1
  simp [hij]
 ·by_cases h2 : m = j
  ·subst h2
   simp only [h1, if_false, if_true]
   cases z.lk m with
   | none => rfl
   | some u => simp [h]
  ·simp [h1, h2]
theorem FS.make_make {z : FS} {i j : Nat} {x y : Ob} (hij : i ≠ j) (hx : x.forget j = x) (hy : y.forget i = y) : (z.make j y).make i x = (z.make i x).make j y := by
 refine FS.ext (W6 j i z.t) (funext fun m => ?_)
 show (if m = i then some x else (if m = j then some y else (z.lk m).map (·.forget j)).map (·.forget i)) = (if m = j then some y else (if m = i then some x else (z.lk m).map (·.forget i)).map (·.forget j))
 by_cases h1 : m = i
 ·subst h1
  simp [hij, hx]
 ·by_cases h2 : m = j
  ·subst h2
   simp [h1, hy]
  ·simp only [h1, h2, if_false]
   cases z.lk m with
   | none => rfl
   | some u => simp [Ob.forget_comm i j u]
theorem FS.make_setAll {i : Nat} {x : Ob} : ∀ (S : List (Nat × Ob)) (z : FS), i ∉ y4S S → (z.setAll S).make i x = (z.make i x).setAll S
 | [], _, _ => rfl
 | (j, y) :: S, z, h => by
  simp only [y4S, List.mem_cons, List.mem_append, not_or] at h
  rw [FS.setAll, FS.make_setAll S _ h.2.2, FS.make_set h.1 (Ob.forget_none y h.2.1), FS.setAll]
theorem FS.make_makeAll {i : Nat} {x : Ob} : ∀ (X : List (Nat × Ob)) (z : FS), i ∉ y4S X → (∀ j ∈ zh X, j ∉ x.ids) → (z.makeAll X).make i x = (z.make i x).makeAll X
 | [], _, _, _ => rfl
 | (j, y) :: X, z, h, hx => by
  simp only [y4S, List.mem_cons, List.mem_append, not_or] at h
  rw [FS.makeAll, FS.make_makeAll X _ h.2.2 (fun m hm => hx m (by simp [zh, hm])), FS.make_make h.1 (Ob.forget_none x (hx j (by simp [zh]))) (Ob.forget_none y h.2.1), FS.makeAll]
theorem FS.makeAll_apply {d : Option Nat} {e : Eff} : ∀ (Y : List (Nat × Ob)) (z : FS), (∀ i ∈ zh Y, i ∉ e.speaks) → (∀ i ∈ y4S Y, i ∉ zh e.adds) → (z.apply d e).makeAll Y = (z.makeAll Y).apply d e
 | [], _, _, _ => rfl
 | (i, x) :: Y, z, h1, h2 => by
  have hi := h1 i (by simp [zh])
  simp only [Eff.speaks, List.mem_append, not_or] at hi
  have hx : ∀ j ∈ zh e.adds, j ∉ x.ids := fun j hj hm => h2 j (by simp [y4S, hm]) hj
  have : (z.apply d e).make i x = (z.make i x).apply d e := by
   rw [FS.apply, FS.make_put (A.forget_none e.a hi.1), FS.make_setAll _ _ hi.2.1, FS.make_makeAll _ _ hi.2.2 hx, FS.apply]
  rw [FS.makeAll, this, FS.makeAll_apply Y _ (fun j hj => h1 j (by simp [zh, hj])) (fun j hj => h2 j (by simp [y4S, hj])), FS.makeAll]
theorem FS.set_put {z : FS} {j : Nat} {x : Ob} {d : Option Nat} {a : A} : (z.put d a).set j x = (z.set j x).put d a := by cases d <;> rfl
theorem FS.setAll_put : ∀ (S : List (Nat × Ob)) (z : FS) (d : Option Nat) (a : A), (z.put d a).setAll S = (z.setAll S).put d a
 | [], _, _, _ => rfl
 | (j, x) :: S, z, d, a => by rw [FS.setAll, FS.set_put, FS.setAll_put S, FS.setAll]
theorem FS.put_put_comm {z : FS} {d d' : Option Nat} {a a' : A} (h : ∀ i, d = some i → d' ≠ some i) : (z.put d a).put d' a' = (z.put d' a').put d a := by
 cases d with
 | none => cases d' <;> rfl
 | some i =>
  cases d' with
  | none => rfl
  | some j => exact FS.put_comm z (fun e => h i rfl (by rw [e])) a a'
theorem FS.setAll_makeAll : ∀ (X S : List (Nat × Ob)) (z : FS), (∀ i ∈ zh X, i ∉ y4S S) → (z.setAll S).makeAll X = (z.makeAll X).setAll S
 | [], _, _, _ => rfl
 | (i, x) :: X, S, z, h => by
  rw [FS.makeAll, FS.make_setAll S z (h i (by simp [zh])), FS.setAll_makeAll X S _ (fun j hj => h j (by simp [zh, hj])), FS.makeAll]
theorem FS.makeAll_put : ∀ (X : List (Nat × Ob)) (z : FS) (d : Option Nat) (a : A), (∀ i ∈ zh X, i ∉ a.ids) → (z.put d a).makeAll X = (z.makeAll X).put d a
 | [], _, _, _, _ => rfl
 | (i, x) :: X, z, d, a, h => by
  rw [FS.makeAll, FS.make_put (A.forget_none a (h i (by simp [zh]))), FS.makeAll_put X _ d a (fun j hj => h j (by simp [zh, hj])), FS.makeAll]
theorem FS.set_set {z : FS} {i j : Nat} {x y : Ob} (h : i ≠ j) : (z.set i x).set j y = (z.set j y).set i x := by
 refine FS.ext rfl (funext fun m => ?_)
 show (if m = j then (if m = i then (z.lk m).map (fun _ => x) else z.lk m).map (fun _ => y) else (if m = i then (z.lk m).map (fun _ => x) else z.lk m)) = (if m = i then (if m = j then (z.lk m).map (fun _ => y) else z.lk m).map (fun _ => x) else (if m = j then (z.lk m).map (fun _ => y) else z.lk m))
 by_cases h1 : m = i
 ·subst h1
  simp [h]
 ·simp [h1]
theorem FS.set_setAll {i : Nat} {x : Ob} : ∀ (S : List (Nat × Ob)) (z : FS), i ∉ zh S → (z.set i x).setAll S = (z.setAll S).set i x
 | [], _, _ => rfl
 | (j, y) :: S, z, h => by
  simp only [zh, List.mem_cons, not_or] at h
  rw [FS.setAll, FS.set_set h.1, FS.set_setAll S _ h.2, FS.setAll]
theorem FS.setAll_setAll : ∀ (S S' : List (Nat × Ob)) (z : FS), (∀ i ∈ zh S, i ∉ zh S') → (z.setAll S).setAll S' = (z.setAll S').setAll S
 | [], _, _, _ => rfl
 | (i, x) :: S, S', z, h => by
  rw [FS.setAll, FS.setAll_setAll S S' _ (fun j hj => h j (by simp [zh, hj])), FS.set_setAll S' z (h i (by simp [zh])), FS.setAll]
theorem FS.apply_apply {z : FS} {d d' : Option Nat} {e e' : Eff} (hs : ∀ i ∈ zh e.sets, i ∉ zh e'.sets) (h1 : ∀ i ∈ zh e'.adds, i ∉ e.speaks) (h2 : ∀ i ∈ zh e.adds, i ∉ e'.speaks) (hd : ∀ i, d = some i → d' ≠ some i) : (z.apply d e).apply d' e' = (z.apply d' e').apply d e := by
 have h3 : ∀ i ∈ y4S e'.adds, i ∉ zh e.adds := fun i hi hm => h2 i hm (by simp [Eff.speaks, hi])
 have h4 : ∀ i ∈ zh e.adds, i ∉ e'.a.ids := fun i hi hm => h2 i hi (by simp [Eff.speaks, hm])
 have h5 : ∀ i ∈ zh e.adds, i ∉ y4S e'.sets := fun i hi hm => h2 i hi (by simp [Eff.speaks, hm])
 rw [FS.apply, FS.makeAll_apply _ _ h1 h3]
 simp only [FS.apply]
 rw [FS.setAll_put, FS.put_put_comm hd, FS.makeAll_put _ _ _ _ h4, FS.setAll_put, FS.setAll_makeAll _ _ _ h5]
 congr 2
 exact FS.setAll_setAll _ _ _ hs
end Go.Proofs.YtgediecndaheiaaGreat.R
